/- A hash of sha256, reckoned by the kernel. No program stands here. -/
import Derived.Test.YtjfcldjepgijeaaDoorK6
import Derived.Test.YtjfcldjepgijeaaDoorK5c
namespace Go.Proofs.YtjfcldjepgijeaaDoor

def goG (m : Nat → BitVec 32) : Nat → Nat → List (BitVec 32) → G8 → G8
  | 0, _, _, s => s
  | f + 1, t, ws, s =>
    forceB (if t < 16 then m t else ws.getD 15 0 + ws.getD 6 0 + t0 (ws.getD 14 0) + t1 (ws.getD 1 0)) fun w =>
      let r := round6 s (kube t) w
      forceB r.a fun a => forceB r.e fun e => goG m f (t + 1) (w :: ws) ⟨a, s.a, s.b, s.c, e, s.e, s.f, s.g⟩
theorem goG_eq (m : Nat → BitVec 32) (f t : Nat) (s : G8) : goG m f t (wordsRev6 m t) s = rounds6 s ((List.range' t f).map fun t => (t, word6 m t)) := by
  induction f generalizing t s with
  | zero => rfl
  | succ f ih =>
    unfold goG
    simp only [forceB_eq]
    have hw : (if t < 16 then m t else (wordsRev6 m t).getD 15 0 + (wordsRev6 m t).getD 6 0 + t0 ((wordsRev6 m t).getD 14 0) + t1 ((wordsRev6 m t).getD 1 0)) = word6 m t := by simp [word6, wordsRev6]
    have hr : word6 m t :: wordsRev6 m t = wordsRev6 m (t + 1) := rfl
    rw [hw, hr, List.range'_succ, List.map_cons]
    rw [ih]
    rfl
def turnGF (s : G8) (l : List (BitVec 8)) : G8 :=
  let r := goG (be32 l) 64 0 [] s
  forceB (s.a + r.a) fun a => forceB (s.b + r.b) fun b => forceB (s.c + r.c) fun c => forceB (s.d + r.d) fun d => forceB (s.e + r.e) fun e => forceB (s.f + r.f) fun f => forceB (s.g + r.g) fun g => forceB (s.h + r.h) fun h => ⟨a, b, c, d, e, f, g, h⟩
theorem turnGF_eq (s : G8) (l : List (BitVec 8)) : turnGF s l = turnG s l := by
  unfold turnGF
  simp only [forceB_eq]
  have := goG_eq (be32 l) 64 0 s
  rw [show wordsRev6 (be32 l) 0 = [] from rfl] at this
  rw [this]
  unfold turnG told6
  rw [List.range_eq_range']
  rfl
theorem turnsG_one {s : G8} {l : List (BitVec 8)} (h : l.length = 64) : turnsG s l = turnGF s l := by
  unfold turnsG turnsGL
  rw [h, turnGF_eq]
  show turnG s ((l.drop 0).take 64) = _
  rw [List.drop_zero, List.take_of_length_le (by omega)]
theorem hash6_short {sz : Nat} {s : G8} {l : List (BitVec 8)} (h : l.length < 56) : hash6 sz s l = (hbytes6 (turnGF s (l ++ tail6 l.length (BitVec.ofNat 64 l.length)))).take sz := by
  unfold hash6 sum6
  rw [turnsG_one]
  simp [tail6, size8, zeros6]
  omega
theorem hash_abc_256 : hexOf (hash6 32 init256 [97, 98, 99]) = [98, 97, 55, 56, 49, 54, 98, 102, 56, 102, 48, 49, 99, 102, 101, 97, 52, 49, 52, 49, 52, 48, 100, 101, 53, 100, 97, 101, 50, 50, 50, 51, 98, 48, 48, 51, 54, 49, 97, 51, 57, 54, 49, 55, 55, 97, 57, 99, 98, 52, 49, 48, 102, 102, 54, 49, 102, 50, 48, 48, 49, 53, 97, 100] := by
  rw [hash6_short (by decide)]
  decide +kernel
end Go.Proofs.YtjfcldjepgijeaaDoor
