/- Hashes of short messages, reckoned by the kernel. No program stands here. -/
import Derived.Test.YtjfcldjepgijeaaDoorK5b
namespace Go.Proofs.YtjfcldjepgijeaaDoor

/-- a number, reckoned ahead of its use -/
def force {α : Type} (x : Nat) (f : Nat → α) : α := Nat.rec (f 0) (fun n _ => f (n + 1)) x
theorem force_eq {α : Type} (x : Nat) (f : Nat → α) : force x f = f x := by cases x <;> rfl
def forceB {α : Type} {n : Nat} (x : BitVec n) (f : BitVec n → α) : α := force x.toNat fun k => f (BitVec.ofNat n k)
theorem forceB_eq {α : Type} {n : Nat} (x : BitVec n) (f : BitVec n → α) : forceB x f = f x := by unfold forceB; rw [force_eq]; simp

def goF (m : Nat → BitVec 64) : Nat → Nat → List (BitVec 64) → H8 → H8
  | 0, _, _, s => s
  | f + 1, t, ws, s =>
    forceB (if t < 16 then m t else ws.getD 15 0 + (ws.getD 6 0 + s0 (ws.getD 14 0) + s1 (ws.getD 1 0))) fun w =>
      let r := round5 s (cube t) w
      forceB r.a fun a => forceB r.e fun e => goF m f (t + 1) (w :: ws) ⟨a, s.a, s.b, s.c, e, s.e, s.f, s.g⟩
theorem goF_eq (m : Nat → BitVec 64) (f t : Nat) (s : H8) : goF m f t (wordsRev m t) s = rounds5 s ((List.range' t f).map fun t => (t, wordAt m t)) := by
  induction f generalizing t s with
  | zero => rfl
  | succ f ih =>
    unfold goF
    simp only [forceB_eq]
    have hw : (if t < 16 then m t else (wordsRev m t).getD 15 0 + ((wordsRev m t).getD 6 0 + s0 ((wordsRev m t).getD 14 0) + s1 ((wordsRev m t).getD 1 0))) = wordAt m t := rfl
    have hr : wordAt m t :: wordsRev m t = wordsRev m (t + 1) := rfl
    rw [hw, hr, List.range'_succ, List.map_cons]
    rw [ih]
    rfl
def turnF (s : H8) (l : List (BitVec 8)) : H8 :=
  let r := goF (blk64 l) 80 0 [] s
  forceB (s.a + r.a) fun a => forceB (s.b + r.b) fun b => forceB (s.c + r.c) fun c => forceB (s.d + r.d) fun d => forceB (s.e + r.e) fun e => forceB (s.f + r.f) fun f => forceB (s.g + r.g) fun g => forceB (s.h + r.h) fun h => ⟨a, b, c, d, e, f, g, h⟩
theorem turnF_eq (s : H8) (l : List (BitVec 8)) : turnF s l = turnS s l := by
  unfold turnF
  simp only [forceB_eq]
  have := goF_eq (blk64 l) 80 0 s
  rw [show wordsRev (blk64 l) 0 = [] from rfl] at this
  rw [this]
  unfold turnS told
  rw [List.range_eq_range']
  rfl
theorem turns_one {s : H8} {l : List (BitVec 8)} (h : l.length = 128) : turns s l = turnF s l := by
  unfold turns turnsL
  rw [h, turnF_eq]
  show turnS s ((l.drop 0).take 128) = _
  rw [List.drop_zero, List.take_of_length_le (by omega)]
theorem hash5_short {sz : Nat} {s : H8} {l : List (BitVec 8)} (h : l.length < 112) : hash5 sz s l = (hbytes (turnF s (l ++ tail5 l.length (BitVec.ofNat 64 l.length)))).take sz := by
  unfold hash5 sum5
  rw [turns_one]
  simp [tail5, size16, zeros5]
  omega

/-- a byte's two signs -/
def sign (k : BitVec 8) : UInt8 := if k < 10 then UInt8.ofBitVec (48 + k) else UInt8.ofBitVec (87 + k)
def hexOf (l : List (BitVec 8)) : List UInt8 := l.flatMap fun (c : BitVec 8) => [sign (c >>> 4), sign (c &&& 15)]
def bytesOf (s : ByteArray) : List (BitVec 8) := s.data.toList.map UInt8.toBitVec
def strOf (l : List (BitVec 8)) : ByteArray := ⟨(l.map UInt8.ofBitVec).toArray⟩
theorem bytesOf_length (s : ByteArray) : (bytesOf s).length = s.size := by simp [bytesOf]
theorem strOf_inj {l m : List (BitVec 8)} (h : strOf l = strOf m) : l = m := by
  have h1 := congrArg (fun s => s.data.toList) h
  simp only [strOf] at h1
  have h2 := congrArg (List.map UInt8.toBitVec) h1
  rw [List.map_map, List.map_map, show UInt8.toBitVec ∘ UInt8.ofBitVec = id from rfl, List.map_id, List.map_id] at h2
  exact h2
theorem hash_abc_512 : hexOf (hash5 64 init512 [97, 98, 99]) = [100, 100, 97, 102, 51, 53, 97, 49, 57, 51, 54, 49, 55, 97, 98, 97, 99, 99, 52, 49, 55, 51, 52, 57, 97, 101, 50, 48, 52, 49, 51, 49, 49, 50, 101, 54, 102, 97, 52, 101, 56, 57, 97, 57, 55, 101, 97, 50, 48, 97, 57, 101, 101, 101, 101, 54, 52, 98, 53, 53, 100, 51, 57, 97, 50, 49, 57, 50, 57, 57, 50, 97, 50, 55, 52, 102, 99, 49, 97, 56, 51, 54, 98, 97, 51, 99, 50, 51, 97, 51, 102, 101, 101, 98, 98, 100, 52, 53, 52, 100, 52, 52, 50, 51, 54, 52, 51, 99, 101, 56, 48, 101, 50, 97, 57, 97, 99, 57, 52, 102, 97, 53, 52, 99, 97, 52, 57, 102] := by
  rw [hash5_short (by decide)]
  decide +kernel
theorem hash_abc_384 : hexOf (hash5 48 init384 [97, 98, 99]) = [99, 98, 48, 48, 55, 53, 51, 102, 52, 53, 97, 51, 53, 101, 56, 98, 98, 53, 97, 48, 51, 100, 54, 57, 57, 97, 99, 54, 53, 48, 48, 55, 50, 55, 50, 99, 51, 50, 97, 98, 48, 101, 100, 101, 100, 49, 54, 51, 49, 97, 56, 98, 54, 48, 53, 97, 52, 51, 102, 102, 53, 98, 101, 100, 56, 48, 56, 54, 48, 55, 50, 98, 97, 49, 101, 55, 99, 99, 50, 51, 53, 56, 98, 97, 101, 99, 97, 49, 51, 52, 99, 56, 50, 53, 97, 55] := by
  rw [hash5_short (by decide)]
  decide +kernel
theorem hash_none_512 : hexOf (hash5 64 init512 []) = [99, 102, 56, 51, 101, 49, 51, 53, 55, 101, 101, 102, 98, 56, 98, 100, 102, 49, 53, 52, 50, 56, 53, 48, 100, 54, 54, 100, 56, 48, 48, 55, 100, 54, 50, 48, 101, 52, 48, 53, 48, 98, 53, 55, 49, 53, 100, 99, 56, 51, 102, 52, 97, 57, 50, 49, 100, 51, 54, 99, 101, 57, 99, 101, 52, 55, 100, 48, 100, 49, 51, 99, 53, 100, 56, 53, 102, 50, 98, 48, 102, 102, 56, 51, 49, 56, 100, 50, 56, 55, 55, 101, 101, 99, 50, 102, 54, 51, 98, 57, 51, 49, 98, 100, 52, 55, 52, 49, 55, 97, 56, 49, 97, 53, 51, 56, 51, 50, 55, 97, 102, 57, 50, 55, 100, 97, 51, 101] := by
  rw [hash5_short (by decide)]
  decide +kernel
theorem hash_none_384 : hexOf (hash5 48 init384 []) = [51, 56, 98, 48, 54, 48, 97, 55, 53, 49, 97, 99, 57, 54, 51, 56, 52, 99, 100, 57, 51, 50, 55, 101, 98, 49, 98, 49, 101, 51, 54, 97, 50, 49, 102, 100, 98, 55, 49, 49, 49, 52, 98, 101, 48, 55, 52, 51, 52, 99, 48, 99, 99, 55, 98, 102, 54, 51, 102, 54, 101, 49, 100, 97, 50, 55, 52, 101, 100, 101, 98, 102, 101, 55, 54, 102, 54, 53, 102, 98, 100, 53, 49, 97, 100, 50, 102, 49, 52, 56, 57, 56, 98, 57, 53, 98] := by
  rw [hash5_short (by decide)]
  decide +kernel
end Go.Proofs.YtjfcldjepgijeaaDoor
