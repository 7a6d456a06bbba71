/- SHA-512 as plain functions: bytes in pieces; the hash. No program stands here. -/
import Derived.Test.YtjfcldjepgijeaaDoorK5
namespace Go.Proofs.YtjfcldjepgijeaaDoor

theorem turnsL_congr {s : H8} {l l' : List (BitVec 8)} {ks : List Nat} (h : ∀ k ∈ ks, (l.drop (128 * k)).take 128 = (l'.drop (128 * k)).take 128) : turnsL s l ks = turnsL s l' ks := by
  unfold turnsL
  induction ks generalizing s with
  | nil => simp only [List.foldl_nil]
  | cons k ks ih =>
    simp only [List.foldl_cons]
    rw [h k (by simp)]
    exact ih (fun j hj => h j (by simp [hj]))
theorem turnsL_append (s : H8) (l : List (BitVec 8)) (ks js : List Nat) : turnsL s l (ks ++ js) = turnsL (turnsL s l ks) l js := by simp [turnsL]
theorem turnsL_shift (s : H8) (l : List (BitVec 8)) (m : Nat) (ks : List Nat) : turnsL s l (ks.map (m + ·)) = turnsL s (l.drop (128 * m)) ks := by
  unfold turnsL
  induction ks generalizing s with
  | nil => simp only [List.foldl_nil, List.map_nil]
  | cons k ks ih =>
    simp only [List.map_cons, List.foldl_cons, List.drop_drop] at ih ⊢
    rw [show 128 * (m + k) = 128 * m + 128 * k by omega, ih]
theorem range_add (m j : Nat) : List.range (m + j) = List.range m ++ (List.range j).map (m + ·) := by
  rw [List.range_add]
theorem left5_drop (a b : List (BitVec 8)) : left5 a ++ b = (a ++ b).drop (128 * (a.length / 128)) := by
  unfold left5; rw [List.drop_append_of_le_length (by omega)]
theorem left5_length (a : List (BitVec 8)) : (left5 a).length = a.length % 128 := by unfold left5; simp; omega
theorem left5_short {a : List (BitVec 8)} (h : a.length < 128) : left5 a = a := by unfold left5; rw [Nat.div_eq_of_lt h]; rfl
theorem turns_short {s : H8} {a : List (BitVec 8)} (h : a.length < 128) : turns s a = s := by unfold turns; rw [Nat.div_eq_of_lt h]; rfl

theorem turns_append (s : H8) (a b : List (BitVec 8)) : turns (turns s a) (left5 a ++ b) = turns s (a ++ b) := by
  have hn : (a ++ b).length / 128 = a.length / 128 + (left5 a ++ b).length / 128 := by
    rw [List.length_append, List.length_append, left5_length]; omega
  have h1 : turnsL s (a ++ b) (List.range (a.length / 128)) = turnsL s a (List.range (a.length / 128)) := turnsL_congr (fun k hk => by
    have hk := List.mem_range.1 hk
    rw [List.drop_append_of_le_length (by omega), List.take_append_of_le_length (by simp; omega)])
  unfold turns
  rw [hn, range_add, turnsL_append, turnsL_shift, ← left5_drop, h1]
theorem left5_append (a b : List (BitVec 8)) : left5 (left5 a ++ b) = left5 (a ++ b) := by
  have hn : (a ++ b).length / 128 = a.length / 128 + (left5 a ++ b).length / 128 := by
    rw [List.length_append, List.length_append, left5_length]; omega
  rw [show left5 (a ++ b) = (a ++ b).drop (128 * ((a ++ b).length / 128)) from rfl, hn, show 128 * (a.length / 128 + (left5 a ++ b).length / 128) = 128 * (a.length / 128) + 128 * ((left5 a ++ b).length / 128) by omega, ← List.drop_drop, ← left5_drop]
  rfl

/-- how many bytes 0 stand behind the byte 128 -/
def zeros5 (n : Nat) : Nat := (239 - n % 128) % 128
theorem zeros5_mod (n : Nat) : zeros5 (n % 128) = zeros5 n := by unfold zeros5; omega
/-- the sixteen bytes that say how long a message is -/
def size16 (tk : BitVec 64) : List (BitVec 8) :=
  [0, 0, 0, 0, 0, 0, 0, (tk >>> 61).setWidth 8, ((tk <<< 3) >>> 56).setWidth 8, ((tk <<< 3) >>> 48).setWidth 8, ((tk <<< 3) >>> 40).setWidth 8, ((tk <<< 3) >>> 32).setWidth 8,
   ((tk <<< 3) >>> 24).setWidth 8, ((tk <<< 3) >>> 16).setWidth 8, ((tk <<< 3) >>> 8).setWidth 8, ((tk <<< 3) >>> 0).setWidth 8]
def tail5 (n : Nat) (tk : BitVec 64) : List (BitVec 8) := (128 : BitVec 8) :: List.replicate (zeros5 n) 0 ++ size16 tk
/-- a word's bytes -/
def wbytes (x : BitVec 64) : List (BitVec 8) := (List.range 8).map fun i => (x >>> (56 - 8 * i)).setWidth 8
def hwords (s : H8) : List (BitVec 64) := [s.a, s.b, s.c, s.d, s.e, s.f, s.g, s.h]
def hbytes (s : H8) : List (BitVec 8) := (hwords s).flatMap wbytes
theorem hbytes_length (s : H8) : (hbytes s).length = 64 := by simp [hbytes, hwords, wbytes]
/-- the hash that a state tells -/
def sum5 (sz : Nat) (s : H8) (r : List (BitVec 8)) (tk : BitVec 64) : List (BitVec 8) := (hbytes (turns s (r ++ tail5 r.length tk))).take sz
/-- the hash of bytes -/
def hash5 (sz : Nat) (s : H8) (l : List (BitVec 8)) : List (BitVec 8) := sum5 sz s l (BitVec.ofNat 64 l.length)
theorem sum5_left (sz : Nat) (s : H8) (l : List (BitVec 8)) (tk : BitVec 64) : sum5 sz (turns s l) (left5 l) tk = sum5 sz s l tk := by
  unfold sum5
  rw [turns_append]
  have : tail5 (left5 l).length tk = tail5 l.length tk := by unfold tail5; rw [left5_length, zeros5_mod]
  rw [this]
end Go.Proofs.YtjfcldjepgijeaaDoor
