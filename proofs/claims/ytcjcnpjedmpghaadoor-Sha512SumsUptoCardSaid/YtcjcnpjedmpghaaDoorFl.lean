/- The reference's hash: arrays of words. -/
import Derived.Test.YtcjcnpjedmpghaaDoorFk
namespace Go.Proofs.YtcjcnpjedmpghaaDoor
open Go.RowKit

/-- n words in a block -/
def WArr (V : World) (B ty n : Nat) (f : Nat → BitVec 64) : Prop :=
  ∃ cs : Array Value, V.heap[B]? = some (.cells cs ty (0, 0)) ∧ cs.size = n ∧ ∀ j, j < n → cs[j]? = some (.int .u64 (wd (f j)))
def updw (f : Nat → BitVec 64) (j : Nat) (v : BitVec 64) : Nat → BitVec 64 := fun i => if i = j then v else f i
section
variable {V V' : World} {B ty n : Nat} {f : Nat → BitVec 64}
theorem WArr.cell (h : WArr V B ty n f) {j : Nat} (hj : j < n) : V.cell? ⟨B, j, none⟩ = some (.int .u64 (wd (f j))) := by
  obtain ⟨cs, h1, h2, h3⟩ := h; exact block_cell h1 j (h3 j hj)
theorem WArr.free (h : WArr V B ty n f) (j : Nat) : V.frozen? ⟨B, j, none⟩ = false := by
  obtain ⟨cs, h1, h2, h3⟩ := h; exact block_free h1 j
theorem WArr.lt (h : WArr V B ty n f) : B < V.heap.size := by obtain ⟨cs, h1, _⟩ := h; exact (Array.getElem?_eq_some_iff.1 h1).1
theorem WArr.ext {D : Nat → Prop} (h : WArr V B ty n f) (he : Ext D V V') (hd : ¬ D B) : WArr V' B ty n f := by
  obtain ⟨cs, h1, h2⟩ := h; exact ⟨cs, he.heap h1 hd, h2⟩
theorem WArr.set (h : WArr V B ty n f) (j : Nat) (v : BitVec 64) : WArr (V.setCell ⟨B, j, none⟩ (.int .u64 (wd v))) B ty n (updw f j v) := by
  obtain ⟨cs, h1, h2, h3⟩ := h
  refine ⟨_, block_set h1 j _, by simpa using h2, fun i hi => ?_⟩
  unfold updw
  by_cases e : i = j
  · subst e; rw [if_pos rfl, Array.getElem?_setIfInBounds_self_of_lt (by omega)]
  · rw [if_neg e, Array.getElem?_setIfInBounds_ne (fun h => e h.symm)]; exact h3 i hi
theorem WArr.same {g : Nat → BitVec 64} (h : WArr V B ty n f) (he : ∀ j, j < n → f j = g j) : WArr V B ty n g := by
  obtain ⟨cs, h1, h2, h3⟩ := h; exact ⟨cs, h1, h2, fun j hj => by rw [← he j hj]; exact h3 j hj⟩
end
theorem updw_at (f : Nat → BitVec 64) (j : Nat) (v : BitVec 64) : updw f j v j = v := by unfold updw; simp
theorem updw_ne (f : Nat → BitVec 64) {i j : Nat} (v : BitVec 64) (h : i ≠ j) : updw f j v i = f i := by unfold updw; simp [h]
theorem updw_updw (f : Nat → BitVec 64) (j : Nat) (a b : BitVec 64) : updw (updw f j a) j b = updw f j b := by
  funext i; unfold updw; split <;> simp_all

/-! words of bits -/
theorem shl8_low (x : BitVec 64) (c : BitVec 8) : (x <<< 8) &&& c.setWidth 64 = 0#64 := by
  apply BitVec.eq_of_getLsbD_eq
  intro i hi
  simp only [BitVec.getLsbD_and, BitVec.getLsbD_shiftLeft, BitVec.getLsbD_setWidth, BitVec.getLsbD_zero]
  by_cases h : i < 8
  · simp [h]
  · have : c.getLsbD i = false := BitVec.getLsbD_of_ge _ _ (by omega)
    simp [this]
theorem refword_step (x : BitVec 64) (c : BitVec 8) : IntKind.u64.wrap (IntKind.u64.wrap (256 * wd x) + IntKind.u64.wrap (wd c)) = wd (x <<< 8 ||| c.setWidth 64) := by
  rw [show (256 : Int) * wd x = wd x * 2 ^ 8 by rw [Int.mul_comm]; rfl, u64_shl, u64_of8, u64_add, BitVec.add_eq_or_of_and_eq_zero _ _ (shl8_low x c)]
theorem wd_not (x : BitVec 64) : (18446744073709551615 : Int) - wd x = wd (~~~x) := by
  have := x.isLt
  unfold wd
  rw [BitVec.toNat_not]; omega
theorem ref_sched (a b x y : BitVec 64) : a + b + (x.rotateRight 1 ^^^ x.rotateRight 8 ^^^ x >>> 7) + (y.rotateRight 19 ^^^ y.rotateRight 61 ^^^ y >>> 6) = a + (b + s0 x + s1 y) := by
  unfold s0 s1
  rw [show x.rotateRight 1 ^^^ x.rotateRight 8 ^^^ x >>> 7 = x >>> 7 ^^^ x.rotateRight 1 ^^^ x.rotateRight 8 by rw [BitVec.xor_comm (x >>> 7), BitVec.xor_assoc, BitVec.xor_assoc, BitVec.xor_comm (x >>> 7)],
    show y.rotateRight 19 ^^^ y.rotateRight 61 ^^^ y >>> 6 = y >>> 6 ^^^ y.rotateRight 19 ^^^ y.rotateRight 61 by rw [BitVec.xor_comm (y >>> 6), BitVec.xor_assoc, BitVec.xor_assoc, BitVec.xor_comm (y >>> 6)], BitVec.add_assoc, BitVec.add_assoc, BitVec.add_assoc]
theorem ref_y (h k w e f g : BitVec 64) : h + k + w + (e.rotateRight 14 ^^^ e.rotateRight 18 ^^^ e.rotateRight 41) + (e &&& f ||| ~~~e &&& g) = h + k + w + bigS1 e + chOf e f g := by
  unfold bigS1 chOf
  rw [show e.rotateRight 14 ^^^ e.rotateRight 18 ^^^ e.rotateRight 41 = e.rotateRight 41 ^^^ e.rotateRight 14 ^^^ e.rotateRight 18 by rw [BitVec.xor_comm (e.rotateRight 41), BitVec.xor_assoc, BitVec.xor_assoc, BitVec.xor_comm (e.rotateRight 41)], BitVec.and_comm (~~~e)]
theorem ref_maj (a b c : BitVec 64) : a &&& b ||| a &&& c ||| b &&& c = majOf a b c := by
  unfold majOf
  apply BitVec.eq_of_getLsbD_eq
  intro i hi
  simp only [BitVec.getLsbD_and, BitVec.getLsbD_or]
  cases a.getLsbD i <;> simp
theorem ref_z (a b c : BitVec 64) : (a.rotateRight 28 ^^^ a.rotateRight 34 ^^^ a.rotateRight 39) + (a &&& b ||| a &&& c ||| b &&& c) = bigS0 a + majOf a b c := by
  rw [ref_maj]
  unfold bigS0
  rw [show a.rotateRight 28 ^^^ a.rotateRight 34 ^^^ a.rotateRight 39 = a.rotateRight 39 ^^^ a.rotateRight 28 ^^^ a.rotateRight 34 by rw [BitVec.xor_comm (a.rotateRight 39), BitVec.xor_assoc, BitVec.xor_assoc, BitVec.xor_comm (a.rotateRight 39)]]

def hws (s : H8) (j : Nat) : BitVec 64 := (hwords s).getD j 0
theorem hws_add (s r : H8) (j : Nat) (hj : j < 8) : hws (addS s r) j = hws s j + hws r j := by
  obtain rfl | rfl | rfl | rfl | rfl | rfl | rfl | rfl : j = 0 ∨ j = 1 ∨ j = 2 ∨ j = 3 ∨ j = 4 ∨ j = 5 ∨ j = 6 ∨ j = 7 := by omega
  all_goals rfl
theorem hws_512 (j : Nat) (hj : j < 8) : hws init512 j = sqr (j + 0) := by
  obtain rfl | rfl | rfl | rfl | rfl | rfl | rfl | rfl : j = 0 ∨ j = 1 ∨ j = 2 ∨ j = 3 ∨ j = 4 ∨ j = 5 ∨ j = 6 ∨ j = 7 := by omega
  all_goals rfl
theorem hws_384 (j : Nat) (hj : j < 8) : hws init384 j = sqr (j + 8) := by
  obtain rfl | rfl | rfl | rfl | rfl | rfl | rfl | rfl : j = 0 ∨ j = 1 ∨ j = 2 ∨ j = 3 ∨ j = 4 ∨ j = 5 ∨ j = 6 ∨ j = 7 := by omega
  all_goals rfl
/-- the first i words of a block, and zeros -/
def wfun (bl : List (BitVec 8)) (i : Nat) : Nat → BitVec 64 := fun j => if j < i then blk64 bl j else 0
theorem wfun_zero (bl : List (BitVec 8)) : wfun bl 0 = fun _ => 0 := by funext j; simp [wfun]
theorem wfun_start (bl : List (BitVec 8)) (i : Nat) : updw (wfun bl i) i (be64 ((bl.drop (8 * i)).take 0)) = wfun bl i := by
  funext j; unfold updw; split
  · rename_i h; subst h; simp [wfun, be64]
  · rfl
theorem wfun_step (bl : List (BitVec 8)) (i : Nat) : updw (wfun bl i) i (be64 ((bl.drop (8 * i)).take 8)) = wfun bl (i + 1) := by
  funext j; unfold updw wfun
  by_cases h : j = i
  · subst h; simp [blk64]
  · rw [if_neg h]
    by_cases h2 : j < i
    · rw [if_pos h2, if_pos (by omega)]
    · rw [if_neg h2, if_neg (by omega)]
theorem be64_next (bl : List (BitVec 8)) (i k : Nat) (c : BitVec 8) (h : bl[8 * i + k]? = some c) : be64 ((bl.drop (8 * i)).take (k + 1)) = be64 ((bl.drop (8 * i)).take k) <<< 8 ||| c.setWidth 64 := by
  rw [List.take_add_one, List.getElem?_drop, h]; exact be64_snoc _ _
theorem fillTail_wbytes (x : BitVec 64) : fillTail x.toNat 8 = wbytes x := by
  have e : ∀ i, BitVec.ofNat 8 (x.toNat / 256 ^ i) = (x >>> (8 * i)).setWidth 8 := fun i => by
    apply BitVec.eq_of_toNat_eq
    rw [BitVec.toNat_ofNat, BitVec.toNat_setWidth, BitVec.toNat_ushiftRight, Nat.shiftRight_eq_div_pow, show (256 : Nat) ^ i = 2 ^ (8 * i) by rw [Nat.pow_mul]]
  simp only [fillTail, e]
  rfl
theorem flat_snoc (l : List (BitVec 64)) (i : Nat) (x : BitVec 64) (h : l[i]? = some x) : (l.take (i + 1)).flatMap wbytes = (l.take i).flatMap wbytes ++ wbytes x := by
  rw [List.take_add_one, h]; simp
theorem flat_take (s : H8) (i : Nat) (hi : i ≤ 8) : ((hwords s).take i).flatMap wbytes = (hbytes s).take (8 * i) := by
  obtain rfl | rfl | rfl | rfl | rfl | rfl | rfl | rfl | rfl : i = 0 ∨ i = 1 ∨ i = 2 ∨ i = 3 ∨ i = 4 ∨ i = 5 ∨ i = 6 ∨ i = 7 ∨ i = 8 := by omega
  all_goals rfl
theorem tail5_mod (l : List (BitVec 8)) (tk : BitVec 64) : (l ++ tail5 l.length tk).length % 128 = 0 := by
  have : (l ++ tail5 l.length tk).length = l.length + 1 + zeros5 l.length + 16 := by simp [tail5, size16]; omega
  rw [this]; unfold zeros5; omega

set_option maxRecDepth 100000 in
theorem refof_bad (n : Int) (v : Value) (W : World) (h1 : (n == 384) = false) (h2 : (n == 512) = false) :
    Calls Tryd.prog 9 #[.int .i64 n, v] W fun e W' => e = .returned (.tuple #[.slice none 0 0, .int .i64 2]) ∧ W = W' := by
  go_enter Tryd.func9, Tryd.ntmps9
  have h1' : (n != 384) = true := by simp [bne, h1]
  have h2' : (n != 512) = true := by simp [bne, h2]
  go_wp2_with fail
  go_ret2
  exact ⟨rfl, rfl⟩
end Go.Proofs.YtcjcnpjedmpghaaDoor
