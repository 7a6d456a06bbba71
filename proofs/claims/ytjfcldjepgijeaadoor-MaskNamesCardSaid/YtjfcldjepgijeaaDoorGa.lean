/- The small functions under sha256: rotations, words laid over one another; is there a state? -/
import Derived.Test.YtjfcldjepgijeaaDoorSa
import Derived.Test.YtjfcldjepgijeaaDoorK6
import Derived.Test.YtjfcldjepgijeaaDoorMem
namespace Go.Proofs.YtjfcldjepgijeaaDoor
open Go.RowKit

theorem rotg_s {i : Nat} (h0 : 0 < i) (h1 : i < 32) : bits .and .u64 (IntKind.u64.wrap (-(i : Int))) 31 = ((32 - i : Nat) : Int) := by
  have e : IntKind.u64.wrap (-(i : Int)) = wd (BitVec.ofNat 64 (2 ^ 64 - i)) := by
    rw [wd_ofNat (by omega)]; simp [IntKind.wrap, IntKind.bits, IntKind.signed]; omega
  have f : (31 : Int) = wd (31 : BitVec 64) := by rw [wd]; rfl
  rw [e, f, u64_and]
  have : BitVec.ofNat 64 (2 ^ 64 - i) &&& (31 : BitVec 64) = BitVec.ofNat 64 (32 - i) := by
    apply BitVec.eq_of_toNat_eq
    rw [BitVec.toNat_and, BitVec.toNat_ofNat, BitVec.toNat_ofNat, Nat.mod_eq_of_lt (by omega)]
    show (2 ^ 64 - i) &&& (2 ^ 5 - 1) = _
    rw [Nat.and_two_pow_sub_one_eq_mod]; omega
  rw [this, wd_ofNat (by omega)]
theorem rotg_fin (x : BitVec 32) {i : Nat} (h1 : i < 32) : bits BinOp.or IntKind.u32 (IntKind.u32.wrap (wd x * 2 ^ (32 - i))) (wd x / 2 ^ i) = wd (x.rotateRight i) := by
  rw [u32_shl, wd_shr', u32_or, rot32 x i h1]

set_option maxHeartbeats 400000 in
theorem rotg_any (x : BitVec 32) (k : Int) (i : Nat) (hk : Hid (k = -(i : Int))) (h0 : 0 < i) (h1 : i < 32) (w : World) :
    Calls Tryd.prog 72 #[.int .u32 (wd x), .int .i64 k] w fun e w' => e = .returned (.int .u32 (wd (x.rotateRight i))) ∧ w = w' := by
  obtain rfl := hk.out; clear hk
  have hs := rotg_s h0 h1
  have hw : IntKind.u64.wrap (32 - ((32 - i : Nat) : Int)) = i := by simp [IntKind.wrap, IntKind.bits, IntKind.signed]; omega
  go_enter Tryd.func72, Tryd.ntmps72
  go_wp2
  go_ret
  exact ⟨congrArg (fun z => Ending.returned (.int .u32 z)) (rotg_fin x h1), rfl⟩

set_option maxHeartbeats 400000 in
theorem turned_any (x y : BitVec 32) (i k : Int) (i' k' : Nat) (hi : Hid (i = i')) (hk : Hid (k = k')) (h0 : 0 < i') (h1 : i' < 32) (h2 : 0 < k') (h3 : k' < 32) (w : World) :
    Calls Tryd.prog 71 #[.int .u32 (wd x), .int .i64 i, .int .i64 k, .int .u32 (wd y)] w fun e w' => e = .returned (.int .u32 (wd (x.rotateRight i' ^^^ x.rotateRight k' ^^^ y))) ∧ w = w' := by
  obtain rfl := hi.out; obtain rfl := hk.out; clear hi hk
  have hx := u32_xor
  go_enter Tryd.func71, Tryd.ntmps71
  go_wp2_with fail
  refine (rotg_any x _ i' rfl h0 h1 _).mono ?_
  rintro e w' ⟨rfl, rfl⟩
  go_wp2_with fail
  refine (rotg_any x _ k' rfl h2 h3 _).mono ?_
  rintro e w' ⟨rfl, rfl⟩
  go_wp2_with fail
  go_ret
  exact ⟨rfl, rfl⟩

theorem noneg_some (b o : Nat) (n : Int) (w : World) (hc : w.cell? ⟨b, o, none⟩ = some (.int .i64 n)) (hn : (n == 0) = false) : Calls Tryd.prog 52 #[.pointer (some ⟨b, o, none⟩)] w fun e w' => e = .returned (.bool false) ∧ w = w' := by
  go_enter Tryd.func52, Tryd.ntmps52
  go_wp2
  go_ret
  exact ⟨rfl, rfl⟩

/-- n words of 32 bits in a block -/
def GArr (V : World) (B ty n : Nat) (f : Nat → BitVec 32) : Prop :=
  ∃ cs : Array Value, V.heap[B]? = some (.cells cs ty (0, 0)) ∧ cs.size = n ∧ ∀ j, j < n → cs[j]? = some (.int .u32 (wd (f j)))
def updg (f : Nat → BitVec 32) (j : Nat) (v : BitVec 32) : Nat → BitVec 32 := fun i => if i = j then v else f i
section
variable {V V' : World} {B ty n : Nat} {f : Nat → BitVec 32}
theorem GArr.cell (h : GArr V B ty n f) {j : Nat} (hj : j < n) : V.cell? ⟨B, j, none⟩ = some (.int .u32 (wd (f j))) := by
  obtain ⟨cs, h1, h2, h3⟩ := h; exact block_cell h1 j (h3 j hj)
theorem GArr.free (h : GArr V B ty n f) (j : Nat) : V.frozen? ⟨B, j, none⟩ = false := by
  obtain ⟨cs, h1, h2, h3⟩ := h; exact block_free h1 j
theorem GArr.lt (h : GArr V B ty n f) : B < V.heap.size := by obtain ⟨cs, h1, _⟩ := h; exact (Array.getElem?_eq_some_iff.1 h1).1
theorem GArr.ext {D : Nat → Prop} (h : GArr V B ty n f) (he : Ext D V V') (hd : ¬ D B) : GArr V' B ty n f := by
  obtain ⟨cs, h1, h2⟩ := h; exact ⟨cs, he.heap h1 hd, h2⟩
theorem GArr.set (h : GArr V B ty n f) (j : Nat) (v : BitVec 32) : GArr (V.setCell ⟨B, j, none⟩ (.int .u32 (wd v))) B ty n (updg f j v) := by
  obtain ⟨cs, h1, h2, h3⟩ := h
  refine ⟨_, block_set h1 j _, by simpa using h2, fun i hi => ?_⟩
  unfold updg
  by_cases e : i = j
  · subst e; rw [if_pos rfl, Array.getElem?_setIfInBounds_self_of_lt (by omega)]
  · rw [if_neg e, Array.getElem?_setIfInBounds_ne (fun h => e h.symm)]; exact h3 i hi
theorem GArr.same {g : Nat → BitVec 32} (h : GArr V B ty n f) (he : ∀ j, j < n → f j = g j) : GArr V B ty n g := by
  obtain ⟨cs, h1, h2, h3⟩ := h; exact ⟨cs, h1, h2, fun j hj => by rw [← he j hj]; exact h3 j hj⟩
end
theorem updg_at (f : Nat → BitVec 32) (j : Nat) (v : BitVec 32) : updg f j v j = v := by unfold updg; simp
theorem updg_ne (f : Nat → BitVec 32) {i j : Nat} (v : BitVec 32) (h : i ≠ j) : updg f j v i = f i := by unfold updg; simp [h]
end Go.Proofs.YtjfcldjepgijeaaDoor
