/- The small functions under sha512: rotations, words laid over one another, a word out of bytes. -/
import Derived.Test.YtjfcldjepgijeaaDoorProg
import Derived.Test.YtjfcldjepgijeaaDoorWd
import Derived.WalkSpells
import Derived.WalkLawsBesides
namespace Go.Proofs.YtjfcldjepgijeaaDoor
open Go.RowKit

theorem rot_s {i : Nat} (h0 : 0 < i) (h1 : i < 64) : bits .and .u64 (IntKind.u64.wrap (-(i : Int))) 63 = ((64 - i : Nat) : Int) := by
  have e : IntKind.u64.wrap (-(i : Int)) = wd (BitVec.ofNat 64 (2 ^ 64 - i)) := by
    rw [wd_ofNat (by omega)]; simp [IntKind.wrap, IntKind.bits, IntKind.signed]; omega
  have f : (63 : Int) = wd (63 : BitVec 64) := by rw [wd]; rfl
  rw [e, f, u64_and]
  have : BitVec.ofNat 64 (2 ^ 64 - i) &&& (63 : BitVec 64) = BitVec.ofNat 64 (64 - i) := by
    apply BitVec.eq_of_toNat_eq
    rw [BitVec.toNat_and, BitVec.toNat_ofNat, BitVec.toNat_ofNat, Nat.mod_eq_of_lt (by omega)]
    show (2 ^ 64 - i) &&& (2 ^ 6 - 1) = _
    rw [Nat.and_two_pow_sub_one_eq_mod]; omega
  rw [this, wd_ofNat (by omega)]

theorem rot_fin (x : BitVec 64) {i : Nat} (h1 : i < 64) : bits BinOp.or IntKind.u64 (IntKind.u64.wrap (wd x * 2 ^ (64 - i))) (wd x / 2 ^ i) = wd (x.rotateRight i) := by
  rw [u64_shl, wd_shr', u64_or, rot64 x i h1]

set_option maxHeartbeats 400000 in
theorem rot_any (x : BitVec 64) (k : Int) (i : Nat) (hk : Hid (k = -(i : Int))) (h0 : 0 < i) (h1 : i < 64) (w : World) :
    Calls Tryd.prog 76 #[.int .u64 (wd x), .int .i64 k] w fun e w' => e = .returned (.int .u64 (wd (x.rotateRight i))) ∧ w = w' := by
  obtain rfl := hk.out; clear hk
  have hs := rot_s h0 h1
  have hw : IntKind.u64.wrap (64 - ((64 - i : Nat) : Int)) = i := by simp [IntKind.wrap, IntKind.bits, IntKind.signed]; omega
  go_enter Tryd.func76, Tryd.ntmps76
  go_wp2
  go_ret
  exact ⟨congrArg (fun z => Ending.returned (.int .u64 z)) (rot_fin x h1), rfl⟩

set_option maxHeartbeats 400000 in
theorem over_any (x y : BitVec 64) (i k : Int) (i' k' : Nat) (hi : Hid (i = i')) (hk : Hid (k = k')) (h0 : 0 < i') (h1 : i' < 64) (h2 : 0 < k') (h3 : k' < 64) (w : World) :
    Calls Tryd.prog 75 #[.int .u64 (wd x), .int .i64 i, .int .i64 k, .int .u64 (wd y)] w fun e w' => e = .returned (.int .u64 (wd (y ^^^ x.rotateRight i' ^^^ x.rotateRight k'))) ∧ w = w' := by
  obtain rfl := hi.out; obtain rfl := hk.out; clear hi hk
  have hx := u64_xor
  go_enter Tryd.func75, Tryd.ntmps75
  go_wp2_with fail
  refine (rot_any x _ i' rfl h0 h1 _).mono ?_
  rintro e w' ⟨rfl, rfl⟩
  go_wp2_with fail
  refine (rot_any x _ k' rfl h2 h3 _).mono ?_
  rintro e w' ⟨rfl, rfl⟩
  go_wp2_with fail
  go_ret
  exact ⟨rfl, rfl⟩

theorem none_nil (w : World) : Calls Tryd.prog 57 #[.pointer none] w fun e w' => e = .returned (.bool true) ∧ w = w' := by
  go_enter Tryd.func57, Tryd.ntmps57
  go_wp2
  go_ret
  exact ⟨rfl, rfl⟩
theorem none_zero (b o : Nat) (w : World) (hc : w.cell? ⟨b, o, none⟩ = some (.int .i64 0)) : Calls Tryd.prog 57 #[.pointer (some ⟨b, o, none⟩)] w fun e w' => e = .returned (.bool true) ∧ w = w' := by
  go_enter Tryd.func57, Tryd.ntmps57
  go_wp2
  go_ret
  exact ⟨rfl, rfl⟩
theorem none_some (b o : Nat) (n : Int) (w : World) (hc : w.cell? ⟨b, o, none⟩ = some (.int .i64 n)) (hn : (n == 0) = false) : Calls Tryd.prog 57 #[.pointer (some ⟨b, o, none⟩)] w fun e w' => e = .returned (.bool false) ∧ w = w' := by
  go_enter Tryd.func57, Tryd.ntmps57
  go_wp2
  go_ret
  exact ⟨rfl, rfl⟩
end Go.Proofs.YtjfcldjepgijeaaDoor
