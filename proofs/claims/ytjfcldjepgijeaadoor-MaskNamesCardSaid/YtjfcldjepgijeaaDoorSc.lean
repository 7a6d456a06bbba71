/- A word out of eight bytes. -/
import Derived.Test.YtjfcldjepgijeaaDoorSlb
import Derived.Test.YtjfcldjepgijeaaDoorSa
import Derived.Test.YtjfcldjepgijeaaDoorK5
namespace Go.Proofs.YtjfcldjepgijeaaDoor
open Go.RowKit

theorem word_step (n : BitVec 64) (c : BitVec 8) : bits BinOp.or IntKind.u64 (IntKind.u64.wrap (wd n * 256)) (IntKind.u64.wrap (wd c)) = wd (n <<< 8 ||| c.setWidth 64) := by
  rw [show (256 : Int) = 2 ^ 8 from rfl, u64_shl, u64_of8, u64_or]

set_option maxHeartbeats 400000 in
theorem word_any {p : Nat → Prop} (a : Option Addr) (n cap : Nat) (l : List (BitVec 8)) (W : World) (hh : Hid (Holds p W a cap l)) (hn : Hid (l.length = n)) (h8 : 8 ≤ n) :
    Calls Tryd.prog 82 #[.slice a n cap] W fun e W' => e = .returned (.int .u64 (wd (be64 (l.take 8)))) ∧ W = W' := by
  obtain ⟨b, off, rfl, hp, hb, hc⟩ := hh.out.cells (by intro e; have := hn.out; simp [e] at this; omega)
  have hcap : n ≤ cap := by have := hh.out.len; have := hn.out; omega
  have HC := Lib.hid hc
  clear hc hp hb
  go_enter Tryd.func82, Tryd.ntmps82
  go_wp2_with fail
  go_loop [2, 8] (fun s i => ∃ k : Nat, k ≤ 8 ∧ i = .int .i64 k ∧ s = .int .u64 (wd (be64 (l.take k)))) (fun _ i => 8 - (intOf i).toNat)
  case atStart => exact ⟨0, Nat.zero_le _, rfl, by simp [be64, wd]⟩
  case round =>
    obtain ⟨k, hk, rfl, rfl⟩ := hrel
    by_cases hlt : k < 8
    · obtain ⟨c, hc1⟩ : ∃ c, l[k]? = some c := by have := hn.out; exact ⟨_, List.getElem?_eq_getElem (by omega)⟩
      have hcell := HC.out k c hc1
      have HK : Hid (be64 (l.take (k + 1)) = be64 (l.take k) <<< 8 ||| c.setWidth 64) := by
        rw [List.take_add_one, hc1]; exact be64_snoc _ _
      clear hc1
      go_wp2_with fail
      go_round
      case rel => exact ⟨k + 1, by omega, by go_num, by rw [HK.out, word_step]⟩
      case measure => simp [intOf]; omega
    · obtain rfl : k = 8 := by omega
      go_wp2_with fail
      go_ret
      exact ⟨rfl, rfl⟩
end Go.Proofs.YtjfcldjepgijeaaDoor
