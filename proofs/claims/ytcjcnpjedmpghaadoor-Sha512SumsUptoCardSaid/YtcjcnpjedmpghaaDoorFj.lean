/- The reference's rotations of 64 bits. -/
import Derived.Test.YtcjcnpjedmpghaaDoorFi
namespace Go.Proofs.YtcjcnpjedmpghaaDoor
open Go.RowKit

theorem rot_one (x : BitVec 64) : wd x / 2 + wd x % 2 * 9223372036854775808 = wd (x.rotateRight 1) := by
  have hx := x.isLt
  have h1 : (x.rotateRight 1).toNat = x.toNat / 2 + x.toNat % 2 * 9223372036854775808 := by
    rw [BitVec.toNat_rotateRight]
    have e1 : x.toNat >>> (1 % 64) = x.toNat / 2 := by rw [Nat.shiftRight_eq_div_pow]
    have e2 : x.toNat <<< (64 - 1 % 64) % 2 ^ 64 = (x.toNat % 2) <<< 63 := by
      rw [show 64 - 1 % 64 = 63 from rfl, Nat.shiftLeft_eq, Nat.shiftLeft_eq, show (2 : Nat) ^ 63 = 9223372036854775808 from rfl, show (2 : Nat) ^ 64 = 18446744073709551616 from rfl]; omega
    rw [e1, e2, Nat.or_comm, ← Nat.shiftLeft_add_eq_or_of_lt (by omega), Nat.shiftLeft_eq]
    omega
  unfold wd
  rw [h1]
  omega
theorem rot_step (x : BitVec 64) (n : Nat) (h : n + 1 < 64) : (x.rotateRight n).rotateRight 1 = x.rotateRight (n + 1) := by
  apply BitVec.eq_of_getLsbD_eq
  intro i hi
  simp only [BitVec.getLsbD_rotateRight]
  rw [Nat.mod_eq_of_lt (show n < 64 by omega), Nat.mod_eq_of_lt (show n + 1 < 64 by omega), Nat.mod_eq_of_lt (show 1 < 64 by omega)]
  by_cases h1 : i < 64 - 1
  · simp only [h1, decide_true, cond_true]
    by_cases h2 : 1 + i < 64 - n
    · have h3 : i < 64 - (n + 1) := by omega
      simp only [h2, h3, decide_true, cond_true]
      congr 1; omega
    · have h3 : ¬ i < 64 - (n + 1) := by omega
      have h4 : 1 + i < 64 := by omega
      simp only [h2, h3, h4, hi, decide_true, decide_false, cond_false, Bool.true_and]
      congr 1; omega
  · have h5 : i = 63 := by omega
    have h2 : i - (64 - 1) < 64 - n := by omega
    have h3 : ¬ i < 64 - (n + 1) := by omega
    simp only [h1, h2, h3, hi, decide_true, decide_false, cond_true, cond_false, Bool.true_and]
    congr 1; omega

theorem rot_zero (x : BitVec 64) : x.rotateRight 0 = x := by
  apply BitVec.eq_of_getLsbD_eq
  intro i hi
  simp [hi]

theorem right_any (x : BitVec 64) (n : Nat) (hn : n < 64) (W : World) : Calls Tryd.prog 21 #[.int .u64 (wd x), .int .i64 n] W fun e W' => e = .returned (.int .u64 (wd (x.rotateRight n))) ∧ W = W' := by
  go_enter Tryd.func21, Tryd.ntmps21
  go_wp2_with fail
  go_loop [0, 5] (fun vx vi => ∃ k : Nat, k ≤ n ∧ vi = .int .i64 k ∧ vx = .int .u64 (wd (x.rotateRight k))) (fun _ vi => n - (intOf vi).toNat)
  case atStart => exact ⟨0, by omega, rfl, by rw [rot_zero]⟩
  case round =>
    obtain ⟨k, hk, rfl, rfl⟩ := hrel
    by_cases hlt : k < n
    · have hltI : (k : Int) < (n : Int) := by omega
      have hr := rot_one (x.rotateRight k)
      rw [rot_step x k (by omega)] at hr
      have hlo := wd_lo (x.rotateRight k)
      have hhi := wd_hi64 (x.rotateRight k)
      go_wp2_with fail
      exact ⟨⟨k + 1, by omega, by congr 1, by first | rfl | (congr 1) | (rw [← hr])⟩, by simp [intOf]; omega⟩
    · have hltI : ¬ ((k : Int) < (n : Int)) := by omega
      obtain rfl : k = n := by omega
      go_wp2_with fail
      go_ret
      exact ⟨rfl, rfl⟩
theorem down_any (x : BitVec 64) (n : Nat) (hn : n < 64) (W : World) : Calls Tryd.prog 22 #[.int .u64 (wd x), .int .i64 n] W fun e W' => e = .returned (.int .u64 (wd (x >>> n))) ∧ W = W' := by
  go_enter Tryd.func22, Tryd.ntmps22
  go_wp2_with fail
  go_loop [0, 5] (fun vx vi => ∃ k : Nat, k ≤ n ∧ vi = .int .i64 k ∧ vx = .int .u64 (wd (x >>> k))) (fun _ vi => n - (intOf vi).toNat)
  case atStart => exact ⟨0, by omega, rfl, by simp⟩
  case round =>
    obtain ⟨k, hk, rfl, rfl⟩ := hrel
    by_cases hlt : k < n
    · have hltI : (k : Int) < (n : Int) := by omega
      have hr : wd (x >>> k) / 2 = wd (x >>> (k + 1)) := by
        rw [show (2 : Int) = 2 ^ 1 from rfl, wd_shr', BitVec.shiftRight_add]
      have hlo := wd_lo (x >>> k)
      have hhi := wd_hi64 (x >>> k)
      go_wp2_with fail
      exact ⟨⟨k + 1, by omega, by congr 1, rfl⟩, by simp [intOf]; omega⟩
    · have hltI : ¬ ((k : Int) < (n : Int)) := by omega
      obtain rfl : k = n := by omega
      go_wp2_with fail
      go_ret
      exact ⟨rfl, rfl⟩
end Go.Proofs.YtcjcnpjedmpghaaDoor
