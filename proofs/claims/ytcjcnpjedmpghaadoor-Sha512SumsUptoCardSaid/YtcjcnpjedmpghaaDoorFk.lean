/- What is filled up is what the state takes. No program stands here. -/
import Derived.Test.YtcjcnpjedmpghaaDoorFj
import Derived.Test.YtcjcnpjedmpghaaDoorK5b
namespace Go.Proofs.YtcjcnpjedmpghaaDoor

theorem fill_byte (n i : Nat) (h : n < 2 ^ 60) : BitVec.ofNat 8 (8 * n / 256 ^ i) = ((BitVec.ofNat 64 n <<< 3) >>> (8 * i)).setWidth 8 := by
  apply BitVec.eq_of_toNat_eq
  have e : (256 : Nat) ^ i = 2 ^ (8 * i) := by rw [Nat.pow_mul]
  simp only [BitVec.toNat_ofNat, BitVec.toNat_setWidth, BitVec.toNat_ushiftRight, BitVec.toNat_shiftLeft, Nat.shiftLeft_eq, Nat.shiftRight_eq_div_pow]
  rw [Nat.mod_eq_of_lt (show n < 2 ^ 64 by omega), Nat.mod_eq_of_lt (show n * 2 ^ 3 < 2 ^ 64 by omega), e, Nat.mul_comm n]
theorem fill_high (n i : Nat) (h : n < 2 ^ 60) (hi : 8 ≤ i) : BitVec.ofNat 8 (8 * n / 256 ^ i) = 0 := by
  have h1 : 256 ^ 8 ≤ 256 ^ i := Nat.pow_le_pow_right (by omega) hi
  rw [Nat.div_eq_of_lt (Nat.lt_of_lt_of_le (by omega) h1)]; rfl
theorem fill_size (n : Nat) (h : n < 2 ^ 60) : fillTail (8 * n) 16 = size16 (BitVec.ofNat 64 n) := by
  have h61 : ((BitVec.ofNat 64 n) >>> 61).setWidth 8 = 0 := by
    apply BitVec.eq_of_toNat_eq
    simp only [BitVec.toNat_ofNat, BitVec.toNat_setWidth, BitVec.toNat_ushiftRight, Nat.shiftRight_eq_div_pow]
    rw [Nat.mod_eq_of_lt (show n < 2 ^ 64 by omega), Nat.div_eq_of_lt (by omega)]; rfl
  unfold size16
  rw [h61]
  simp only [fillTail]
  rw [fill_high n 15 h (by omega), fill_high n 14 h (by omega), fill_high n 13 h (by omega), fill_high n 12 h (by omega), fill_high n 11 h (by omega), fill_high n 10 h (by omega), fill_high n 9 h (by omega), fill_high n 8 h (by omega),
    fill_byte n 7 h, fill_byte n 6 h, fill_byte n 5 h, fill_byte n 4 h, fill_byte n 3 h, fill_byte n 2 h, fill_byte n 1 h, fill_byte n 0 h]
theorem fill_zeros (n : Nat) : fillZ n 128 16 = zeros5 n := by unfold fillZ zeros5; omega
end Go.Proofs.YtcjcnpjedmpghaaDoor
