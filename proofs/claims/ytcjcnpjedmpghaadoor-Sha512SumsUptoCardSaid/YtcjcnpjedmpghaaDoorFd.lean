/- The reference's fractions of roots, as numbers; no program in the first half. -/
import Derived.Test.YtcjcnpjedmpghaaDoorFc
namespace Go.Proofs.YtcjcnpjedmpghaaDoor
open Go.RowKit

/-- bits t - 1 down to 0 of the root of X -/
def rootN (X k : Nat) : Nat → Nat → Nat
  | 0, r => r
  | t + 1, r => rootN X k t (if (r + 2 ^ t) ^ k ≤ X then r + 2 ^ t else r)

theorem rootN_zero (X k r : Nat) : rootN X k 0 r = r := rfl
theorem rootN_succ (X k t r : Nat) : rootN X k (t + 1) r = rootN X k t (if (r + 2 ^ t) ^ k ≤ X then r + 2 ^ t else r) := rfl
theorem sq_small {x : Nat} (h : x ≤ 2 ^ 70) : x * x < 4294967296 ^ 8 := Nat.lt_of_le_of_lt (Nat.mul_le_mul h h) (by decide)
theorem cu_small {x : Nat} (h : x ≤ 2 ^ 70) : x * x * x < 4294967296 ^ 8 := Nat.lt_of_le_of_lt (Nat.mul_le_mul (Nat.mul_le_mul h h) h) (by decide)

/-- the bits below t are 0 -/
def Zb (f : Nat → Nat) (t : Nat) : Prop := ∀ j, f j % 2 ^ (t - 32 * j) = 0
theorem zb_zero (t : Nat) : Zb (fun _ => 0) t := fun _ => Nat.zero_mod _
theorem zb_mono {f : Nat → Nat} {t s : Nat} (h : Zb f t) (hs : s ≤ t) : Zb f s := fun j => by
  have h1 := h j
  have : 2 ^ (t - 32 * j) = 2 ^ (s - 32 * j) * 2 ^ (t - 32 * j - (s - 32 * j)) := by rw [← Nat.pow_add]; congr 1; omega
  rw [this] at h1
  exact Nat.mod_eq_zero_of_dvd (Nat.dvd_trans (Nat.dvd_mul_right _ _) (Nat.dvd_of_mod_eq_zero h1))
theorem zb_with {f : Nat → Nat} {i : Nat} (h : Zb f (i + 1)) : Zb (upd f (i / 32) (f (i / 32) + 2 ^ (i % 32))) i := fun j => by
  unfold upd
  split
  · rename_i e
    subst e
    have h1 := zb_mono h (Nat.le_succ i) (i / 32)
    rw [show i - 32 * (i / 32) = i % 32 by omega] at h1 ⊢
    rw [Nat.add_mod, h1, Nat.mod_self]; simp
  · exact zb_mono h (Nat.le_succ i) j
theorem low_with {f : Nat → Nat} (hf : Low f) {i : Nat} (h : Zb f (i + 1)) : f (i / 32) + 2 ^ (i % 32) < 4294967296 := by
  have h1 := h (i / 32)
  rw [show i + 1 - 32 * (i / 32) = i % 32 + 1 by omega] at h1
  have h2 := hf (i / 32)
  have hs : i % 32 < 32 := Nat.mod_lt _ (by omega)
  generalize i % 32 = s at *
  generalize f (i / 32) = x at *
  obtain ⟨q, rfl⟩ := Nat.dvd_of_mod_eq_zero h1
  have e : (4294967296 : Nat) = 2 ^ (s + 1) * 2 ^ (31 - s) := by rw [← Nat.pow_add, show s + 1 + (31 - s) = 32 by omega]
  rw [e] at h2 ⊢
  have hq : q < 2 ^ (31 - s) := Nat.lt_of_mul_lt_mul_left h2
  have hp : 0 < 2 ^ s := Nat.two_pow_pos s
  have h3 : 2 ^ (s + 1) * (q + 1) ≤ 2 ^ (s + 1) * 2 ^ (31 - s) := Nat.mul_le_mul_left _ hq
  rw [Nat.mul_add, Nat.mul_one] at h3
  have h4 : 2 ^ (s + 1) = 2 ^ s * 2 := Nat.pow_succ _ _
  generalize 2 ^ (s + 1) * q = a at *
  generalize 2 ^ (s + 1) * 2 ^ (31 - s) = b at *
  omega
theorem wval_with {f : Nat → Nat} {i : Nat} (hi : i < 256) : wval (upd f (i / 32) (f (i / 32) + 2 ^ (i % 32))) = wval f + 2 ^ i := by
  have h1 := wval_upd (f := f) (j := i / 32) (v := f (i / 32) + 2 ^ (i % 32)) (by omega)
  have h2 : (2 : Nat) ^ i = 2 ^ (i % 32) * 4294967296 ^ (i / 32) := by
    have e : (4294967296 : Nat) ^ (i / 32) = 2 ^ (32 * (i / 32)) := by rw [Nat.pow_mul]
    rw [e, ← Nat.pow_add, show i % 32 + 32 * (i / 32) = i by omega]
  rw [Nat.add_mul, ← h2] at h1
  generalize f (i / 32) * 4294967296 ^ (i / 32) = z at *
  omega
theorem wval_two {f : Nat → Nat} (hf : Low f) : f 0 + 4294967296 * f 1 = wval f % 18446744073709551616 := by
  obtain ⟨r, hr⟩ := wsum_split f 2 8 (by omega)
  have h1 := wsum_lt hf 2
  have e2 : wsum f 2 = 0 + f 0 * 4294967296 ^ 0 + f 1 * 4294967296 ^ 1 := rfl
  have ev : wval f = wsum f 2 + r * 4294967296 ^ 2 := hr
  rw [show (4294967296 : Nat) ^ 2 = 18446744073709551616 from rfl] at ev h1
  rw [ev, Nat.add_mul_mod_self_right, Nat.mod_eq_of_lt h1, e2]
  simp [Nat.mul_comm]
theorem wval_one {f : Nat → Nat} (hf : Low f) : f 0 = wval f % 4294967296 := by
  obtain ⟨r, hr⟩ := wsum_split f 1 8 (by omega)
  have h1 := wsum_lt hf 1
  have e2 : wsum f 1 = 0 + f 0 * 4294967296 ^ 0 := rfl
  have ev : wval f = wsum f 1 + r * 4294967296 ^ 1 := hr
  rw [Nat.pow_one] at ev h1
  rw [ev, Nat.add_mul_mod_self_right, Nat.mod_eq_of_lt h1, e2]
  simp
end Go.Proofs.YtcjcnpjedmpghaaDoor
