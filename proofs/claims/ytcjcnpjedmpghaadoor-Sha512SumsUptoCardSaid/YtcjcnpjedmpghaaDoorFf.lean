/- The tables are fractions of roots of the first primes: reckoned by the kernel. -/
import Derived.Test.YtcjcnpjedmpghaaDoorFe
import Derived.Test.YtcjcnpjedmpghaaDoorK5c
namespace Go.Proofs.YtcjcnpjedmpghaaDoor

def rootF (X k : Nat) : Nat → Nat → Nat
  | 0, r => r
  | t + 1, r => force (if (r + 2 ^ t) ^ k ≤ X then r + 2 ^ t else r) (fun r' => rootF X k t r')
theorem rootF_eq (X k : Nat) (t r : Nat) : rootF X k t r = rootN X k t r := by
  induction t generalizing r with
  | zero => rfl
  | succ t ih => unfold rootF; rw [force_eq, ih, rootN_succ]

def primesL : List Nat := [2, 3, 5, 7, 11, 13, 17, 19, 23, 29, 31, 37, 41, 43, 47, 53, 59, 61, 67, 71, 73, 79, 83, 89, 97, 101, 103, 107, 109, 113, 127, 131, 137, 139, 149, 151, 157, 163, 167, 173, 179, 181, 191, 193, 197, 199, 211, 223, 227, 229, 233, 239, 241, 251, 257, 263, 269, 271, 277, 281, 283, 293, 307, 311, 313, 317, 331, 337, 347, 349, 353, 359, 367, 373, 379, 383, 389, 397, 401, 409]
theorem cubes_frac : (primesL.map fun p => rootF (p * 2 ^ 192) 3 70 0 % 2 ^ 64) = cubesL := by decide +kernel
theorem squares_frac : ((primesL.take 16).map fun p => rootF (p * 2 ^ 128) 2 70 0 % 2 ^ 64) = squareL := by decide +kernel
theorem primesL_length : primesL.length = 80 := by decide
theorem cube_frac (t : Nat) (ht : t < 80) : rootN (primesL.getD t 0 * 2 ^ (3 * 64)) 3 (64 + 6) 0 % 2 ^ 64 = (cube t).toNat := by
  have h := congrArg (fun l => l[t]?) cubes_frac
  simp only [List.getElem?_map] at h
  have hl : t < primesL.length := by rw [primesL_length]; exact ht
  have hl2 : t < cubesL.length := by have : cubesL.length = 80 := by decide
                                     omega
  rw [List.getElem?_eq_getElem hl, List.getElem?_eq_getElem hl2] at h
  simp only [Option.map_some, Option.some.injEq] at h
  rw [rootF_eq] at h
  unfold cube
  rw [List.getD, List.getD, List.getElem?_eq_getElem hl, List.getElem?_eq_getElem hl2]
  simp only [Option.getD_some]
  rw [← h]
  simp
theorem square_frac (t : Nat) (ht : t < 16) : rootN (primesL.getD t 0 * 2 ^ (2 * 64)) 2 (64 + 6) 0 % 2 ^ 64 = (sqr t).toNat := by
  have h := congrArg (fun l => l[t]?) squares_frac
  simp only [List.getElem?_map] at h
  have hl : t < primesL.length := by rw [primesL_length]; omega
  have hl2 : t < squareL.length := by have : squareL.length = 16 := by decide
                                      omega
  rw [List.getElem?_take_of_lt ht, List.getElem?_eq_getElem hl, List.getElem?_eq_getElem hl2] at h
  simp only [Option.map_some, Option.some.injEq] at h
  rw [rootF_eq] at h
  unfold sqr
  rw [List.getD, List.getD, List.getElem?_eq_getElem hl, List.getElem?_eq_getElem hl2]
  simp only [Option.getD_some]
  rw [← h]
  simp
end Go.Proofs.YtcjcnpjedmpghaaDoor
