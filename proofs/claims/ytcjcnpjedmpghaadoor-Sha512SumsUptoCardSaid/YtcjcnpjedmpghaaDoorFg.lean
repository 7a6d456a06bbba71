/- The reference's primes. -/
import Derived.Test.YtcjcnpjedmpghaaDoorFf
namespace Go.Proofs.YtcjcnpjedmpghaaDoor
open Go.RowKit

def pL (n : Nat) : Nat → Nat → Bool
  | 0, _ => true
  | f + 1, d => if d * d ≤ n then (if n % d = 0 then false else pL n f (d + 1)) else true
def pN (n : Nat) : Bool := decide (2 ≤ n) && pL n n 2
theorem pL_stop {n f d : Nat} (h : ¬ d * d ≤ n) : pL n f d = true := by cases f with
  | zero => rfl
  | succ f => unfold pL; rw [if_neg h]
theorem pL_hit {n f d : Nat} (h : d * d ≤ n) (hm : n % d = 0) : pL n (f + 1) d = false := by unfold pL; rw [if_pos h, if_pos hm]
theorem pL_go {n f d : Nat} (h : d * d ≤ n) (hm : ¬ n % d = 0) : pL n (f + 1) d = pL n f (d + 1) := by
  rw [show pL n (f + 1) d = if d * d ≤ n then (if n % d = 0 then false else pL n f (d + 1)) else true from rfl, if_pos h, if_neg hm]

theorem prime_any (n : Nat) (hn : n ≤ 100000) (W : World) : Calls Tryd.prog 28 #[.int .i64 n] W fun e W' => e = .returned (.bool (pN n)) ∧ W = W' := by
  go_enter Tryd.func28, Tryd.ntmps28
  by_cases h2 : n < 2
  · have h2I : (n : Int) < 2 := by omega
    go_wp2_with fail
    go_ret
    refine ⟨?_, rfl⟩
    unfold pN; rw [decide_eq_false (by omega)]; rfl
  · have h2I : ¬ ((n : Int) < 2) := by omega
    obtain ⟨res, hres⟩ : ∃ res, pL n n 2 = res := ⟨_, rfl⟩
    have hpn : pN n = res := by unfold pN; rw [decide_eq_true (by omega), hres]; rfl
    have HPN := Lib.hid hpn
    have HRES := Lib.hid hres
    clear hpn hres
    go_wp2_with fail
    go_loop [3] (fun vd => ∃ (d f : Nat), vd = .int .i64 d ∧ 2 ≤ d ∧ d + f = n + 2 ∧ pL n f d = res) (fun vd => n + 2 - (intOf vd).toNat)
    case atStart => exact ⟨2, n, rfl, by omega, by omega, HRES.out⟩
    case round =>
      obtain ⟨d, f, rfl, hd2, hdf, hp⟩ := hrel
      have HP := Lib.hid hp
      clear hp
      obtain ⟨dd, hdd⟩ : ∃ dd, d * d = dd := ⟨_, rfl⟩
      have hdl : d ≤ n + 2 := by omega
      have hddl : dd ≤ 100002 * 100002 := by rw [← hdd]; exact Nat.mul_le_mul (by omega) (by omega)
      have hddI : (d : Int) * (d : Int) = (dd : Int) := by rw [← hdd]; simp
      have HDD := Lib.hid hdd
      clear hdd
      by_cases hle : dd ≤ n
      · have hleI : (dd : Int) ≤ (n : Int) := by omega
        have hd0 : ¬ ((d : Int) = 0) := by omega
        have hdd2 : d * 1 ≤ dd := by rw [← HDD.out]; exact Nat.mul_le_mul_left _ (by omega)
        obtain ⟨f', rfl⟩ : ∃ f', f = f' + 1 := ⟨f - 1, by omega⟩
        obtain ⟨r, hr⟩ : ∃ r, n % d = r := ⟨_, rfl⟩
        have hrI : (n : Int) % (d : Int) = (r : Int) := by rw [← hr]; simp
        have HR := Lib.hid hr
        clear hr
        by_cases hr0 : r = 0
        · have hr0I : ((r : Int) == 0) = true := by simp [hr0]
          go_wp2_with fail
          go_ret
          refine ⟨?_, rfl⟩
          rw [HPN.out, ← HP.out, pL_hit (by rw [HDD.out]; exact hle) (by rw [HR.out]; exact hr0)]; rfl
        · have hr0I : ((r : Int) == 0) = false := by simp [hr0]
          go_wp2_with fail
          exact ⟨⟨d + 1, f', by congr 1, by omega, by omega, by rw [← HP.out, pL_go (by rw [HDD.out]; exact hle) (by rw [HR.out]; exact hr0)]⟩, by simp [intOf]; omega⟩
      · have hleI : ¬ ((dd : Int) ≤ (n : Int)) := by omega
        go_wp2_with fail
        go_ret
        refine ⟨?_, rfl⟩
        rw [HPN.out, ← HP.out, pL_stop (by rw [HDD.out]; exact hle)]; rfl

/-- the primes below k -/
def below (k : Nat) : List Nat := (List.range k).filter pN
theorem below_succ (k : Nat) : below (k + 1) = below k ++ (if pN k then [k] else []) := by
  unfold below
  rw [List.range_succ, List.filter_append]
  congr 1
  simp [List.filter_cons]
theorem below_410 : below 410 = primesL := by decide +kernel
theorem below_len (k : Nat) (hk : 410 ≤ k) : 80 ≤ (below k).length := by
  have h : (below 410).length = 80 := by rw [below_410]; decide
  induction k with
  | zero => omega
  | succ k ih =>
    by_cases e : k + 1 = 410
    · rw [e, h]; omega
    · rw [below_succ, List.length_append]
      have := ih (by omega)
      omega
end Go.Proofs.YtcjcnpjedmpghaaDoor
