/- The reference's wide numbers, compared. -/
import Derived.Test.YtcjcnpjedmpghaaDoorFa
import Derived.BigQuiet
namespace Go.Proofs.YtcjcnpjedmpghaaDoor
open Go.RowKit

/-- what its words tell, up to n of them -/
def wsum (f : Nat → Nat) : Nat → Nat
  | 0 => 0
  | n + 1 => wsum f n + f n * 4294967296 ^ n
def wval (f : Nat → Nat) : Nat := wsum f 8
def Low (f : Nat → Nat) : Prop := ∀ j, f j < 4294967296
theorem wsum_lt {f : Nat → Nat} (hf : Low f) (n : Nat) : wsum f n < 4294967296 ^ n := by
  induction n with
  | zero => simp [wsum]
  | succ n ih =>
    have := hf n
    have h2 : f n * 4294967296 ^ n ≤ 4294967295 * 4294967296 ^ n := Nat.mul_le_mul_right _ (by omega)
    rw [Nat.pow_succ]
    unfold wsum
    omega
theorem wsum_same {f g : Nat → Nat} {t m : Nat} (h : ∀ j, t ≤ j → j < m → f j = g j) (htm : t ≤ m) : wsum f m + wsum g t = wsum g m + wsum f t := by
  induction m with
  | zero => obtain rfl : t = 0 := by omega
            simp [wsum]
  | succ m ih =>
    by_cases e : t = m + 1
    · subst e; exact Nat.add_comm _ _
    · have h1 := ih (fun j h1 h2 => h j h1 (by omega)) (by omega)
      have h2 := h m (by omega) (by omega)
      have u1 : wsum f (m + 1) = wsum f m + f m * 4294967296 ^ m := rfl
      have u2 : wsum g (m + 1) = wsum g m + g m * 4294967296 ^ m := rfl
      rw [u1, u2, h2]
      generalize g m * 4294967296 ^ m = z
      omega
theorem wval_more {f g : Nat → Nat} (hf : Low f) (hg : Low g) {t : Nat} (ht : t < 8) (h : ∀ j, t < j → j < 8 → f j = g j) (hne : f t ≠ g t) : g t < f t ↔ wval g < wval f := by
  have h1 := wsum_same (f := f) (g := g) (t := t + 1) (m := 8) (fun j h1 h2 => h j (by omega) h2) (by omega)
  have hf1 := wsum_lt hf t
  have hg1 := wsum_lt hg t
  have e1 : wsum f (t + 1) = wsum f t + f t * 4294967296 ^ t := rfl
  have e2 : wsum g (t + 1) = wsum g t + g t * 4294967296 ^ t := rfl
  unfold wval
  generalize hp : 4294967296 ^ t = p at *
  constructor
  · intro hlt
    have : (g t + 1) * p ≤ f t * p := Nat.mul_le_mul_right _ hlt
    rw [Nat.add_mul, Nat.one_mul] at this
    omega
  · intro hlt
    rcases Nat.lt_or_ge (g t) (f t) with h' | h'
    · exact h'
    · have h2 : f t < g t := by omega
      have : (f t + 1) * p ≤ g t * p := Nat.mul_le_mul_right _ h2
      rw [Nat.add_mul, Nat.one_mul] at this
      omega
theorem wval_same {f g : Nat → Nat} (h : ∀ j, j < 8 → f j = g j) : wval f = wval g := by
  have := wsum_same (f := f) (g := g) (t := 0) (m := 8) (fun j _ h2 => h j h2) (by omega)
  have u1 : wsum f 0 = 0 := rfl
  have u2 : wsum g 0 = 0 := rfl
  unfold wval
  rw [u1, u2, Nat.add_zero, Nat.add_zero] at this
  exact this

set_option maxRecDepth 100000 in
theorem more_any (f g : Nat → Nat) (hf : Low f) (hg : Low g) (W : World) :
    Calls Tryd.prog 31 #[wv f, wv g] W fun e W' => e = .returned (.bool (decide (wval g < wval f))) ∧ Ext Nope W W' := by
  unfold wv
  go_enter Tryd.func31, Tryd.ntmps31
  go_wp2_with fail
  obtain ⟨W1, hW1⟩ : ∃ W1, (W.alloc (.cells (wcells f) 62)).alloc (.cells (wcells g) 62) = W1 := ⟨_, rfl⟩
  have hf1 : W8 W1 W.heap.size f := by rw [← hW1]; exact W8.ext (D := Nope) (w8_new (World.alloc_heap_new W _)) (Ext.alloc _ _ _) (fun h => h)
  have hx1 : Ext Nope W W1 := by rw [← hW1]; exact (Ext.alloc _ _ _).trans (Ext.alloc _ _ _) (fun _ _ h => h) (fun _ _ h => h)
  have hg1 : W8 W1 (W.heap.size + 1) g := by
    rw [← hW1]
    refine w8_new ?_
    have := World.alloc_heap_new (W.alloc (.cells (wcells f) 62)) (.cells (wcells g) 62)
    rw [World.size_alloc] at this
    exact this
  unfold wcells at hW1
  rw [hW1]
  clear hW1
  have HF := Lib.hid hf1
  have HG := Lib.hid hg1
  have HX := Lib.hid hx1
  have HLF := Lib.hid hf
  have HLG := Lib.hid hg
  clear hf1 hg1 hx1 hf hg
  go_loopw [5] (fun i V => ∃ t : Nat, t ≤ 8 ∧ i = .int .i64 ((t : Int) - 1) ∧ W8 V W.heap.size f ∧ W8 V (W.heap.size + 1) g ∧ Ext Nope W V ∧ ∀ j, t ≤ j → j < 8 → f j = g j) (fun i _ => ((intOf i) + 1).toNat)
  case atStart => exact ⟨8, by omega, rfl, HF.out, HG.out, HX.out, fun j h1 h2 => by omega⟩
  case round =>
    obtain ⟨t, ht, rfl, hf2, hg2, hx2, hsame⟩ := hrel
    have HF2 := Lib.hid hf2
    have HG2 := Lib.hid hg2
    have HX2 := Lib.hid hx2
    have HSM := Lib.hid hsame
    clear hf2 hg2 hx2 hsame
    cases t with
    | zero =>
      have hneg : ¬ ((0 : Int) ≤ ((0 : Nat) : Int) - 1) := by omega
      go_wp2_with fail
      go_ret
      refine ⟨?_, HX2.out⟩
      rw [wval_same (fun j hj => HSM.out j (by omega) hj)]
      simp
    | succ t =>
      have e1 : (((t + 1 : Nat) : Int)) - 1 = (t : Int) := by omega
      rw [e1]
      have cf := HF2.out.cell (show t < 8 by omega)
      have cg := HG2.out.cell (show t < 8 by omega)
      go_wp2_with fail
      refine wp_region_quiet_lit (by kernel_rfl) (by kernel_rfl) ?_
      repeat (go_big_quiet_step (fail))
      refine wpQuiet_nil ?_
      rintro _ ⟨nq, rfl⟩
      by_cases hne : f t = g t
      · have hneI : ((f t : Int) == (g t : Int)) = true := by simp [hne]
        go_wp2_with fail
        refine ⟨⟨t, by omega, rfl, HF2.out.ext (Ext.drewN Nope wr nq) (fun h => h), HG2.out.ext (Ext.drewN Nope wr nq) (fun h => h), HX2.out.trans (Ext.drewN Nope wr nq) (fun _ _ h => h) (fun _ _ h => h), fun j h1 h2 => ?_⟩, by simp [intOf]⟩
        rcases Nat.eq_or_lt_of_le h1 with e | e
        · rw [← e]; exact hne
        · exact HSM.out j e h2
      · have hneI : ((f t : Int) == (g t : Int)) = false := by simp; omega
        go_wp2_with fail
        refine wp_region_quiet_lit (by kernel_rfl) (by kernel_rfl) ?_
        repeat (go_big_quiet_step (fail))
        refine wpQuiet_nil ?_
        rintro _ ⟨nq2, rfl⟩
        go_wp2_with fail
        go_ret
        refine ⟨?_, (HX2.out.trans (Ext.drewN Nope wr nq) (fun _ _ h => h) (fun _ _ h => h)).trans (Ext.drewN Nope _ nq2) (fun _ _ h => h) (fun _ _ h => h)⟩
        have := wval_more HLF.out HLG.out (show t < 8 by omega) (fun j h1 h2 => HSM.out j h1 h2) hne
        have h3 : ((g t : Int) < (f t : Int)) ↔ wval g < wval f := by rw [← this]; omega
        simp
        exact this
end Go.Proofs.YtcjcnpjedmpghaaDoor
