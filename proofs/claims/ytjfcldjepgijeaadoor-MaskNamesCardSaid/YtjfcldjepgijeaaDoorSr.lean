/- A region that draws its order, by an invariant over what is listed. No program stands here. -/
import Derived.Test.YtjfcldjepgijeaaDoorRf
namespace Go.Proofs.YtjfcldjepgijeaaDoor
open Go.RowKit

theorem countP_flip {p q : Nat → Bool} {i : Nat} (hp : p i = true) (hq : q i = false) (hj : ∀ j, j ≠ i → q j = p j) : ∀ n, i < n → (List.range n).countP p = (List.range n).countP q + 1 := by
  have low : ∀ n, n ≤ i → (List.range n).countP p = (List.range n).countP q := by
    intro n
    induction n with
    | zero => intro _; rfl
    | succ n ih =>
      intro hn
      rw [List.range_succ, List.countP_append, List.countP_append, ih (by omega)]
      simp [List.countP_cons, hj n (by omega)]
  intro n
  induction n with
  | zero => intro h; omega
  | succ n ih =>
    intro hn
    rw [List.range_succ, List.countP_append, List.countP_append]
    by_cases e : n = i
    · subst e
      rw [low n (Nat.le_refl _)]
      simp [hp, hq]
    · rw [ih (by omega)]
      simp [List.countP_cons, hj n e]
      omega
theorem least {n : Nat} (p : Nat → Bool) : ∀ k, k < n → p k = false → ∃ i, i < n ∧ p i = false ∧ ∀ j, j < i → p j = true := by
  intro k
  induction k using Nat.strongRecOn with
  | _ k ih =>
    intro hk hp
    by_cases h : ∃ j, j < k ∧ p j = false
    · obtain ⟨j, hj, hpj⟩ := h; exact ih j hj (by omega) hpj
    · refine ⟨k, hk, hp, fun j hj => ?_⟩
      cases hpj : p j with
      | true => rfl
      | false => exact absurd ⟨j, hj, hpj⟩ h

def backB (l : List Oper) : Bool := (List.range l.length).all fun i => match l[i]? with
  | some o => o.guard.isNone && o.after.all fun e => !Region.binds .any e || decide (e.on < i)
  | none => true

theorem wp_region_inv {P : Program} {id : Nat} {Q : Exit → Act → World → Prop} {a : Act} {w : World} {l : List Oper} (I : (Nat → Bool) → Act → World → Prop) (hm : P.follows .mixedOrders = true) (hB : backB l = true)
    (h0 : I (fun _ => false) a w.drew)
    (step : ∀ (i : Nat) (o : Oper) (L : Nat → Bool) (a : Act) (w : World), l[i]? = some o → L i = false → (∀ e ∈ o.after, Region.binds .any e = true → L e.on = true) → I L a w → o.wp P a w (fun a' w' => I (fun j => j == i || L j) a' w') Q)
    (fin : ∀ (L : Nat → Bool) (a : Act) (w : World), (∀ j, j < l.length → L j = true) → I L a w → Q .normal a w) : (Code.region id l.toArray true).wp P Q a w := by
  have hback : ∀ i o, l[i]? = some o → o.guard = none ∧ ∀ e ∈ o.after, Region.binds .any e = true → e.on < i := fun i o hi => by
    have h1 := List.all_eq_true.1 hB i (List.mem_range.2 (List.getElem?_eq_some_iff.1 hi).1)
    rw [hi] at h1
    simp only [Bool.and_eq_true, Option.isNone_iff_eq_none] at h1
    refine ⟨h1.1, fun e he hb => ?_⟩
    have h2 := (Array.all_eq_true_iff_forall_mem.1 h1.2) e he
    simpa [hb] using h2
  have key : ∀ (fuel : Nat) (listed : Array Bool) (a : Act) (w : World), listed.size = l.length → (List.range l.length).countP (fun i => !listed.getD i true) = fuel → I (fun j => listed.getD j false) a w →
      wpAny P .any l.toArray Q fuel listed a w := by
    intro fuel
    induction fuel with
    | zero =>
      intro listed a w hs hc hI
      have hall : ∀ j, j < l.length → listed.getD j true = true := fun j hj => by
        have := List.countP_eq_zero.1 hc j (List.mem_range.2 hj)
        simpa using this
      refine ⟨?_, fin _ a w (fun j hj => by have := hall j hj; rw [Array.getD_eq_getD_getElem?] at this ⊢; rw [Array.getElem?_eq_getElem (by omega)] at this ⊢; simpa using this) hI⟩
      refine List.eq_nil_iff_forall_not_mem.2 fun j hj => ?_
      obtain ⟨h1, o, ho, _⟩ := mem_ready.1 hj
      have hlt := (Array.getElem?_eq_some_iff.1 ho).1
      rw [hall j (by simpa using hlt)] at h1; cases h1
    | succ fuel ih =>
      intro listed a w hs hc hI
      refine ⟨fun hr => ?_, fun i hi => ?_⟩
      · exfalso
        obtain ⟨k, hk, hpk⟩ : ∃ k, k < l.length ∧ listed.getD k true = false := by
          have h1 : 0 < (List.range l.length).countP (fun i => !listed.getD i true) := by omega
          obtain ⟨k, hk, hp⟩ := List.countP_pos_iff.1 h1
          exact ⟨k, List.mem_range.1 hk, by simpa using hp⟩
        obtain ⟨i, hi, hpi, hlow⟩ := least (fun i => listed.getD i true) k hk hpk
        have hmem : i ∈ Region.ready .any l.toArray listed := by
          refine mem_ready.2 ⟨hpi, l[i], by simp [List.getElem?_eq_getElem hi], fun e he hb => ?_⟩
          have hlt := (hback i l[i] (List.getElem?_eq_getElem hi)).2 e he hb
          have := hlow e.on hlt
          rw [Array.getD_eq_getD_getElem?, Array.getElem?_eq_getElem (by omega)] at this ⊢
          simpa using this
        rw [hr] at hmem; cases hmem
      · obtain ⟨hun, o, ho, haf⟩ := mem_ready.1 hi
        have ho' : l[i]? = some o := by simpa using ho
        have hlt : i < l.length := (List.getElem?_eq_some_iff.1 ho').1
        have hun' : listed.getD i false = false := getD_both hun
        have hst := step i o (fun j => listed.getD j false) a w ho' hun' haf hI
        unfold wpOp
        rw [ho]
        simp only [Region.wanted, (hback i o ho').1, if_true]
        refine .inl (Oper.wp_mono (fun a' w' h' => ih _ a' w' (by simpa using hs) ?_ ?_) hst)
        · have hf := countP_flip (p := fun j => !listed.getD j true) (q := fun j => !(listed.setIfInBounds i true).getD j true) (i := i) (by simp [hun]) (by
            simp only [Array.getD_eq_getD_getElem?]; rw [Array.getElem?_setIfInBounds_self_of_lt (by omega)]; rfl) (fun j hj => by
            simp only [Array.getD_eq_getD_getElem?]; rw [Array.getElem?_setIfInBounds_ne (fun h => hj h.symm)]) l.length hlt
          omega
        · have e : (fun j => (listed.setIfInBounds i true).getD j false) = fun j => j == i || listed.getD j false := by
            funext j
            simp only [Array.getD_eq_getD_getElem?]
            by_cases hj : j = i
            · subst hj; rw [Array.getElem?_setIfInBounds_self_of_lt (by omega)]; simp
            · rw [Array.getElem?_setIfInBounds_ne (fun h => hj h.symm)]; simp [hj]
          rw [e]; exact h'
  refine wp_region_any hm ?_
  have := key l.length (Array.replicate l.length false) a w.drew (by simp) (by
    have : ∀ n m, n ≤ m → (List.range n).countP (fun i => !(Array.replicate m false).getD i true) = n := by
      intro n
      induction n with
      | zero => intro m _; rfl
      | succ n ih =>
        intro m hnm
        rw [List.range_succ, List.countP_append, ih m (by omega)]
        simp [Array.getD_eq_getD_getElem?, Array.getElem?_replicate, show n < m by omega]
    exact this _ _ (Nat.le_refl _)) (by
    have e : (fun j => (Array.replicate l.length false).getD j false) = fun _ => false := by
      funext j
      simp only [Array.getD_eq_getD_getElem?, Array.getElem?_replicate]
      split <;> rfl
    rw [e]; exact h0)
  simpa using this
end Go.Proofs.YtjfcldjepgijeaaDoor
