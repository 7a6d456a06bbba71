/- A region that draws its order, with several calls: what only looks is taken as soon as it may, where all that may come up keeps what it looks at. No program stands here. -/
import Derived.Test.YtjfcldjepgijeaaDoorSp
namespace Go.Proofs.YtjfcldjepgijeaaDoor
open Go.RowKit

variable {P : Program} {n : Nat} {ops : Array Oper} {md : Region.Mode} {R : World → World → Prop}

/-- whatever comes up; the world goes on by R -/
def wpAnyR (F : Fence) (n : Nat) (P : Program) (md : Region.Mode) (ops : Array Oper) (Q : Exit → Act → World → Prop) (R : World → World → Prop) : Nat → Array Bool → Act → World → Prop
  | 0, listed, a, w => Region.ready md ops listed = [] ∧ Q .normal a w
  | f + 1, listed, a, w => (Region.ready md ops listed = [] → Q .normal a w) ∧
    ∀ i ∈ Region.ready md ops listed, wpOpIn F n P ops Q i (fun a' w' => R w w' ∧ wpAnyR F n P md ops Q R f (listed.setIfInBounds i true) a' w') a w

theorem wpAnyIn_of_R {F : Fence} {Q : Exit → Act → World → Prop} : ∀ (f : Nat) (listed : Array Bool) (a : Act) (w : World), wpAnyR F n P md ops Q R f listed a w → wpAnyIn F n P md ops Q f listed a w
  | 0, _, _, _, h => h
  | f + 1, _, _, _, h => ⟨h.1, fun i hi => wpOpIn_mono (fun a' w' h' => wpAnyIn_of_R f _ a' w' h'.2) (h.2 i hi)⟩

theorem yieldsIf_sub {C D : World → Prop} {o : Oper} {v : Value} {a : Act} (h : YieldsIf P ops C o v a) (hd : ∀ w, D w → C w) : YieldsIf P ops D o v a :=
  h.imp (fun ⟨h1, h2⟩ => ⟨h1, fun w hw => h2 w (hd w hw)⟩) id

theorem wpAnyR_first {r : Option Nat} {Q : Exit → Act → World → Prop} {i : Nat} {oi : Oper} {v : Value} (rfl' : ∀ w, R w w) (trans' : ∀ a b c, R a b → R b c → R a c) (hi : ops[i]? = some oi)
    (hsel : ∀ (j : Nat) (o : Oper) cs b, ops[j]? = some o → o.op ≠ .select cs b) (hd : ∀ (j : Nat) (o : Oper) c, ops[j]? = some o → o.op ≠ .defer c)
    (hQ : ∀ c a w, Q (.panic c) (a.put oi.dst v) w → Q (.panic c) a w) :
    ∀ (f : Nat) (listed : Array Bool) (a : Act) (w : World),
      (∀ j oj, ops[j]? = some oj → j ≠ i → listed.getD j true = false → (∀ e ∈ oj.after, Region.binds md e = true → e.on ≠ i) → oi.apart ops oj = true) →
      i ∈ Region.ready md ops listed → YieldsIf P ops (R w) oi v a →
      wpAnyR (FR r) n P md ops Q R f (listed.setIfInBounds i true) (a.put oi.dst v) w → wpAnyR (FR r) n P md ops Q R (f + 1) listed a w := by
  intro f
  induction f with
  | zero =>
    intro listed a w _ hr hy H
    refine ⟨fun h => (by rw [h] at hr; cases hr), fun j hj => ?_⟩
    by_cases hji : j = i
    · subst hji; exact yieldsIf_wpOpIn hi (fun c => hd j oi c hi) hy (rfl' w) ⟨rfl' w, H⟩
    · have := ready_mono hj hji
      rw [H.1] at this
      cases this
  | succ f ih =>
    intro listed a w hfree hr hy H
    refine ⟨fun h => (by rw [h] at hr; cases hr), fun j hj => ?_⟩
    by_cases hji : j = i
    · subst hji; exact yieldsIf_wpOpIn hi (fun c => hd j oi c hi) hy (rfl' w) ⟨rfl' w, H⟩
    · have hun := (mem_ready.1 hr).1
      have h1 := H.2 j (ready_mono hj hji)
      obtain ⟨hjun, oj, hoj, hall⟩ := mem_ready.1 hj
      have hnot : ∀ e ∈ oj.after, Region.binds md e = true → e.on ≠ i := fun e he hb heq => by
        have h1 := hall e he hb
        rw [heq, getD_both hun] at h1
        cases h1
      have h2 := wpOpIn_putIf hoj (hfree j oj hoj hji hjun hnot) (fun cs b => hsel i oi cs b hi) (fun cs b => hsel j oj cs b hoj) (fun c => hd j oj c hoj) hQ hy h1
      have hfree' : ∀ k ok, ops[k]? = some ok → k ≠ i → (listed.setIfInBounds j true).getD k true = false →
          (∀ e ∈ ok.after, Region.binds md e = true → e.on ≠ i) → oi.apart ops ok = true := fun k ok hk hki hun' hno => by
        refine hfree k ok hk hki ?_ hno
        by_cases hjk : j = k
        · subst hjk; exact hjun
        · rw [getD_set_ne true hjk] at hun'; exact hun'
      refine wpOpIn_mono (fun a' w' h3 => ⟨h3.2.1, ih (listed.setIfInBounds j true) a' w' hfree' (ready_mono hr (Ne.symm hji)) (yieldsIf_sub h3.1 (fun x hx => trans' _ _ _ h3.2.1 hx)) ?_⟩) h2
      rw [Array.setIfInBounds_comm _ _ hji]
      exact h3.2.2

/-- the plan: numbers that only look, then one that is alone; and so on; last, numbers that only look -/
def looksB (md : Region.Mode) (ops : Array Oper) (then' : Array Bool → Bool) : List Nat → Array Bool → Bool
  | [], listed => then' listed
  | s :: S, listed => (match ops[s]? with | some o => looks o.op | none => false) && (Region.ready md ops listed).contains s && Region.free md ops listed s && looksB md ops then' S (listed.setIfInBounds s true)
def planB (md : Region.Mode) (ops : Array Oper) (S' : List Nat) : List (List Nat × Nat) → Array Bool → Bool
  | [], listed => looksB md ops (fun l => (Region.ready md ops l).isEmpty) S' listed
  | (S, i) :: L, listed => looksB md ops (fun l => decide (Region.ready md ops l = [i]) && planB md ops S' L (l.setIfInBounds i true)) S listed
def planSize (S' : List Nat) : List (List Nat × Nat) → Nat
  | [] => S'.length
  | (S, _) :: L => S.length + (planSize S' L + 1)

def opsOf (ops : Array Oper) (S : List Nat) : List Oper := S.filterMap (ops[·]?)

/-- what is asked of the plan's steps -/
def wpPlan (F : Fence) (n : Nat) (P : Program) (ops : Array Oper) (Q : Exit → Act → World → Prop) (R : World → World → Prop) (S' : List Nat) : List (List Nat × Nat) → Act → World → Prop
  | [], a, w => wpQuiet P ops (InC (R w)) (fun a' => Q .normal a' w) (opsOf ops S') a
  | (S, i) :: L, a, w => wpQuiet P ops (InC (R w)) (fun a' => wpOpIn F n P ops Q i (fun a'' w'' => R w w'' ∧ wpPlan F n P ops Q R S' L a'' w'') a' w) (opsOf ops S) a

theorem wpAnyR_looks {r : Option Nat} {Q : Exit → Act → World → Prop} (rfl' : ∀ w, R w w) (trans' : ∀ a b c, R a b → R b c → R a c) (hsel : Region.noSelect ops = true) (hd : ∀ (j : Nat) (o : Oper) c, ops[j]? = some o → o.op ≠ .defer c)
    (hQ : ∀ (o : Oper) v c a w, Q (.panic c) (a.put o.dst v) w → Q (.panic c) a w) {w : World} {f : Nat} {then' : Array Bool → Bool} {K : Act → Prop}
    (hth : ∀ listed a, then' listed = true → K a → wpAnyR (FR r) n P md ops Q R f listed a w) :
    ∀ (S : List Nat) (listed : Array Bool) (a : Act), looksB md ops then' S listed = true → wpQuiet P ops (InC (R w)) K (opsOf ops S) a → wpAnyR (FR r) n P md ops Q R (S.length + f) listed a w
  | [], listed, a, hB, h => by rw [List.length_nil, Nat.zero_add]; exact hth listed a hB h
  | s :: S, listed, a, hB, h => by
    simp only [looksB, Bool.and_eq_true] at hB
    obtain ⟨⟨⟨hlk, hr⟩, hf⟩, hB'⟩ := hB
    cases ho : ops[s]? with
    | none => rw [ho] at hlk; cases hlk
    | some o =>
      rw [ho] at hlk
      have he : opsOf ops (s :: S) = o :: opsOf ops S := by unfold opsOf; rw [List.filterMap_cons, ho]
      rw [he] at h
      have hst : qOp P ops (InC (R w)) s (wpQuiet P ops (InC (R w)) K (opsOf ops S)) a := by unfold qOp; simp only [ho]; exact h
      obtain ⟨v, hy, hK⟩ := yieldsIf_of_qOp ho hlk hst
      have hr' : s ∈ Region.ready md ops listed := by simpa using hr
      rw [show (s :: S).length + f = (S.length + f) + 1 by simp; omega]
      exact wpAnyR_first rfl' trans' ho (Region.noSelect_spec hsel) hd (hQ o v) _ listed a w (Region.free_spec ho hf) hr' (yieldsIf_sub hy (fun x hx => ⟨⟨x, hx⟩, rfl⟩))
        (wpAnyR_looks rfl' trans' hsel hd hQ hth S _ _ hB' hK)

theorem wpAnyR_plan {r : Option Nat} {Q : Exit → Act → World → Prop} (rfl' : ∀ w, R w w) (trans' : ∀ a b c, R a b → R b c → R a c) (hsel : Region.noSelect ops = true) (hd : ∀ (j : Nat) (o : Oper) c, ops[j]? = some o → o.op ≠ .defer c)
    (hQ : ∀ (o : Oper) v c a w, Q (.panic c) (a.put o.dst v) w → Q (.panic c) a w) (S' : List Nat) :
    ∀ (L : List (List Nat × Nat)) (listed : Array Bool) (a : Act) (w : World), planB md ops S' L listed = true → wpPlan (FR r) n P ops Q R S' L a w → wpAnyR (FR r) n P md ops Q R (planSize S' L) listed a w
  | [], listed, a, w, hB, h => by
    have := wpAnyR_looks (n := n) (r := r) (f := 0) (md := md) rfl' trans' hsel hd hQ (w := w) (then' := fun l => (Region.ready md ops l).isEmpty) (K := fun a' => Q .normal a' w)
      (fun listed a hl hK => ⟨by simpa using hl, hK⟩) S' listed a hB h
    exact this
  | (S, i) :: L, listed, a, w, hB, h => by
    refine wpAnyR_looks (n := n) (r := r) (f := planSize S' L + 1) rfl' trans' hsel hd hQ (w := w)
      (K := fun a' => wpOpIn (FR r) n P ops Q i (fun a'' w'' => R w w'' ∧ wpPlan (FR r) n P ops Q R S' L a'' w'') a' w) (fun listed a hl hK => ?_) S listed a hB h
    simp only [Bool.and_eq_true, decide_eq_true_eq] at hl
    refine ⟨fun h0 => (by rw [hl.1] at h0; cases h0), fun j hj => ?_⟩
    rw [hl.1] at hj
    obtain rfl : j = i := by simpa using hj
    exact wpOpIn_mono (fun a' w' h' => ⟨h'.1, wpAnyR_plan rfl' trans' hsel hd hQ S' L _ a' w' hl.2 h'.2⟩) hK

theorem Ext.rfl' (w : World) : Ext Nope w w := Ext.refl _ w
theorem Ext.trans' (a b c : World) (h : Ext Nope a b) (k : Ext Nope b c) : Ext Nope a c := h.trans k (fun _ _ h => h) (fun _ _ h => h)

instance (w : World) : Nonempty (WG (Ext Nope w)) := ⟨⟨w, Ext.refl _ w⟩⟩

/-- THE LAW -/
theorem wpIn_region_plan {r : Option Nat} {id : Nat} {Q : Exit → Act → World → Prop} {a : Act} {w : World} {l : List Oper} (L : List (List Nat × Nat)) (S' : List Nat) (hm : P.follows .mixedOrders = true)
    (hB : (Region.noSelect l.toArray && noDefer l && planB .any l.toArray S' L (Array.replicate l.length false) && decide (planSize S' L = l.length)) = true)
    (h : wpPlan (FR r) n P l.toArray (noPan Q) (Ext Nope) S' L a w.drew) : (Code.region id l.toArray true).wpIn (FR r) n P Q a w := by
  simp only [Bool.and_eq_true, decide_eq_true_eq] at hB
  obtain ⟨⟨⟨hsel, hd⟩, hp⟩, hlen⟩ := hB
  refine wpIn_mono (Q := noPan Q) ?_ noPan_imp
  refine wpIn_region_any hm (wpAnyIn_of_R (R := Ext Nope) _ _ _ _ ?_)
  have := wpAnyR_plan (n := n) (r := r) (md := .any) Ext.rfl' Ext.trans' hsel (noDefer_spec hd) (Q := noPan Q) (fun _ _ _ _ _ h => h) S' L (Array.replicate l.length false) a w.drew hp h
  rw [hlen] at this
  simpa using this
theorem wp_region_plan {id : Nat} {Q : Exit → Act → World → Prop} {a : Act} {w : World} {l : List Oper} (L : List (List Nat × Nat)) (S' : List Nat) (hm : P.follows .mixedOrders = true)
    (hB : (Region.noSelect l.toArray && noDefer l && planB .any l.toArray S' L (Array.replicate l.length false) && decide (planSize S' L = l.length)) = true)
    (h : wpPlan FW 9 P l.toArray (noPan Q) (Ext Nope) S' L a w.drew) : (Code.region id l.toArray true).wp P Q a w :=
  (wpIn_wide (n := 9)).1 (wpIn_region_plan (r := none) L S' hm hB h)

/-- a step that is alone -/
theorem wpOpIn_at {F : Fence} {Q : Exit → Act → World → Prop} {i : Nat} {a : Act} {w : World} {o : Oper} {K : Act → World → Prop} (ho : ops[i]? = some o) (hw : Region.wanted o (yielded ops a.tmps) = true)
    (h : o.wpIn F n P a w K Q) : wpOpIn F n P ops Q i K a w := by
  unfold wpOpIn
  rw [ho]
  simp only []
  rw [if_pos hw]
  exact h

/-- the steps, what comes behind hidden -/
theorem wpPlan_look {F : Fence} {Q : Exit → Act → World → Prop} {S' S : List Nat} {i : Nat} {L : List (List Nat × Nat)} {a : Act} {w : World} (l : List Oper) (hl : S.map (ops[·]?) = l.map some)
    (h : ∀ K' : Act → Prop, (∀ a', wpOpIn F n P ops Q i (fun a'' w'' => R w w'' ∧ wpPlan F n P ops Q R S' L a'' w'') a' w → K' a') → wpQuiet P ops (InC (R w)) K' l a) : wpPlan F n P ops Q R S' ((S, i) :: L) a w := by
  have e : opsOf ops S = l := by
    unfold opsOf
    have := congrArg (List.filterMap id) hl
    rw [List.filterMap_map, List.filterMap_map] at this
    simpa using this
  unfold wpPlan
  rw [e]
  exact h _ (fun _ h => h)
theorem wpPlan_last {F : Fence} {Q : Exit → Act → World → Prop} {S' : List Nat} {a : Act} {w : World} (l : List Oper) (hl : S'.map (ops[·]?) = l.map some)
    (h : ∀ K' : Act → Prop, (∀ a', Q .normal a' w → K' a') → wpQuiet P ops (InC (R w)) K' l a) : wpPlan F n P ops Q R S' [] a w := by
  have e : opsOf ops S' = l := by
    unfold opsOf
    have := congrArg (List.filterMap id) hl
    rw [List.filterMap_map, List.filterMap_map] at this
    simpa using this
  unfold wpPlan
  rw [e]
  exact h _ (fun _ h => h)
theorem wpOpIn_loud {F : Fence} {Q : Exit → Act → World → Prop} {i : Nat} {a : Act} {w : World} {o : Oper} {K0 : Act → World → Prop} (ho : ops[i]? = some o) (hw : Region.wanted o (yielded ops a.tmps) = true)
    (h : ∀ K : Act → World → Prop, (∀ a' w', K0 a' w' → K a' w') → o.wpIn F n P a w K Q) : wpOpIn F n P ops Q i K0 a w :=
  wpOpIn_at ho hw (h _ (fun _ _ h => h))
end Go.Proofs.YtjfcldjepgijeaaDoor
