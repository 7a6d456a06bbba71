/- A region that draws its order: operations that only look may be taken first, where what writes or calls keeps what they look at. No program stands here. -/
import Derived.Test.YtjfcldjepgijeaaDoorRf
import Derived.OrdersHeld
namespace Go.Proofs.YtjfcldjepgijeaaDoor
open Go.RowKit

variable {P : Program} {n : Nat} {ops : Array Oper} {C : World → Prop} {md : Region.Mode}

/-- operations that hand back a value and enter nothing -/
def looks : Op → Bool
  | .move _ | .assign _ | .pick .. | .load .. | .nilCheck _ | .binOp .. | .unOp .. | .convert .. | .slice .. | .fieldAddr .. | .field .. | .indexAddr .. | .index .. | .makeInterface .. | .makeFunc .. | .extract .. => true
  | .call c => (match c.callee with | .builtin .len => true | .builtin .min => true | _ => false)
  | _ => false

theorem bind_value {s : Sem Value} {w w' : World} {x : Next} (h : (do pure (Next.value (← s)) : Sem Next).run P w = .ok x w') : ∃ v, x = .value v := by
  simp only [Sem.run_bind] at h
  cases hr : s.run P w <;> rw [hr] at h <;> simp [Result.andThen] at h
  exact ⟨_, h.1.symm⟩

theorem looks_value {o : Oper} {ρ : Operand → Value} {w w' : World} {x : Next} (h : looks o.op = true) (hr : (execOp ρ o).run P w = .ok x w') : ∃ v, x = .value v := by
  unfold execOp at hr
  cases ho : o.op <;> rw [ho] at h hr <;> first | (cases h; done) | exact bind_value hr | skip
  case call c =>
    simp only [looks] at h
    cases hc : c.callee with
    | builtin b =>
      rw [hc] at h
      cases b <;> first | (cases h; done) | skip
      · simp only [Sem.run_bind, resolve, hc, Sem.run_pure, Result.andThen, invoke, builtin] at hr
        split at hr <;> simp at hr
        exact ⟨_, hr.1.symm⟩
      · simp only [Sem.run_bind, resolve, hc, Sem.run_pure, Result.andThen, invoke, builtin] at hr
        split at hr <;> simp at hr
        exact ⟨_, hr.1.symm⟩
    | invoke _ _ => rw [hc] at h; cases h
    | value _ => rw [hc] at h; cases h
  case move x => simp at hr; exact ⟨_, hr.1.symm⟩
  case assign x => simp at hr; exact ⟨_, hr.1.symm⟩
  case pick c a b =>
    simp only [Sem.run_bind] at hr
    cases hb : (asBool (ρ c)).run P w <;> rw [hb] at hr <;> simp [Result.andThen] at hr
    exact ⟨_, hr.1.symm⟩
  case nilCheck x =>
    simp only [] at hr
    split at hr
    · simp [runtimePanic, go_sem] at hr
    · simp [runtimePanic, go_sem] at hr
    · simp [runtimePanic, go_sem] at hr
    · split at hr
      · simp [runtimePanic, go_sem] at hr
      · simp only [Sem.run_bind] at hr
        generalize Sem.run P (program) w = r1 at hr
        cases r1 with
        | halt _ _ => simp [Result.andThen] at hr
        | ok p1 w1 =>
          simp only [Result.andThen] at hr
          generalize Sem.run P (nilAhead _ _ _ _) w1 = r2 at hr
          cases r2 with
          | halt _ _ => simp at hr
          | ok b w2 =>
            simp only [] at hr
            split at hr
            · simp [Result.andThen, unsupported] at hr
            · simp at hr; exact ⟨_, hr.1.symm⟩
      · simp at hr; exact ⟨_, hr.1.symm⟩
    · simp at hr; exact ⟨_, hr.1.symm⟩

theorem yieldsIf_of_qOp {i : Nat} {o : Oper} {a : Act} {K : Act → Prop} (hi : ops[i]? = some o) (hl : looks o.op = true) (h : qOp P ops C i K a) : ∃ v, YieldsIf P ops C o v a ∧ K (a.put o.dst v) := by
  obtain ⟨v, hy, hK⟩ := yieldsIn_of_qOp hi h
  refine ⟨v, ?_, hK⟩
  rcases hy with ⟨hw, hq⟩ | hn
  · refine .inl ⟨hw, fun w hC => ?_⟩
    have hq := hq w hC
    unfold Oper.quietAt at hq
    cases hr : (execOp a.eval o).run P w with
    | halt x w' => rw [hr] at hq; simp [Oper.quietUpon] at hq
    | ok x w' =>
      obtain ⟨u, rfl⟩ := looks_value hl hr
      rw [hr] at hq
      simp only [Oper.quietUpon] at hq
      rw [hq.1, hq.2]
  · exact .inr hn

/-- whatever comes up; what comes up ahead of number m keeps C -/
def wpAnyS (F : Fence) (n : Nat) (P : Program) (md : Region.Mode) (ops : Array Oper) (Q : Exit → Act → World → Prop) (C : World → Prop) (m : Nat) : Nat → Array Bool → Act → World → Prop
  | 0, listed, a, w => Region.ready md ops listed = [] ∧ Q .normal a w
  | f + 1, listed, a, w => (Region.ready md ops listed = [] → Q .normal a w) ∧
    ∀ i ∈ Region.ready md ops listed, wpOpIn F n P ops Q i (fun a' w' => (i < m → C w') ∧ wpAnyS F n P md ops Q C m f (listed.setIfInBounds i true) a' w') a w

theorem wpAnyIn_of_S {F : Fence} {Q : Exit → Act → World → Prop} {m : Nat} : ∀ (f : Nat) (listed : Array Bool) (a : Act) (w : World), wpAnyS F n P md ops Q C m f listed a w → wpAnyIn F n P md ops Q f listed a w
  | 0, _, _, _, h => h
  | f + 1, _, _, _, h => ⟨h.1, fun i hi => wpOpIn_mono (fun a' w' h' => wpAnyIn_of_S f _ a' w' h'.2) (h.2 i hi)⟩

theorem yieldsIf_wpOpIn {r : Option Nat} {Q : Exit → Act → World → Prop} {i : Nat} {oi : Oper} {v : Value} {a : Act} (hi : ops[i]? = some oi) (hd : ∀ c, oi.op ≠ .defer c) (hy : YieldsIf P ops C oi v a)
    {K : Act → World → Prop} {w : World} (hC : C w) (h : K (a.put oi.dst v) w) : wpOpIn (FR r) n P ops Q i K a w := by
  unfold wpOpIn
  simp only [hi]
  rcases hy with ⟨hw, hv⟩ | ⟨hw, rfl⟩
  · simp only [hw, if_true, Oper.wpIn]
    rw [Oper.semAt_plain _ _ _ hd, hv w hC]
    exact ⟨fun _ _ => trivial, h⟩
  · simp only [hw, Bool.false_eq_true, if_false]; exact ⟨fun _ _ => trivial, h⟩

theorem wpOpIn_putIf {r : Option Nat} {Q : Exit → Act → World → Prop} {j : Nat} {oi oj : Oper} {v : Value} (hj : ops[j]? = some oj) (hap : oi.apart ops oj = true)
    (hsi : ∀ cs b, oi.op ≠ .select cs b) (hsj : ∀ cs b, oj.op ≠ .select cs b) (hd : ∀ c, oj.op ≠ .defer c)
    (hQ : ∀ c a w, Q (.panic c) (a.put oi.dst v) w → Q (.panic c) a w) {K : Act → World → Prop} {a : Act} {w : World}
    (hy : YieldsIf P ops C oi v a) (h : wpOpIn (FR r) n P ops Q j K (a.put oi.dst v) w) :
    wpOpIn (FR r) n P ops Q j (fun a' w' => YieldsIf P ops C oi v a' ∧ K (a'.put oi.dst v) w') a w := by
  obtain ⟨h1, h2, h3⟩ := Oper.apart_spec hap
  have keep : ∀ (a : Act), YieldsIf P ops C oi v a → ∀ u, YieldsIf P ops C oi v (a.put oj.dst u) := fun a hy u =>
    hy.of_same (execOp_put oi hsi a oj.dst u h3) (wanted_put oi a oj.dst u h3)
  unfold wpOpIn at *
  simp only [hj] at *
  rw [wanted_put oj a oi.dst v h1] at h
  split
  · rename_i hw
    simp only [hw, if_true] at h
    unfold Oper.wpIn at *
    refine ⟨fun _ _ => trivial, ?_⟩
    have h := h.2
    rw [Oper.semAt_plain _ _ _ hd, execOp_put oj hsj a oi.dst v h1] at h
    rw [Oper.semAt_plain _ _ _ hd]
    generalize (execOp a.eval oj).run P w = res at *
    cases res with
    | ok x w' =>
      cases x <;> simp only [Oper.uponIn] at h ⊢
      case value u => exact ⟨keep a hy u, by rw [← Act.put_comm a v u h2]; exact h⟩
      case skip => exact ⟨keep a hy _, by rw [← Act.put_comm a v undef h2]; exact h⟩
      case defer d =>
        refine ⟨(hy.of_same rfl rfl : YieldsIf P ops C oi v { a with defers := d :: a.defers }).of_same (execOp_put oi hsi _ oj.dst undef h3) (wanted_put oi _ oj.dst undef h3), ?_⟩
        rw [← Act.put_comm _ v undef h2, ← Act.put_defers]
        exact h
      case enter f args =>
        refine ⟨h.1, CallsIn.mono h.2 fun e w'' he => ?_⟩
        cases e with
        | returned u => exact ⟨keep a hy u, by rw [← Act.put_comm a v u h2]; exact he⟩
        | panicked c => exact hQ _ _ _ he
        | outgrown => exact he
      case row row args => exact ⟨h.1, RowsIn.mono h.2 fun u w'' he => ⟨keep a hy u, by rw [← Act.put_comm a v u h2]; exact he⟩⟩
      case round l f tmps assign body =>
        refine ⟨h.1, RoundIn.mono h.2 fun e w'' he => ?_⟩
        cases e with
        | returned u => exact ⟨keep a hy u, by rw [← Act.put_comm a v u h2]; exact he⟩
        | panicked c => exact hQ _ _ _ he
        | outgrown => exact he
    | halt x w' =>
      cases x <;> simp only [Oper.uponIn] at h ⊢
      case panic u => exact hQ _ _ _ h
  · rename_i hw
    simp only [hw] at h
    exact ⟨fun _ _ => trivial, keep a hy _, by rw [← Act.put_comm a v undef h2]; exact h.2⟩

theorem wpAnyS_first {r : Option Nat} {Q : Exit → Act → World → Prop} {m i : Nat} {oi : Oper} {v : Value} (hi : ops[i]? = some oi) (hsel : ∀ (j : Nat) (o : Oper) cs b, ops[j]? = some o → o.op ≠ .select cs b)
    (hd : ∀ (j : Nat) (o : Oper) c, ops[j]? = some o → o.op ≠ .defer c)
    (hs : Region.sinkB md ops m = true) (hc : Region.chainB md ops m = true) (hm : m < ops.size) (him : i < m)
    (hQ : ∀ c a w, Q (.panic c) (a.put oi.dst v) w → Q (.panic c) a w) :
    ∀ (f : Nat) (listed : Array Bool) (a : Act) (w : World), HeadInv md ops m listed →
      (∀ j oj, ops[j]? = some oj → j ≠ i → listed.getD j true = false → (∀ e ∈ oj.after, Region.binds md e = true → e.on ≠ i) → oi.apart ops oj = true) →
      i ∈ Region.ready md ops listed → YieldsIf P ops C oi v a → C w →
      wpAnyS (FR r) n P md ops Q C m f (listed.setIfInBounds i true) (a.put oi.dst v) w → wpAnyS (FR r) n P md ops Q C m (f + 1) listed a w := by
  intro f
  induction f with
  | zero =>
    intro listed a w _ _ hr hy hC H
    refine ⟨fun h => (by rw [h] at hr; cases hr), fun j hj => ?_⟩
    by_cases hji : j = i
    · subst hji; exact yieldsIf_wpOpIn hi (fun c => hd j oi c hi) hy hC ⟨fun _ => hC, H⟩
    · have := ready_mono hj hji
      rw [H.1] at this
      cases this
  | succ f ih =>
    intro listed a w inv hfree hr hy hC H
    have hun := (mem_ready.1 hr).1
    refine ⟨fun h => (by rw [h] at hr; cases hr), fun j hj => ?_⟩
    have hjm : j < m := by
      rcases Nat.lt_or_ge j m with h | h
      · exact h
      · exact absurd hj (tail_waits hs hc hm inv _ i rfl him hun j h)
    by_cases hji : j = i
    · subst hji; exact yieldsIf_wpOpIn hi (fun c => hd j oi c hi) hy hC ⟨fun _ => hC, H⟩
    · have h1 := H.2 j (ready_mono hj hji)
      obtain ⟨hjun, oj, hoj, hall⟩ := mem_ready.1 hj
      have hnot : ∀ e ∈ oj.after, Region.binds md e = true → e.on ≠ i := fun e he hb heq => by
        have h1 := hall e he hb
        rw [heq, getD_both hun] at h1
        cases h1
      have h2 := wpOpIn_putIf hoj (hfree j oj hoj hji hjun hnot) (fun cs b => hsel i oi cs b hi) (fun cs b => hsel j oj cs b hoj) (fun c => hd j oj c hoj) hQ hy h1
      have hfree' : ∀ k ok, ops[k]? = some ok → k ≠ i → (listed.setIfInBounds j true).getD k true = false →
          (∀ e ∈ ok.after, Region.binds md e = true → e.on ≠ i) → oi.apart ops ok = true := fun k ok hk hki hun' hno => by
        refine hfree k ok hk hki ?_ hno
        by_cases hjk : j = k
        · subst hjk; exact hjun
        · rw [getD_set_ne true hjk] at hun'; exact hun'
      refine wpOpIn_mono (fun a' w' h3 => ⟨h3.2.1, ih (listed.setIfInBounds j true) a' w' (inv.set hj hjm) hfree' (ready_mono hr (Ne.symm hji)) h3.1 (h3.2.1 hjm) ?_⟩) h2
      rw [Array.setIfInBounds_comm _ _ hji]
      exact h3.2.2

/-- the order: first the numbers that only look, then the rest, one at a time -/
def leftB (md : Region.Mode) (ops : Array Oper) : List Nat → Array Bool → Bool
  | [], listed => (Region.ready md ops listed).isEmpty
  | i :: l, listed => decide (Region.ready md ops listed = [i]) && leftB md ops l (listed.setIfInBounds i true)
def pickB (md : Region.Mode) (ops : Array Oper) (m : Nat) (L : List Nat) : List Nat → Array Bool → Bool
  | [], listed => leftB md ops L listed
  | s :: S, listed => decide (s < m) && (match ops[s]? with | some o => looks o.op | none => false) && (Region.ready md ops listed).contains s && Region.free md ops listed s && pickB md ops m L S (listed.setIfInBounds s true)

/-- what is left, one at a time -/
def wpLeft (F : Fence) (n : Nat) (P : Program) (ops : Array Oper) (Q : Exit → Act → World → Prop) (C : World → Prop) (m : Nat) : List Nat → Act → World → Prop
  | [], a, w => Q .normal a w
  | i :: l, a, w => wpOpIn F n P ops Q i (fun a' w' => (i < m → C w') ∧ wpLeft F n P ops Q C m l a' w') a w

theorem wpAnyS_left {F : Fence} {Q : Exit → Act → World → Prop} {m : Nat} : ∀ (L : List Nat) (listed : Array Bool) (a : Act) (w : World), leftB md ops L listed = true →
    wpLeft F n P ops Q C m L a w → wpAnyS F n P md ops Q C m L.length listed a w
  | [], _, _, _, hB, h => ⟨by simpa [leftB] using hB, h⟩
  | i :: L, listed, a, w, hB, h => by
    simp only [leftB, Bool.and_eq_true, decide_eq_true_eq] at hB
    refine ⟨fun h0 => (by rw [hB.1] at h0; cases h0), fun j hj => ?_⟩
    rw [hB.1] at hj
    obtain rfl : j = i := by simpa using hj
    exact wpOpIn_mono (fun a' w' h' => ⟨h'.1, wpAnyS_left L _ a' w' hB.2 h'.2⟩) h

theorem wpAnyS_pick {r : Option Nat} {Q : Exit → Act → World → Prop} {m : Nat} (hsel : Region.noSelect ops = true) (hd : ∀ (j : Nat) (o : Oper) c, ops[j]? = some o → o.op ≠ .defer c)
    (hs : Region.sinkB md ops m = true) (hc : Region.chainB md ops m = true) (hm : m < ops.size) (hQ : ∀ (o : Oper) v c a w, Q (.panic c) (a.put o.dst v) w → Q (.panic c) a w) (L : List Nat) {w : World} (hC : C w) :
    ∀ (S : List Nat) (l : List Oper) (listed : Array Bool) (a : Act), S.map (ops[·]?) = l.map some → HeadInv md ops m listed → pickB md ops m L S listed = true →
    wpQuiet P ops C (fun a' => wpLeft (FR r) n P ops Q C m L a' w) l a → wpAnyS (FR r) n P md ops Q C m (S.length + L.length) listed a w
  | [], l, listed, a, hl, _, hB, h => by
    have : l = [] := by simpa using hl.symm
    subst this
    rw [List.length_nil, Nat.zero_add]
    exact wpAnyS_left L listed a w hB h
  | s :: S, l, listed, a, hl, inv, hB, h => by
    cases l with
    | nil => simp at hl
    | cons o l =>
      simp only [List.map_cons, List.cons.injEq] at hl
      simp only [pickB, Bool.and_eq_true, decide_eq_true_eq] at hB
      obtain ⟨⟨⟨⟨hsm, hlk⟩, hr⟩, hf⟩, hB'⟩ := hB
      rw [hl.1] at hlk
      have hst : qOp P ops C s (wpQuiet P ops C (fun a' => wpLeft (FR r) n P ops Q C m L a' w) l) a := by unfold qOp; simp only [hl.1]; exact h
      obtain ⟨v, hy, hK⟩ := yieldsIf_of_qOp hl.1 hlk hst
      have hr' : s ∈ Region.ready md ops listed := by simpa using hr
      rw [show (s :: S).length + L.length = (S.length + L.length) + 1 by simp; omega]
      exact wpAnyS_first hl.1 (Region.noSelect_spec hsel) hd hs hc hm hsm (hQ o v) _ listed a w inv (Region.free_spec hl.1 hf) hr' hy hC
        (wpAnyS_pick hsel hd hs hc hm hQ L hC S l _ _ hl.2 (inv.set hr' hsm) hB' hK)

theorem wpLeft_step {F : Fence} {Q : Exit → Act → World → Prop} {m i : Nat} {l : List Nat} {a : Act} {w : World} {o : Oper} (ho : ops[i]? = some o) (hg : o.guard = none)
    (h : ∀ K : Act → World → Prop, (∀ a' w', ((i < m → C w') ∧ wpLeft F n P ops Q C m l a' w') → K a' w') → o.wpIn F n P a w K Q) : wpLeft F n P ops Q C m (i :: l) a w := by
  unfold wpLeft wpOpIn
  rw [ho]
  simp only [Region.wanted, hg, if_true]
  exact h _ (fun _ _ h => h)
theorem wpLeft_tail {F : Fence} {Q : Exit → Act → World → Prop} {m : Nat} : ∀ (L : List Nat) (l : List Oper) {a : Act} {w : World}, L.map (ops[·]?) = l.map some → (L.all fun i => decide (m ≤ i)) = true →
    wpListIn F n P ops Q l a w → wpLeft F n P ops Q C m L a w
  | [], l, _, _, hl, _, h => by
    have : l = [] := by simpa using hl.symm
    subst this; exact h
  | i :: L, l, a, w, hl, hm, h => by
    cases l with
    | nil => simp at hl
    | cons o l =>
      simp only [List.map_cons, List.cons.injEq] at hl
      simp only [List.all_cons, Bool.and_eq_true, decide_eq_true_eq] at hm
      unfold wpLeft wpOpIn
      rw [hl.1]
      simp only []
      unfold wpListIn at h
      split at h
      · rename_i hw; rw [if_pos hw]; exact Oper.wpIn_mono (fun a' w' h' => ⟨fun hi => by omega, wpLeft_tail L l hl.2 hm.2 h'⟩) h
      · rename_i hw; rw [if_neg hw]; exact ⟨h.1, fun hi => by omega, wpLeft_tail L l hl.2 hm.2 h.2⟩

/-- what is asked of a panic does not hang on the temporaries -/
theorem put_defers (a : Act) (d : Option Tmp) (v : Value) : (a.put d v).defers = a.defers := by cases d <;> rfl

/-- A world that meets G. -/
structure WG (G : World → Prop) where
  v : World
  h : G v
abbrev InC (G : World → Prop) : World → Prop := fun w' => ∃ x : WG G, w' = x.v

/-- no panic is let by -/
def noPan (Q : Exit → Act → World → Prop) : Exit → Act → World → Prop
  | .panic _, _, _ => False
  | .normal, a, w => Q .normal a w
  | _, _, _ => False
theorem noPan_normal {Q : Exit → Act → World → Prop} {a : Act} {w : World} : noPan Q .normal a w = Q .normal a w := rfl
theorem noPan_imp {Q : Exit → Act → World → Prop} : ∀ e a w, noPan Q e a w → Q e a w
  | .normal, _, _, h => h

/-- the operations that a mask names, and their numbers -/
def keep : List Bool → List Oper → List Oper
  | true :: m, o :: l => o :: keep m l
  | false :: m, _ :: l => keep m l
  | _, _ => []
def maskIdx : List Bool → Nat → List Nat
  | true :: m, k => k :: maskIdx m (k + 1)
  | false :: m, k => maskIdx m (k + 1)
  | [], _ => []
theorem keep_spec : ∀ (m : List Bool) (l : List Oper) (k : Nat), m.length ≤ l.length → (∀ j, l[j]? = ops[k + j]?) → (maskIdx m k).map (ops[·]?) = (keep m l).map some
  | [], l, _, _, _ => by cases l <;> rfl
  | b :: m, [], _, h, _ => by simp at h
  | true :: m, o :: l, k, h, hl => by
    have h0 := hl 0
    simp only [maskIdx, keep, List.map_cons]
    rw [keep_spec m l (k + 1) (by simpa using h) (fun j => by have := hl (j + 1); simpa [Nat.add_assoc, Nat.add_comm 1 j] using this)]
    simp at h0; rw [← h0]
  | false :: m, o :: l, k, h, hl => by
    simp only [maskIdx, keep]
    exact keep_spec m l (k + 1) (by simpa using h) (fun j => by have := hl (j + 1); simpa [Nat.add_assoc, Nat.add_comm 1 j] using this)

/-- THE LAW: S only look, and G (what they look at) is kept by what comes up ahead of number m; then L, one at a time. -/
theorem wpIn_region_pick {r : Option Nat} {id : Nat} {Q : Exit → Act → World → Prop} {a : Act} {w : World} {l : List Oper} (G : World → Prop) (m : Nat) (M : List Bool) (L : List Nat) (hm : P.follows .mixedOrders = true)
    (hB : (Region.noSelect l.toArray && noDefer l && decide (m < l.length) && decide (M.length ≤ l.length) && Region.sinkB .any l.toArray m && Region.chainB .any l.toArray m && pickB .any l.toArray m L (maskIdx M 0) (Array.replicate l.length false) && decide ((maskIdx M 0).length + L.length = l.length)) = true)
    (hG : G w.drew)
    (h : wpQuiet P l.toArray (InC G) (fun a' => wpLeft (FR r) n P l.toArray (noPan Q) (InC G) m L a' w.drew) (keep M l) a) : (Code.region id l.toArray true).wpIn (FR r) n P Q a w := by
  simp only [Bool.and_eq_true, decide_eq_true_eq] at hB
  obtain ⟨⟨⟨⟨⟨⟨⟨hsel, hd⟩, hmn⟩, hMl⟩, hs⟩, hc⟩, hp⟩, hlen⟩ := hB
  have inv0 : HeadInv .any l.toArray m (Array.replicate l.toArray.size false) :=
    ⟨by simp, fun j oj _ hl => (by rw [getD_replicate_false] at hl; cases hl), fun t _ ht => getD_in (by simpa using ht) (getD_replicate_false _ _)⟩
  refine wpIn_mono (Q := noPan Q) ?_ noPan_imp
  refine wpIn_region_any hm (wpAnyIn_of_S (C := InC G) (m := m) _ _ _ _ ?_)
  have := wpAnyS_pick (n := n) (r := r) (md := .any) hsel (noDefer_spec hd) hs hc (by simpa using hmn) (Q := noPan Q) (fun _ _ _ _ _ h => h) L (C := InC G) (w := w.drew) ⟨⟨_, hG⟩, rfl⟩ (maskIdx M 0) (keep M l) (Array.replicate l.length false) a (keep_spec M l 0 hMl (by simp)) (by simpa using inv0) hp h
  rw [hlen] at this
  simpa using this
end Go.Proofs.YtjfcldjepgijeaaDoor
