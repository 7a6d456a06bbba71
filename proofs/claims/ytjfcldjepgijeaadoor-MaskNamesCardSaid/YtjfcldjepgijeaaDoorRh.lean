/- A range over an iterator that never ends by itself, yields what it has made, and only lays new memory. No program stands here. -/
import Derived.Test.YtjfcldjepgijeaaDoorRf
import Derived.WalkMore
namespace Go.Proofs.YtjfcldjepgijeaaDoor
open Go.RowKit

/-- What such an iterator does: at its k-th round it yields what Y tells (l: the loop's record); it turns nothing that lies there; Rd: what it reads of the memory. Whoever it yields to stops it before round N. -/
def IterG (P : Program) (n : Nat) (g : Nat) (lb : Array Value) (Y : Nat → Nat → World → Value → Prop) (Rd : World → Prop) (N : Nat) : Prop :=
  ∀ (l : Nat) (J : Nat → World → Prop) (Jx : World → Prop) (W : World),
    (∀ k A B, J k A → Ext Nope A B → J k B) → (∀ A B, Jx A → Ext Nope A B → Jx B) →
    (∀ k A, J k A → Rd A ∧ l < A.heap.size) →
    (∀ k W1 v, k < N → J k W1 → Y l k W1 v → YieldAt FW (n - 1) P l #[v] W1 fun e W' =>
      (e = .returned (.bool true) ∧ J (k + 1) W') ∨ (e = .returned (.bool false) ∧ Jx W')) →
    (∀ A, ¬ J N A) → J 0 W →
    CallsIn FW n P g (#[.func (.yield l) #[] #[]] ++ lb) W fun e W' => (∃ v, e = .returned v) ∧ Jx W'
/-- How a round's body may be left. -/
def roundBodyG (B : Nat) (I : Nat → World → Prop) (Ix : Code → World → Prop) (k : Nat) (W : World) : Exit → Act → World → Prop
  | .normal, _, W' => Ext (fun i => i ≠ B ∧ i ≠ B + 1) W W' ∧ I (k + 1) W'
  | .ret, _, W' => Ext (fun i => i ≠ B ∧ i ≠ B + 1) W W' ∧ Ix .ret W'
  | .exit id, _, W' => Ext (fun i => i ≠ B ∧ i ≠ B + 1) W W' ∧ Ix (.exit id) W'
  | .goto t, _, W' => Ext (fun i => i ≠ B ∧ i ≠ B + 1) W W' ∧ Ix (.goto t) W'
  | .panic _, _, _ => False
  | .outgrown, _, _ => False

theorem rangeFunc_lawG {P : Program} {n : Nat} {g : Operand} {ps : Array Tmp} {assign body : Code} {Q : Exit → Act → World → Prop} {a : Act} {w : World}
    {gf : Nat} {lb : Array Value} (hg : a.eval g = .func (.func gf) #[] lb) (eg : ∀ args w, (callFunc gf args).run P w = .ok (.enter gf args) w)
    {Y : Nat → Nat → World → Value → Prop} {Rd : World → Prop} {N : Nat} (hit : IterG P (n - 1) gf lb Y Rd N) (hps : ps.size = 1)
    (I : Nat → World → Prop) (Ix : Code → World → Prop)
    (hI : ∀ k A B, I k A → Ext (Just (w.heap.size + 1)) A B → I k B) (hIx : ∀ c A B, Ix c A → Ext (Just (w.heap.size + 1)) A B → Ix c B)
    (hY : ∀ k A B v, Y (w.heap.size + 1) k A v → Ext (Just (w.heap.size + 1)) A B → Y (w.heap.size + 1) k B v)
    (hRd : ∀ k A, I k A → Rd A) (hno : ∀ A, ¬ I N A) (h0 : I 0 w) (a₁ : Value → Act)
    (hassign : ∀ (l : Nat) (v : Value) (W : World) (K : Act → World → Prop), K (a₁ v) W →
      assign.wpIn (FW.inRound l) (n - 1 - 1) P (Exit.then K (fun _ _ _ => False)) { tmps := (ps.zip #[v]).foldl (fun t (p, u) => t.setIfInBounds p u) a.tmps, defers := [] } W)
    (hbody : ∀ (l k : Nat) (v : Value) (W : World), k < N → I k W → Y (w.heap.size + 1) k W v → w.heap.size + 2 ≤ W.heap.size → body.wpIn (FW.inRound l) (n - 1 - 1) P (roundBodyG w.heap.size I Ix k W) (a₁ v) W)
    (hstop : ∀ (c : Code) (W : World), Ix c W → W.heap[w.heap.size]? = some (.deferred (some [])) → c.wpIn FW n P Q { a with defers := { target := .collected w.heap.size, args := #[] } :: a.defers } W) :
    (Code.rangeFunc g ps assign body).wpIn FW n P Q a w := by
  refine wpIn_rangeFunc ?_
  intro fn _
  rw [show FW.round = none from rfl]
  obtain ⟨rec, hrec⟩ : ∃ rec : LoopState → Option Code → Loop, rec = fun st pe => { state := st, pending := pe, fn, tmps := a.tmps, params := ps, assign, body, defers := w.heap.size } := ⟨_, rfl⟩
  obtain ⟨W1, hW1⟩ : ∃ W1, (w.alloc (.deferred (some []))).alloc (.loop (rec .ready none)) = W1 := ⟨_, rfl⟩
  have hL1 : W1.heap[w.heap.size + 1]? = some (.loop (rec .ready none)) := by
    rw [← hW1]; have := World.alloc_heap_new (w.alloc (.deferred (some []))) (.loop (rec .ready none)); rwa [World.size_alloc] at this
  have hK1 : W1.heap[w.heap.size]? = some (.deferred (some [])) := by
    rw [← hW1]; exact (Below.heap_alloc _ _ _ (by simp)).trans (World.alloc_heap_new w _)
  have hsz : W1.heap.size = w.heap.size + 2 := by rw [← hW1]; simp
  have hext : Ext (Just (w.heap.size + 1)) w W1 := by
    rw [← hW1]; exact (Ext.alloc _ w _).trans (Ext.alloc _ _ _) (fun _ _ h => h) (fun _ _ h => h)
  have hI1 : I 0 W1 := hI _ _ _ h0 hext
  have hnj : ∀ A B : World, Ext Nope A B → Ext (Just (w.heap.size + 1)) A B := fun A B h => h.mono (fun _ _ h => h.elim)
  refine ⟨w.heap.size + 1, [{ target := .collected w.heap.size, args := #[] }], W1, { target := .fn (.func gf) lb, args := #[.func (.yield (w.heap.size + 1)) #[] #[]] }, W1, gf,
    #[.func (.yield (w.heap.size + 1)) #[] #[]] ++ lb, W1, ?_, ?_, ?_, ?_, (fun h => (by cases h)), ?_⟩
  · rw [← hW1, hrec]; exact run_enterLoop_outer _ _ _ _ _
  · simp only [resolve, hg]
    simp [go_sem]
  · intro f' _; trivial
  · simp [invoke, go_sem, eg]
  · refine (hit (w.heap.size + 1)
      (fun k W => w.heap.size + 2 ≤ W.heap.size ∧ I k W ∧ W.heap[w.heap.size + 1]? = some (.loop (rec .ready none)) ∧ W.heap[w.heap.size]? = some (.deferred (some [])))
      (fun W => ∃ c, Ix c W ∧ W.heap[w.heap.size + 1]? = some (.loop (rec .done (some c))) ∧ W.heap[w.heap.size]? = some (.deferred (some [])))
      W1
      (fun k A B hs he => ⟨Nat.le_trans hs.1 he.size, hI k A B hs.2.1 (hnj _ _ he), he.heap hs.2.2.1 (fun h => h), he.heap hs.2.2.2 (fun h => h)⟩)
      (fun A B hs he => by
        obtain ⟨c, hc, hl, hk⟩ := hs
        exact ⟨c, hIx c A B hc (hnj _ _ he), he.heap hl (fun h => h), he.heap hk (fun h => h)⟩)
      (fun k A hs => ⟨hRd k A hs.2.1, by have := hs.1; omega⟩)
      ?_ (fun A h => hno A h.2.1) ⟨by omega, hI1, hL1, hK1⟩).mono ?_
    · -- one round
      rintro k W v hkN ⟨hs2, hi, hl, hk⟩ hy0
      have hlt : w.heap.size + 1 < W.heap.size := (Array.getElem?_eq_some_iff.1 hl).1
      have hy := run_yield (P := P) (args := #[v]) hl (by rw [hrec]; exact hps.symm)
      rw [hrec] at hy
      refine ⟨fn, _, assign, body, hy, roundIn_of_wpIn trivial (hassign _ v W _ ⟨_, run_beginRound hl (by rw [hrec]), ?_⟩)⟩
      have hl2 : (W.putObj (w.heap.size + 1) (.loop { rec .ready none with state := .busy })).heap[w.heap.size + 1]? = some (.loop { rec .ready none with state := .busy }) := World.putObj_heap_same hlt
      have hk2 : (W.putObj (w.heap.size + 1) (.loop { rec .ready none with state := .busy })).heap[w.heap.size]? = some (.deferred (some [])) := (World.putObj_heap_other (by omega)).trans hk
      have hp2 : ∀ (V : World) (o : Obj), Ext (Just (w.heap.size + 1)) V (V.putObj (w.heap.size + 1) o) := fun V o => Ext.putObj V _ o rfl
      refine wpIn_mono (hbody _ k v _ hkN (hI _ _ _ hi (hp2 _ _)) (hY _ _ _ _ hy0 (hp2 _ _)) (by simp; omega)) ?_
      have fin : ∀ (jump : Option Code) (W3 : World), Ext (fun i => i ≠ w.heap.size ∧ i ≠ w.heap.size + 1) (W.putObj (w.heap.size + 1) (.loop { rec .ready none with state := .busy })) W3 →
          (Instr.endRound (w.heap.size + 1) jump).run P W3 = .ok (.bool jump.isNone) (W3.putObj (w.heap.size + 1) (.loop (rec (if jump.isNone then .ready else .done) jump))) ∧
          W3.heap[w.heap.size + 1]? = some (.loop { rec .ready none with state := .busy }) ∧
          (W3.putObj (w.heap.size + 1) (.loop (rec (if jump.isNone then .ready else .done) jump))).heap[w.heap.size + 1]? = some (.loop (rec (if jump.isNone then .ready else .done) jump)) ∧
          (W3.putObj (w.heap.size + 1) (.loop (rec (if jump.isNone then .ready else .done) jump))).heap[w.heap.size]? = some (.deferred (some [])) := fun jump W3 hk3 => by
        have hl3 := hk3.heap hl2 (fun h => h.2 rfl)
        have := run_endRound (P := P) jump hl3
        rw [hrec] at this ⊢
        exact ⟨this, by rw [hrec] at hl3; exact hl3, World.putObj_heap_same (Array.getElem?_eq_some_iff.1 hl3).1, (World.putObj_heap_other (by omega)).trans (hk3.heap hk2 (fun h => h.1 rfl))⟩
      rintro e a3 W3 hp
      cases e with
      | normal =>
        obtain ⟨hk3, hi3⟩ := hp
        obtain ⟨hr, hl3, hl4, hk4⟩ := fin none W3 hk3
        refine ⟨_, _, hr, .inl ⟨rfl, ⟨?_, hI _ _ _ hi3 (hp2 _ _), hl4, hk4⟩⟩⟩
        have := hk3.size; simp at this ⊢; omega
      | ret =>
        obtain ⟨hk3, hi3⟩ := hp
        obtain ⟨hr, hl3, hl4, hk4⟩ := fin (some .ret) W3 hk3
        exact ⟨_, _, hr, .inr ⟨rfl, .ret, hIx _ _ _ hi3 (hp2 _ _), hl4, hk4⟩⟩
      | exit id =>
        obtain ⟨hk3, hi3⟩ := hp
        obtain ⟨hr, hl3, hl4, hk4⟩ := fin (some (.exit id)) W3 hk3
        exact ⟨_, _, hr, .inr ⟨rfl, .exit id, hIx _ _ _ hi3 (hp2 _ _), hl4, hk4⟩⟩
      | goto t =>
        obtain ⟨hk3, hi3⟩ := hp
        obtain ⟨hr, hl3, hl4, hk4⟩ := fin (some (.goto t)) W3 hk3
        exact ⟨_, _, hr, .inr ⟨rfl, .goto t, hIx _ _ _ hi3 (hp2 _ _), hl4, hk4⟩⟩
      | panic ch => exact hp.elim
      | outgrown => exact hp.elim
    · -- behind the iterator
      rintro e W2 ⟨⟨v, rfl⟩, c, hi, hl, hk⟩
      have heq := run_endLoop (P := P) hl (by rw [hrec]; simp)
      have heq' : (Instr.endLoop (w.heap.size + 1)).run P W2 = .ok (some c) (W2.putObj (w.heap.size + 1) (.loop { rec .done (some c) with state := .exhausted })) := by rw [hrec] at heq ⊢; exact heq
      exact ⟨some c, _, heq', hstop c _ (hIx _ _ _ hi (Ext.putObj W2 (w.heap.size + 1) _ rfl)) ((World.putObj_heap_other (by omega)).trans hk)⟩

section scope
variable {F : Fence} {P : Program} {n : Nat} {b : Frame} {k : List Item} {cs : List Frame} {a : Act} {w : World} {Q : Exit → Act → World → Prop}
theorem stepR_scope {c : Code} : step P (lone (b.atR a (.code (.scope c) :: k)) cs w) = .next (lone (b.atR a (.code c :: .inScope c :: k)) cs w) :=
  step_lone_go (by simp [stepG, stepG.exec, Frame.atR])
theorem stepR_inScope {c : Code} : step P (lone (b.atR a (.inScope c :: k)) cs w) = .next (lone (b.atR a k) cs w) :=
  step_lone_go (by simp [stepG, stepG.exec, Frame.atR])
/-- a scope through which the run goes without a goto, inside a fence -/
theorem wpIn_scope_straight {c : Code} (h : c.wpIn F n P (Exit.noGoto Q) a w) : (Code.scope c).wpIn F n P Q a w := by
  intro b k cs hro hb hr
  have h0 : (lone (b.atR a (.code (.scope c) :: k)) cs w).fenced P F := fenced_calm hb hr rfl
  obtain ⟨e, a₁, w₁, hq, harr⟩ := h b (.inScope c :: k) cs hro hb hr
  cases e with
  | normal => exact ⟨.normal, a₁, w₁, hq, .head h0 stepR_scope (StepsIn.trans harr (.one (fenced_calm hb hr rfl) stepR_inScope))⟩
  | exit id =>
    have hx : exitTo id (.inScope c :: k) = exitTo id k := by simp [exitTo]
    exact ⟨.exit id, a₁, w₁, hq, fun k' hk => .head h0 stepR_scope (harr.1 k' (by rw [hx]; exact hk)),
      fun hr' hk => let ⟨k₁, h1, h2⟩ := harr.2 hr' (by rw [hx]; exact hk); ⟨k₁, h1, .head h0 stepR_scope h2⟩⟩
  | goto l => exact hq.elim
  | ret => exact ⟨_, a₁, w₁, hq, .of_steps (.one h0 stepR_scope) harr⟩
  | panic ch => exact ⟨_, a₁, w₁, hq, .of_steps (.one h0 stepR_scope) harr⟩
  | outgrown => exact ⟨_, a₁, w₁, hq, .of_steps (.one h0 stepR_scope) harr⟩
end scope
end Go.Proofs.YtjfcldjepgijeaaDoor
