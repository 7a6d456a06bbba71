/- A range over an iterator that keeps where it stands in cells of its own. No program stands here. -/
import Derived.Test.YtjfcldjepgijeaaDoorRf
namespace Go.Proofs.YtjfcldjepgijeaaDoor
open Go.RowKit

/-- What an iterator does that keeps state in the blocks S: it yields the list xs, one by one; it turns only S and blocks that it has laid itself, and whoever it yields to leaves these; St: how S stands at first; Rd: what it reads of the other memory that lay before. -/
def IterOKS (P : Program) {α : Type} (n : Nat) (g : Nat) (lb : Array Value) (encs : α → Array Value) (xs : List α) (S : Nat → Prop) (St Rd : World → Prop) : Prop :=
  ∀ (l : Nat) (J Jx : List α → World → Prop) (W : World),
    (∀ s A B, J s A → Ext (fun k => S k ∨ W.heap.size ≤ k) A B → J s B) → (∀ s A B, Jx s A → Ext (fun k => S k ∨ W.heap.size ≤ k) A B → Jx s B) →
    (∀ s A, J s A → Rd A) →
    (∀ pre x W1, J pre W1 → pre ++ [x] <+: xs → W.heap.size ≤ W1.heap.size → YieldAt FW (n - 1) P l (encs x) W1 fun e W' =>
      (e = .returned (.bool true) ∧ J (pre ++ [x]) W' ∧ Ext (fun k => k < W.heap.size ∧ ¬ S k) W1 W') ∨ (e = .returned (.bool false) ∧ Jx (pre ++ [x]) W')) →
    St W → J [] W →
    CallsIn FW n P g (#[.func (.yield l) #[] #[]] ++ lb) W fun e W' => (∃ v, e = .returned v) ∧ (J xs W' ∨ ∃ pre, pre <+: xs ∧ Jx pre W')
/-- How a round's body may be left. -/
def roundBodyS {α : Type} (S : Nat → Prop) (B : Nat) (I : List α → World → Prop) (Ix : Code → List α → World → Prop) (xs : List α) (W : World) : Exit → Act → World → Prop
  | .normal, _, W' => Ext (fun k => k < B ∧ ¬ S k) W W' ∧ I xs W'
  | .ret, _, W' => Ext (fun k => k < B ∧ ¬ S k) W W' ∧ Ix .ret xs W'
  | .exit id, _, W' => Ext (fun k => k < B ∧ ¬ S k) W W' ∧ Ix (.exit id) xs W'
  | .goto t, _, W' => Ext (fun k => k < B ∧ ¬ S k) W W' ∧ Ix (.goto t) xs W'
  | .panic _, _, _ => False
  | .outgrown, _, _ => False

theorem rangeFunc_lawS {P : Program} {n : Nat} {α : Type} (S : Nat → Prop) {g : Operand} {ps : Array Tmp} {assign body : Code} {Q : Exit → Act → World → Prop} {a : Act} {w : World}
    {gf : Nat} {lb : Array Value} (hg : a.eval g = .func (.func gf) #[] lb) (eg : ∀ args w, (callFunc gf args).run P w = .ok (.enter gf args) w)
    {encs : α → Array Value} {xs : List α} {St Rd : World → Prop} (hS : ∀ k, S k → k < w.heap.size) (hit : IterOKS P (n - 1) gf lb encs xs S St Rd) (hps : ∀ x, (encs x).size = ps.size)
    (I : List α → World → Prop) (Ix : Code → List α → World → Prop)
    (hI : ∀ s A B, I s A → Ext (fun k => S k ∨ w.heap.size ≤ k) A B → I s B) (hIx : ∀ c s A B, Ix c s A → Ext (fun k => S k ∨ w.heap.size ≤ k) A B → Ix c s B)
    (hRd : ∀ s A, I s A → Rd A) (hSt : ∀ W, Ext (fun k => w.heap.size ≤ k) w W → St W) (h0 : I [] w) (a₁ : α → Act)
    (hassign : ∀ (l : Nat) (x : α) (W : World) (K : Act → World → Prop), K (a₁ x) W →
      assign.wpIn (FW.inRound l) (n - 1 - 1) P (Exit.then K (fun _ _ _ => False)) { tmps := (ps.zip (encs x)).foldl (fun t (p, v) => t.setIfInBounds p v) a.tmps, defers := [] } W)
    (hbody : ∀ (l : Nat) (pre : List α) (x : α) (W : World), I pre W → pre ++ [x] <+: xs → w.heap.size ≤ W.heap.size → body.wpIn (FW.inRound l) (n - 1 - 1) P (roundBodyS S w.heap.size I Ix (pre ++ [x]) W) (a₁ x) W)
    (hdone : ∀ (D : Nat) (W : World), w.heap.size ≤ D → I xs W → W.heap[D]? = some (.deferred (some [])) → Q .normal { a with defers := { target := .collected D, args := #[] } :: a.defers } W)
    (hstop : ∀ (D : Nat) (c : Code) (pre : List α) (W : World), w.heap.size ≤ D → pre <+: xs → Ix c pre W → W.heap[D]? = some (.deferred (some [])) → c.wpIn FW n P Q { a with defers := { target := .collected D, args := #[] } :: a.defers } W) :
    (Code.rangeFunc g ps assign body).wpIn FW n P Q a w := by
  refine wpIn_rangeFunc ?_
  intro fn _
  rw [show FW.round = none from rfl]
  obtain ⟨rec, hrec⟩ : ∃ rec : LoopState → Option Code → Loop, rec = fun st pe => { state := st, pending := pe, fn, tmps := a.tmps, params := ps, assign, body, defers := w.heap.size } := ⟨_, rfl⟩
  obtain ⟨W1, hW1⟩ : ∃ W1, (w.alloc (.deferred (some []))).alloc (.loop (rec .ready none)) = W1 := ⟨_, rfl⟩
  have hL1 : W1.heap[w.heap.size + 1]? = some (.loop (rec .ready none)) := by
    rw [← hW1]; have := World.alloc_heap_new (w.alloc (.deferred (some []))) (.loop (rec .ready none)); rwa [World.size_alloc] at this
  have hK1 : W1.heap[w.heap.size]? = some (.deferred (some [])) := by
    rw [← hW1]; exact (Below.heap_alloc _ _ _ (by simp)).trans (World.alloc_heap_new w _)
  have hsz : W1.heap.size = w.heap.size + 2 := by rw [← hW1]; simp
  have hext : Ext (fun k => w.heap.size ≤ k) w W1 := by
    rw [← hW1]; exact (Ext.alloc _ w _).trans (Ext.alloc _ _ _) (fun _ _ h => h) (fun _ _ h => h)
  have hI1 : I [] W1 := hI _ _ _ h0 (hext.mono (fun _ _ h => .inr h))
  refine ⟨w.heap.size + 1, [{ target := .collected w.heap.size, args := #[] }], W1, { target := .fn (.func gf) lb, args := #[.func (.yield (w.heap.size + 1)) #[] #[]] }, W1, gf,
    #[.func (.yield (w.heap.size + 1)) #[] #[]] ++ lb, W1, ?_, ?_, ?_, ?_, (fun h => (by cases h)), ?_⟩
  · rw [← hW1, hrec]; exact run_enterLoop_outer _ _ _ _ _
  · simp only [resolve, hg]
    simp [go_sem]
  · intro f' _; trivial
  · simp [invoke, go_sem, eg]
  · refine (hit (w.heap.size + 1)
      (fun pre W => w.heap.size + 2 ≤ W.heap.size ∧ I pre W ∧ W.heap[w.heap.size + 1]? = some (.loop (rec .ready none)) ∧ W.heap[w.heap.size]? = some (.deferred (some [])))
      (fun pre W => ∃ c, Ix c pre W ∧ W.heap[w.heap.size + 1]? = some (.loop (rec .done (some c))) ∧ W.heap[w.heap.size]? = some (.deferred (some [])))
      W1
      (fun s A B hs he => ⟨Nat.le_trans hs.1 he.size, hI s A B hs.2.1 (he.mono (fun i _ h => h.imp id (fun h => by omega))), he.heap hs.2.2.1 (fun h => h.elim (fun h => by have := hS _ h; omega) (fun h => by omega)), he.heap hs.2.2.2 (fun h => h.elim (fun h => by have := hS _ h; omega) (fun h => by omega))⟩)
      (fun s A B hs he => by
        obtain ⟨c, hc, hl, hk⟩ := hs
        exact ⟨c, hIx c s A B hc (he.mono (fun i _ h => h.imp id (fun h => by omega))), he.heap hl (fun h => h.elim (fun h => by have := hS _ h; omega) (fun h => by omega)), he.heap hk (fun h => h.elim (fun h => by have := hS _ h; omega) (fun h => by omega))⟩)
      (fun s A hs => hRd s A hs.2.1)
      ?_ (hSt _ hext) ⟨by omega, hI1, hL1, hK1⟩).mono ?_
    · -- one round
      rintro pre x W ⟨hs2, hi, hl, hk⟩ hpre hsz2
      have hlt : w.heap.size + 1 < W.heap.size := (Array.getElem?_eq_some_iff.1 hl).1
      have hy := run_yield (P := P) (args := encs x) hl (by rw [hrec]; exact hps x)
      rw [hrec] at hy
      refine ⟨fn, _, assign, body, hy, roundIn_of_wpIn trivial (hassign _ x W _ ⟨_, run_beginRound hl (by rw [hrec]), ?_⟩)⟩
      have hl2 : (W.putObj (w.heap.size + 1) (.loop { rec .ready none with state := .busy })).heap[w.heap.size + 1]? = some (.loop { rec .ready none with state := .busy }) := World.putObj_heap_same hlt
      have hk2 : (W.putObj (w.heap.size + 1) (.loop { rec .ready none with state := .busy })).heap[w.heap.size]? = some (.deferred (some [])) := (World.putObj_heap_other (by omega)).trans hk
      have hp2 : ∀ (V : World) (o : Obj), Ext (fun k => S k ∨ w.heap.size ≤ k) V (V.putObj (w.heap.size + 1) o) := fun V o => Ext.putObj V _ o (.inr (by omega))
      have hp3 : ∀ (V : World) (o : Obj), Ext (fun k => k < W1.heap.size ∧ ¬ S k) V (V.putObj (w.heap.size + 1) o) := fun V o => Ext.putObj V _ o ⟨by omega, fun h => by have := hS _ h; omega⟩
      refine wpIn_mono (hbody _ pre x _ (hI _ _ _ hi (hp2 _ _)) hpre (by simp; omega)) ?_
      have fin : ∀ (jump : Option Code) (W3 : World), Ext (fun k => k < w.heap.size ∧ ¬ S k) (W.putObj (w.heap.size + 1) (.loop { rec .ready none with state := .busy })) W3 →
          (Instr.endRound (w.heap.size + 1) jump).run P W3 = .ok (.bool jump.isNone) (W3.putObj (w.heap.size + 1) (.loop (rec (if jump.isNone then .ready else .done) jump))) ∧
          W3.heap[w.heap.size + 1]? = some (.loop { rec .ready none with state := .busy }) ∧
          (W3.putObj (w.heap.size + 1) (.loop (rec (if jump.isNone then .ready else .done) jump))).heap[w.heap.size + 1]? = some (.loop (rec (if jump.isNone then .ready else .done) jump)) ∧
          (W3.putObj (w.heap.size + 1) (.loop (rec (if jump.isNone then .ready else .done) jump))).heap[w.heap.size]? = some (.deferred (some [])) := fun jump W3 hk3 => by
        have hl3 := hk3.heap hl2 (fun h => by have := h.1; omega)
        have := run_endRound (P := P) jump hl3
        rw [hrec] at this ⊢
        exact ⟨this, by rw [hrec] at hl3; exact hl3, World.putObj_heap_same (Array.getElem?_eq_some_iff.1 hl3).1, (World.putObj_heap_other (by omega)).trans (hk3.heap hk2 (fun h => by have := h.1; omega))⟩
      rintro e a3 W3 hp
      cases e with
      | normal =>
        obtain ⟨hk3, hi3⟩ := hp
        obtain ⟨hr, hl3, hl4, hk4⟩ := fin none W3 hk3
        refine ⟨_, _, hr, .inl ⟨rfl, ⟨?_, hI _ _ _ hi3 (hp2 _ _), hl4, hk4⟩, ?_⟩⟩
        · have := hk3.size; simp at this ⊢; omega
        · exact ((hp3 W _).trans hk3 (E := fun k => k < W1.heap.size ∧ ¬ S k) (fun _ _ h => h) (fun _ _ h => ⟨by have := h.1; omega, h.2⟩)).trans (hp3 W3 _) (fun _ _ h => h) (fun _ _ h => h)
      | ret =>
        obtain ⟨hk3, hi3⟩ := hp
        obtain ⟨hr, hl3, hl4, hk4⟩ := fin (some .ret) W3 hk3
        exact ⟨_, _, hr, .inr ⟨rfl, .ret, hIx _ _ _ _ hi3 (hp2 _ _), hl4, hk4⟩⟩
      | exit id =>
        obtain ⟨hk3, hi3⟩ := hp
        obtain ⟨hr, hl3, hl4, hk4⟩ := fin (some (.exit id)) W3 hk3
        exact ⟨_, _, hr, .inr ⟨rfl, .exit id, hIx _ _ _ _ hi3 (hp2 _ _), hl4, hk4⟩⟩
      | goto t =>
        obtain ⟨hk3, hi3⟩ := hp
        obtain ⟨hr, hl3, hl4, hk4⟩ := fin (some (.goto t)) W3 hk3
        exact ⟨_, _, hr, .inr ⟨rfl, .goto t, hIx _ _ _ _ hi3 (hp2 _ _), hl4, hk4⟩⟩
      | panic ch => exact hp.elim
      | outgrown => exact hp.elim
    · -- behind the iterator
      rintro e W2 ⟨⟨v, rfl⟩, (⟨_, hi, hl, hk⟩ | ⟨pre, hpre, c, hi, hl, hk⟩)⟩
      · have heq := run_endLoop (P := P) hl (by rw [hrec]; simp)
        have heq' : (Instr.endLoop (w.heap.size + 1)).run P W2 = .ok none (W2.putObj (w.heap.size + 1) (.loop { rec .ready none with state := .exhausted })) := by rw [hrec] at heq ⊢; exact heq
        exact ⟨none, _, heq', hdone _ _ (Nat.le_refl _) (hI _ _ _ hi (Ext.putObj W2 (w.heap.size + 1) _ (.inr (by omega)))) ((World.putObj_heap_other (by omega)).trans hk)⟩
      · have heq := run_endLoop (P := P) hl (by rw [hrec]; simp)
        have heq' : (Instr.endLoop (w.heap.size + 1)).run P W2 = .ok (some c) (W2.putObj (w.heap.size + 1) (.loop { rec .done (some c) with state := .exhausted })) := by rw [hrec] at heq ⊢; exact heq
        exact ⟨some c, _, heq', hstop _ c pre _ (Nat.le_refl _) hpre (hIx _ _ _ _ hi (Ext.putObj W2 (w.heap.size + 1) _ (.inr (by omega)))) ((World.putObj_heap_other (by omega)).trans hk)⟩

end Go.Proofs.YtjfcldjepgijeaaDoor
