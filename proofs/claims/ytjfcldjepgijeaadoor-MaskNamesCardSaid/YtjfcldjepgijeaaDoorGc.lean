/- A block turns the state of sha256. -/
import Derived.Test.YtjfcldjepgijeaaDoorGb
import Derived.Test.YtjfcldjepgijeaaDoorSr
import Derived.Laws.IdiomCopy
namespace Go.Proofs.YtjfcldjepgijeaaDoor
open Go.RowKit Go.Shelf
attribute [local go_sem] Oper.semAt_some

theorem wp_store_arr {P : Program} {W : World} {o : Oper} {A : Act} {K : Act → World → Prop} {Q : Exit → Act → World → Prop} (hd : o.dst = none) (x y : Operand) (t : TypeId) (ho : o.op = .store t x y) {B : Nat} {v : Value} {W' : World}
    (hx : A.eval x = .pointer (some ⟨B, 0, none⟩)) (hy : A.eval y = v) (hl : (storeVar t ⟨B, 0, none⟩ v).run P W = .ok () W') (h : K A W') : o.wp P A W K Q := by
  unfold Oper.wp execOp
  rw [ho]
  simp only [hx, hy, Instr.storeAt, Instr.sureAddr, Sem.run_bind, Sem.run_pure, Result.andThen, hl]
  simpa [Oper.upon, Act.put, hd] using h

def g8cells (s : G8) : Array Value := #[.int .u32 (wd s.a), .int .u32 (wd s.b), .int .u32 (wd s.c), .int .u32 (wd s.d), .int .u32 (wd s.e), .int .u32 (wd s.f), .int .u32 (wd s.g), .int .u32 (wd s.h)]
def stgCells (sz : Int) (s : G8) (rest : Value) (tk : BitVec 64) : Array Value :=
  #[.int .i64 sz, .int .u32 (wd s.a), .int .u32 (wd s.b), .int .u32 (wd s.c), .int .u32 (wd s.d), .int .u32 (wd s.e), .int .u32 (wd s.f), .int .u32 (wd s.g), .int .u32 (wd s.h), rest, .int .u64 (wd tk)]
/-- the block of a state -/
def StG (W : World) (b : Nat) (sz : Int) (s : G8) (rest : Value) (tk : BitVec 64) : Prop := W.heap[b]? = some (.cells (stgCells sz s rest tk) 93 (0, 0))
def Kubes (W : World) : Prop := ∀ t, t < 64 → W.cell? ⟨4, t, none⟩ = some (.int .u32 (wd (kube t)))
theorem stg_cells {W : World} {b : Nat} {sz : Int} {s : G8} {rest : Value} {tk : BitVec 64} (h : StG W b sz s rest tk) :
    W.cell? ⟨b, 0, none⟩ = some (.int .i64 sz) ∧ W.cell? ⟨b, 1, none⟩ = some (.int .u32 (wd s.a)) ∧ W.cell? ⟨b, 2, none⟩ = some (.int .u32 (wd s.b)) ∧ W.cell? ⟨b, 3, none⟩ = some (.int .u32 (wd s.c)) ∧
    W.cell? ⟨b, 4, none⟩ = some (.int .u32 (wd s.d)) ∧ W.cell? ⟨b, 5, none⟩ = some (.int .u32 (wd s.e)) ∧ W.cell? ⟨b, 6, none⟩ = some (.int .u32 (wd s.f)) ∧ W.cell? ⟨b, 7, none⟩ = some (.int .u32 (wd s.g)) ∧
    W.cell? ⟨b, 8, none⟩ = some (.int .u32 (wd s.h)) ∧ W.cell? ⟨b, 9, none⟩ = some rest ∧ W.cell? ⟨b, 10, none⟩ = some (.int .u64 (wd tk)) :=
  ⟨block_cell h 0 rfl, block_cell h 1 rfl, block_cell h 2 rfl, block_cell h 3 rfl, block_cell h 4 rfl, block_cell h 5 rfl, block_cell h 6 rfl, block_cell h 7 rfl, block_cell h 8 rfl, block_cell h 9 rfl, block_cell h 10 rfl⟩
theorem g8_cells {W : World} {b : Nat} {s : G8} (h : W.heap[b]? = some (.cells (g8cells s) 77 (0, 0))) :
    W.cell? ⟨b, 0, none⟩ = some (.int .u32 (wd s.a)) ∧ W.cell? ⟨b, 1, none⟩ = some (.int .u32 (wd s.b)) ∧ W.cell? ⟨b, 2, none⟩ = some (.int .u32 (wd s.c)) ∧
    W.cell? ⟨b, 3, none⟩ = some (.int .u32 (wd s.d)) ∧ W.cell? ⟨b, 4, none⟩ = some (.int .u32 (wd s.e)) ∧ W.cell? ⟨b, 5, none⟩ = some (.int .u32 (wd s.f)) ∧ W.cell? ⟨b, 6, none⟩ = some (.int .u32 (wd s.g)) ∧
    W.cell? ⟨b, 7, none⟩ = some (.int .u32 (wd s.h)) :=
  ⟨block_cell h 0 rfl, block_cell h 1 rfl, block_cell h 2 rfl, block_cell h 3 rfl, block_cell h 4 rfl, block_cell h 5 rfl, block_cell h 6 rfl, block_cell h 7 rfl⟩

/-- a state whose words are a function's -/
def StF (W : World) (b : Nat) (sz : Int) (f : Nat → BitVec 32) (rest : Value) (tk : BitVec 64) : Prop :=
  ∃ cs : Array Value, W.heap[b]? = some (.cells cs 93 (0, 0)) ∧ cs.size = 11 ∧ cs[0]? = some (.int .i64 sz) ∧ (∀ j, j < 8 → cs[1 + j]? = some (.int .u32 (wd (f j)))) ∧ cs[9]? = some rest ∧ cs[10]? = some (.int .u64 (wd tk))
theorem StG.f {W : World} {b : Nat} {sz : Int} {s : G8} {rest : Value} {tk : BitVec 64} (h : StG W b sz s rest tk) : StF W b sz (gws s) rest tk :=
  ⟨stgCells sz s rest tk, h, rfl, rfl, fun j hj => by
    obtain rfl | rfl | rfl | rfl | rfl | rfl | rfl | rfl : j = 0 ∨ j = 1 ∨ j = 2 ∨ j = 3 ∨ j = 4 ∨ j = 5 ∨ j = 6 ∨ j = 7 := by omega
    all_goals rfl, rfl, rfl⟩
theorem StF.g {W : World} {b : Nat} {sz : Int} {f : Nat → BitVec 32} {s : G8} {rest : Value} {tk : BitVec 64} (h : StF W b sz f rest tk) (hf : ∀ j, j < 8 → f j = gws s j) : StG W b sz s rest tk := by
  obtain ⟨cs, h1, h2, h3, h4, h5, h6⟩ := h
  have : cs = stgCells sz s rest tk := by
    apply Array.ext_getElem?
    intro j
    by_cases hj : j < 11
    · have h40 := h4 0 (by omega)
      have h41 := h4 1 (by omega)
      have h42 := h4 2 (by omega)
      have h43 := h4 3 (by omega)
      have h44 := h4 4 (by omega)
      have h45 := h4 5 (by omega)
      have h46 := h4 6 (by omega)
      have h47 := h4 7 (by omega)
      rw [hf _ (by omega)] at h40 h41 h42 h43 h44 h45 h46 h47
      obtain rfl | rfl | rfl | rfl | rfl | rfl | rfl | rfl | rfl | rfl | rfl : j = 0 ∨ j = 1 ∨ j = 2 ∨ j = 3 ∨ j = 4 ∨ j = 5 ∨ j = 6 ∨ j = 7 ∨ j = 8 ∨ j = 9 ∨ j = 10 := by omega
      · exact h3
      · exact h40
      · exact h41
      · exact h42
      · exact h43
      · exact h44
      · exact h45
      · exact h46
      · exact h47
      · exact h5
      · exact h6
    · rw [Array.getElem?_eq_none (by omega), Array.getElem?_eq_none (by show 11 ≤ j; omega)]
  rw [this] at h1; exact h1
theorem StF.set {W : World} {b : Nat} {sz : Int} {f : Nat → BitVec 32} {rest : Value} {tk : BitVec 64} (h : StF W b sz f rest tk) {j : Nat} (hj : j < 8) (v : BitVec 32) : StF (W.setCell ⟨b, 1 + j, none⟩ (.int .u32 (wd v))) b sz (updg f j v) rest tk := by
  obtain ⟨cs, h1, h2, h3, h4, h5, h6⟩ := h
  refine ⟨_, block_set h1 (1 + j) _, by simpa using h2, ?_, fun i hi => ?_, ?_, ?_⟩
  · rw [Array.getElem?_setIfInBounds_ne (by omega)]; exact h3
  · unfold updg
    by_cases e : i = j
    · subst e; rw [if_pos rfl, Array.getElem?_setIfInBounds_self_of_lt (by omega)]
    · rw [if_neg e, Array.getElem?_setIfInBounds_ne (by omega)]; exact h4 i hi
  · rw [Array.getElem?_setIfInBounds_ne (by omega)]; exact h5
  · rw [Array.getElem?_setIfInBounds_ne (by omega)]; exact h6
theorem StF.cell {W : World} {b : Nat} {sz : Int} {f : Nat → BitVec 32} {rest : Value} {tk : BitVec 64} (h : StF W b sz f rest tk) {j : Nat} (hj : j < 8) : W.cell? ⟨b, 1 + j, none⟩ = some (.int .u32 (wd (f j))) := by
  obtain ⟨cs, h1, h2, h3, h4, h5, h6⟩ := h; exact block_cell h1 _ (h4 j hj)
theorem StF.free {W : World} {b : Nat} {sz : Int} {f : Nat → BitVec 32} {rest : Value} {tk : BitVec 64} (h : StF W b sz f rest tk) (j : Nat) : W.frozen? ⟨b, j, none⟩ = false := by
  obtain ⟨cs, h1, _⟩ := h; exact block_free h1 j

theorem StF.same {W : World} {b : Nat} {sz : Int} {f g : Nat → BitVec 32} {rest : Value} {tk : BitVec 64} (h : StF W b sz f rest tk) (hf : ∀ j, j < 8 → f j = g j) : StF W b sz g rest tk := by
  obtain ⟨cs, h1, h2, h3, h4, h5⟩ := h; exact ⟨cs, h1, h2, h3, fun j hj => by rw [← hf j hj]; exact h4 j hj, h5⟩

theorem copy8 {V : World} {B : Nat} {r : G8} (h : V.heap[B]? = some (.cells (g8cells r) 77 (0, 0))) :
    ∃ V', (Builtin.copy_ #[119, 119] 3 #[.slice (some ⟨B, 1, none⟩) 7 7, .slice (some ⟨B, 0, none⟩) 7 8]).run Tryd.prog V = .ok (.int .i64 7) V' ∧
      V'.heap[B]? = some (.cells (g8cells ⟨r.a, r.a, r.b, r.c, r.d, r.e, r.f, r.g⟩) 77 (0, 0)) ∧ Ext (Just B) V V' := by
  obtain ⟨d0, d1, d2, d3, d4, d5, d6, d7⟩ := g8_cells h
  have hrun := run_copy_cells (P := Tryd.prog) V 119 119 3 75 B 1 7 7 ⟨B, 0, none⟩ 7 8
    [.int .u32 (wd r.a), .int .u32 (wd r.b), .int .u32 (wd r.c), .int .u32 (wd r.d), .int .u32 (wd r.e), .int .u32 (wd r.f), .int .u32 (wd r.g)] (by kernel_rfl) (by kernel_rfl) rfl
    (fun j v hj => by
      rw [addr_add, Nat.zero_add]
      match j, hj with
      | 0, hj => simp at hj; subst hj; exact d0
      | 1, hj => simp at hj; subst hj; exact d1
      | 2, hj => simp at hj; subst hj; exact d2
      | 3, hj => simp at hj; subst hj; exact d3
      | 4, hj => simp at hj; subst hj; exact d4
      | 5, hj => simp at hj; subst hj; exact d5
      | 6, hj => simp at hj; subst hj; exact d6
      | j + 7, hj => simp at hj)
    (fun j hj => by
      simp at hj
      obtain rfl | rfl | rfl | rfl | rfl | rfl | rfl : j = 0 ∨ j = 1 ∨ j = 2 ∨ j = 3 ∨ j = 4 ∨ j = 5 ∨ j = 6 := by omega
      all_goals simp [d1, d2, d3, d4, d5, d6, d7])
    (fun j _ => block_free h _) (fun v hv => by simp at hv; rcases hv with rfl | rfl | rfl | rfl | rfl | rfl | rfl <;> rfl)
  refine ⟨_, hrun, ?_, ?_⟩
  · have := block_set (block_set (block_set (block_set (block_set (block_set (block_set h 1 (.int .u32 (wd r.a))) 2 (.int .u32 (wd r.b))) 3 (.int .u32 (wd r.c))) 4 (.int .u32 (wd r.d))) 5 (.int .u32 (wd r.e))) 6 (.int .u32 (wd r.f))) 7 (.int .u32 (wd r.g))
    simpa [World.setCells, g8cells] using this
  · have := ((((((Ext.setCell (D := Just B) V ⟨B, 1, none⟩ (.int .u32 (wd r.a)) rfl).setCells 2 (.int .u32 (wd r.b))).setCells 3 (.int .u32 (wd r.c))).setCells 4 (.int .u32 (wd r.d))).setCells 5 (.int .u32 (wd r.e))).setCells 6 (.int .u32 (wd r.f))).setCells 7 (.int .u32 (wd r.g))
    simpa [World.setCells] using this

def TurnGPost (W : World) (b : Nat) (sz : Int) (s : G8) (l : List (BitVec 8)) (rest : Value) (tk : BitVec 64) (e : Ending) (W' : World) : Prop :=
  e = .returned (.tuple #[]) ∧ StG W' b sz (turnG s l) rest tk ∧ Ext (Just b) W W'

/-- the first region of turn: what holds behind the operations that are listed -/
def TI (W : World) (b : Nat) (a : Option Addr) (cap : Nat) (s : G8) (f : Nat → BitVec 32) (L : Nat → Bool) (x : Act) (w : World) : Prop :=
  ∃ (v4 v5 v12 v13 v14 v15 v16 v17 : Value) (B4 B5 : Nat), x = ⟨List.toArray (.pointer (some ⟨b, 0, none⟩) :: .slice a 64 cap :: undef :: undef :: v4 :: v5 :: undef :: undef :: undef :: undef :: undef :: undef :: v12 :: v13 :: v14 :: v15 :: v16 :: v17 :: undef :: undef :: undef :: undef :: undef :: undef :: undef :: undef :: undef :: undef :: undef :: undef :: undef :: undef :: undef :: undef :: undef :: undef :: undef :: undef :: undef :: undef :: undef :: undef :: undef :: undef :: undef :: undef :: undef :: undef :: undef :: undef :: undef :: undef :: undef :: undef :: undef :: undef :: undef :: undef :: undef :: undef :: undef :: undef :: undef :: undef :: undef :: undef :: undef :: undef :: undef :: undef :: undef :: undef :: undef :: undef :: undef :: undef :: undef :: undef :: undef :: undef :: undef :: undef :: undef :: undef :: undef :: undef :: undef :: undef :: undef :: undef :: undef :: undef :: undef :: undef :: undef :: undef :: undef :: undef :: []), []⟩ ∧ Ext (fun k => W.heap.size ≤ k) W w ∧
    (L 0 = true → v12 = .slice a 64 cap) ∧ (L 1 = true → ∃ cs, v13 = .agg cs ∧ GVal cs f) ∧ (L 2 = true → v14 = .pointer (some ⟨b, 0, none⟩)) ∧ (L 3 = true → v15 = .pointer (some ⟨b, 0, none⟩)) ∧
    (L 4 = true → v16 = .pointer (some ⟨b, 1, none⟩)) ∧ (L 5 = true → v17 = .agg #[.int .u32 (wd s.a), .int .u32 (wd s.b), .int .u32 (wd s.c), .int .u32 (wd s.d), .int .u32 (wd s.e), .int .u32 (wd s.f), .int .u32 (wd s.g), .int .u32 (wd s.h)]) ∧
    (L 6 = true → v4 = .pointer (some ⟨B4, 0, none⟩) ∧ W.heap.size ≤ B4 ∧ ∃ old, w.heap[B4]? = some (.cells old 76 (0, 0)) ∧ old.size = 64 ∧ (L 8 = true → GVal old f)) ∧
    (L 7 = true → v5 = .pointer (some ⟨B5, 0, none⟩) ∧ W.heap.size ≤ B5 ∧ ∃ old, w.heap[B5]? = some (.cells old 77 (0, 0)) ∧ old.size = 8 ∧ (L 9 = true → old = g8cells s)) ∧
    (L 6 = true → L 7 = true → B4 ≠ B5) ∧ (L 8 = true → L 6 = true) ∧ (L 9 = true → L 7 = true)
theorem store_arr8 {w : World} {B : Nat} {old : Array Value} (h : w.heap[B]? = some (.cells old 77 (0, 0))) (ho : old.size = 8) (s : G8) :
    ∃ W', (storeVar 77 ⟨B, 0, none⟩ (.agg (g8cells s))).run Tryd.prog w = .ok () W' ∧ W'.heap[B]? = some (.cells (g8cells s) 77 (0, 0)) ∧ Ext (Just B) w W' :=
  ⟨_, run_storeVar_row _ B _ _ old (g8cells s) h (by kernel_rfl) (by rw [ho]; rfl) (by simp [g8cells, Value.oneCell']), setRow_heap h, Ext.setRow _ _ _⟩
theorem zerog8 (w : World) : (zeroValue 77).run Tryd.prog w = .ok (.agg #[.int .u32 0, .int .u32 0, .int .u32 0, .int .u32 0, .int .u32 0, .int .u32 0, .int .u32 0, .int .u32 0]) w := by kernel_rfl

set_option maxRecDepth 100000 in
set_option maxHeartbeats 4000000 in
theorem turng_any {p : Nat → Prop} (b : Nat) (sz : Int) (s : G8) (rest : Value) (tk : BitVec 64) (a : Option Addr) (cap : Nat) (l : List (BitVec 8)) (W : World)
    (hst : Hid (StG W b sz s rest tk)) (hh : Hid (Holds p W a cap l)) (hn : Hid (l.length = 64)) (hcu : Hid (Kubes W)) :
    Calls Tryd.prog 54 #[.pointer (some ⟨b, 0, none⟩), .slice a 64 cap] W (TurnGPost W b sz s l rest tk) := by
  have hz := zerog64
  have hbW : b < W.heap.size := (Array.getElem?_eq_some_iff.1 hst.out).1
  have HH : Hid (Holds (fun c => c < W.heap.size) W a cap l) := hh.out.lt.mono (fun c hc => hc.2)
  go_enter Tryd.func54, Tryd.ntmps54
  go_wp2_with fail
  refine wp_region_inv (TI W b a cap s (word6 (be32 l))) (by kernel_rfl) (by kernel_rfl) ?h0 ?step ?fin
  case h0 =>
    refine ⟨undef, undef, undef, undef, undef, undef, undef, undef, 0, 0, rfl, Ext.drew _ _, ?_⟩
    simp
  case step =>
    intro i o L x w ho hL haf hI
    obtain ⟨v4, v5, v12, v13, v14, v15, v16, v17, B4, B5, rfl, hx, h0, h1, h2, h3, h4, h5, h6, h7, h67, h86, h97⟩ := hI
    have hi : i < 10 := by have := (List.getElem?_eq_some_iff.1 ho).1; simpa using this
    obtain rfl | rfl | rfl | rfl | rfl | rfl | rfl | rfl | rfl | rfl : i = 0 ∨ i = 1 ∨ i = 2 ∨ i = 3 ∨ i = 4 ∨ i = 5 ∨ i = 6 ∨ i = 7 ∨ i = 8 ∨ i = 9 := by omega
    all_goals simp only [List.getElem?_cons_zero, List.getElem?_cons_succ, Option.some.injEq] at ho
    all_goals subst ho
    · refine BigFrame.wp_move (.tmp 1) rfl ?_
      exact ⟨_, _, _, _, _, _, _, _, B4, B5, rfl, hx, (fun _ => rfl), (fun h => h1 (by simpa using h)), (fun h => h2 (by simpa using h)), (fun h => h3 (by simpa using h)), (fun h => h4 (by simpa using h)), (fun h => h5 (by simpa using h)), (fun h => h6 (by simpa using h)), (fun h => h7 (by simpa using h)), (fun h h' => h67 (by simpa using h) (by simpa using h')), (fun h => by simpa using h86 (by simpa using h)), (fun h => by simpa using h97 (by simpa using h))⟩
    · have l0 := haf ⟨0, .data⟩ (by simp) rfl
      obtain rfl := h0 l0
      have HW : Hid (Holds (fun c => c < W.heap.size) w a cap l) := HH.out.ext hx (fun c hc h => by have : W.heap.size ≤ c := h; omega)
      go_step
      refine (spreadg_any a cap l w HW hn).mono ?_
      rintro e w' ⟨cs, rfl, hv, HX'⟩
      show TI _ _ _ _ _ _ _ _ _
      exact ⟨_, _, _, _, _, _, _, _, B4, B5, rfl, (hx.trans HX' (fun _ _ h => h) (fun _ _ h => h.elim)), (fun h => h0 (by simpa using h)), (fun _ => ⟨cs, rfl, hv⟩), (fun h => h2 (by simpa using h)), (fun h => h3 (by simpa using h)), (fun h => h4 (by simpa using h)), (fun h => h5 (by simpa using h)), (fun h => by
        obtain ⟨e, hb, old, ho, hs, hv⟩ := h6 (by simpa using h)
        exact ⟨e, hb, old, HX'.heap ho (fun h => h), hs, fun h => hv (by simpa using h)⟩), (fun h => by
        obtain ⟨e, hb, old, ho, hs, hv⟩ := h7 (by simpa using h)
        exact ⟨e, hb, old, HX'.heap ho (fun h => h), hs, fun h => hv (by simpa using h)⟩), (fun h h' => h67 (by simpa using h) (by simpa using h')), (fun h => by simpa using h86 (by simpa using h)), (fun h => by simpa using h97 (by simpa using h))⟩
    · refine BigFrame.wp_move (.tmp 0) rfl ?_
      exact ⟨_, _, _, _, _, _, _, _, B4, B5, rfl, hx, (fun h => h0 (by simpa using h)), (fun h => h1 (by simpa using h)), (fun _ => rfl), (fun h => h3 (by simpa using h)), (fun h => h4 (by simpa using h)), (fun h => h5 (by simpa using h)), (fun h => h6 (by simpa using h)), (fun h => h7 (by simpa using h)), (fun h h' => h67 (by simpa using h) (by simpa using h')), (fun h => by simpa using h86 (by simpa using h)), (fun h => by simpa using h97 (by simpa using h))⟩
    · have l2 := haf ⟨2, .data⟩ (by simp) rfl
      obtain rfl := h2 l2
      go_step
      exact ⟨_, _, _, _, _, _, _, _, B4, B5, rfl, hx, (fun h => h0 (by simpa using h)), (fun h => h1 (by simpa using h)), (fun h => h2 (by simpa using h)), (fun _ => rfl), (fun h => h4 (by simpa using h)), (fun h => h5 (by simpa using h)), (fun h => h6 (by simpa using h)), (fun h => h7 (by simpa using h)), (fun h h' => h67 (by simpa using h) (by simpa using h')), (fun h => by simpa using h86 (by simpa using h)), (fun h => by simpa using h97 (by simpa using h))⟩
    · have l3 := haf ⟨3, .data⟩ (by simp) rfl
      obtain rfl := h3 l3
      go_step
      exact ⟨_, _, _, _, _, _, _, _, B4, B5, rfl, hx, (fun h => h0 (by simpa using h)), (fun h => h1 (by simpa using h)), (fun h => h2 (by simpa using h)), (fun h => h3 (by simpa using h)), (fun _ => rfl), (fun h => h5 (by simpa using h)), (fun h => h6 (by simpa using h)), (fun h => h7 (by simpa using h)), (fun h h' => h67 (by simpa using h) (by simpa using h')), (fun h => by simpa using h86 (by simpa using h)), (fun h => by simpa using h97 (by simpa using h))⟩
    · have l4 := haf ⟨4, .data⟩ (by simp) rfl
      obtain rfl := h4 l4
      have hsw : StG w b sz s rest tk := hx.heap hst.out (fun h => by omega)
      obtain ⟨c0, c1, c2, c3, c4, c5, c6, c7, c8, c9, c10⟩ := stg_cells hsw
      go_step
      exact ⟨_, _, _, _, _, _, _, _, B4, B5, rfl, hx, (fun h => h0 (by simpa using h)), (fun h => h1 (by simpa using h)), (fun h => h2 (by simpa using h)), (fun h => h3 (by simpa using h)), (fun h => h4 (by simpa using h)), (fun _ => rfl), (fun h => h6 (by simpa using h)), (fun h => h7 (by simpa using h)), (fun h h' => h67 (by simpa using h) (by simpa using h')), (fun h => by simpa using h86 (by simpa using h)), (fun h => by simpa using h97 (by simpa using h))⟩
    · have hsz := hx.size
      have HX' := Ext.alloc Nope w (.cells zg64 76)
      have hnew := World.alloc_heap_new w (.cells zg64 76)
      go_step
      exact ⟨_, _, _, _, _, _, _, _, w.heap.size, B5, rfl, (hx.trans HX' (fun _ _ h => h) (fun _ _ h => h.elim)), (fun h => h0 (by simpa using h)), (fun h => h1 (by simpa using h)), (fun h => h2 (by simpa using h)), (fun h => h3 (by simpa using h)), (fun h => h4 (by simpa using h)), (fun h => h5 (by simpa using h)), (fun _ => ⟨rfl, hsz, zg64, hnew, by simp [zg64], fun h => by have := h86 (by simpa using h); rw [hL] at this; cases this⟩), (fun h => by
        obtain ⟨e, hb, old, ho, hs, hv⟩ := h7 (by simpa using h)
        exact ⟨e, hb, old, HX'.heap ho (fun h => h), hs, fun h => hv (by simpa using h)⟩), (fun _ h' => by
        obtain ⟨_, _, old, ho, _⟩ := h7 (by simpa using h')
        have := (Array.getElem?_eq_some_iff.1 ho).1
        omega), (fun _ => by simp), (fun h => by simpa using h97 (by simpa using h))⟩
    · have hsz := hx.size
      have HX' := Ext.alloc Nope w (.cells #[.int .u32 0, .int .u32 0, .int .u32 0, .int .u32 0, .int .u32 0, .int .u32 0, .int .u32 0, .int .u32 0] 77)
      have hnew := World.alloc_heap_new w (.cells #[.int .u32 0, .int .u32 0, .int .u32 0, .int .u32 0, .int .u32 0, .int .u32 0, .int .u32 0, .int .u32 0] 77)
      go_step
      exact ⟨_, _, _, _, _, _, _, _, B4, w.heap.size, rfl, (hx.trans HX' (fun _ _ h => h) (fun _ _ h => h.elim)), (fun h => h0 (by simpa using h)), (fun h => h1 (by simpa using h)), (fun h => h2 (by simpa using h)), (fun h => h3 (by simpa using h)), (fun h => h4 (by simpa using h)), (fun h => h5 (by simpa using h)), (fun h => by
        obtain ⟨e, hb, old, ho, hs, hv⟩ := h6 (by simpa using h)
        exact ⟨e, hb, old, HX'.heap ho (fun h => h), hs, fun h => hv (by simpa using h)⟩), (fun _ => ⟨rfl, hsz, _, hnew, rfl, fun h => by have := h97 (by simpa using h); rw [hL] at this; cases this⟩), (fun h _ => by
        obtain ⟨_, _, old, ho, _⟩ := h6 (by simpa using h)
        have := (Array.getElem?_eq_some_iff.1 ho).1
        omega), (fun h => by simpa using h86 (by simpa using h)), (fun _ => by simp)⟩
    · have l6 := haf ⟨6, .data⟩ (by simp) rfl
      have l1 := haf ⟨1, .data⟩ (by simp) rfl
      obtain ⟨cs, rfl, hgv⟩ := h1 l1
      obtain ⟨rfl, hb4, old, ho4, hs4, _⟩ := h6 l6
      obtain ⟨W', hl, hh', hx'⟩ := store_arr ho4 hs4 hgv
      refine wp_store_arr rfl (.tmp 4) (.tmp 13) 76 rfl rfl rfl hl ?_
      exact ⟨_, _, _, _, _, _, _, _, B4, B5, rfl, (hx.trans hx' (fun _ _ h => h) (fun j hj h => by simp only [Just] at h; omega)), (fun h => h0 (by simpa using h)), (fun h => h1 (by simpa using h)), (fun h => h2 (by simpa using h)), (fun h => h3 (by simpa using h)), (fun h => h4 (by simpa using h)), (fun h => h5 (by simpa using h)), (fun _ => ⟨rfl, hb4, cs, hh', hgv.1, fun _ => hgv⟩), (fun h => by
        obtain ⟨e, hb, old, ho, hs, hv⟩ := h7 (by simpa using h)
        exact ⟨e, hb, old, hx'.heap ho (fun e => h67 l6 (by simpa using h) e.symm), hs, fun h => hv (by simpa using h)⟩), (fun h h' => h67 (by simpa using h) (by simpa using h')), (fun _ => by simp [l6]), (fun h => by simpa using h97 (by simpa using h))⟩
    · have l7 := haf ⟨7, .data⟩ (by simp) rfl
      have l5 := haf ⟨5, .data⟩ (by simp) rfl
      obtain rfl := h5 l5
      obtain ⟨rfl, hb5, old, ho5, hs5, _⟩ := h7 l7
      obtain ⟨W', hl, hh', hx'⟩ := store_arr8 ho5 hs5 s
      refine wp_store_arr rfl (.tmp 5) (.tmp 17) 77 rfl rfl rfl hl ?_
      exact ⟨_, _, _, _, _, _, _, _, B4, B5, rfl, (hx.trans hx' (fun _ _ h => h) (fun j hj h => by simp only [Just] at h; omega)), (fun h => h0 (by simpa using h)), (fun h => h1 (by simpa using h)), (fun h => h2 (by simpa using h)), (fun h => h3 (by simpa using h)), (fun h => h4 (by simpa using h)), (fun h => h5 (by simpa using h)), (fun h => by
        obtain ⟨e, hb, old, ho, hs, hv⟩ := h6 (by simpa using h)
        exact ⟨e, hb, old, hx'.heap ho (fun e => h67 (by simpa using h) l7 e), hs, fun h => hv (by simpa using h)⟩), (fun _ => ⟨rfl, hb5, g8cells s, hh', rfl, fun _ => rfl⟩), (fun h h' => h67 (by simpa using h) (by simpa using h')), (fun h => by simpa using h86 (by simpa using h)), (fun _ => by simp [l7])⟩
  case fin =>
    intro L x w hall hI
    obtain ⟨v4, v5, v12, v13, v14, v15, v16, v17, B4, B5, rfl, hx, _, _, _, _, _, _, h6, h7, h67, _, _⟩ := hI
    have l6 := hall 6 (by simp)
    have l7 := hall 7 (by simp)
    obtain ⟨rfl, hb4, cs, ho4, hs4, hgv⟩ := h6 l6
    obtain ⟨rfl, hb5, old, ho5, hs5, hold⟩ := h7 l7
    obtain rfl := hold (hall 9 (by simp))
    have hg := hgv (hall 8 (by simp))
    have hne := h67 l6 l7
    have HGW : Hid (GArr w B4 76 64 (word6 (be32 l))) := ⟨cs, ho4, hg.1, hg.2⟩
    have HB5 := Lib.hid ho5
    have HNE := Lib.hid hne
    have HXW := Lib.hid hx
    have HB45 : Hid (W.heap.size ≤ B4 ∧ W.heap.size ≤ B5) := ⟨hb4, hb5⟩
    clear h6 h7 h67 l6 l7 ho4 hs4 hgv ho5 hs5 hold hg hne hx hb4 hb5 hall
    go_wp2_with fail
    have hK0 : ∀ t, t < 64 → w.cell? ⟨4, t, none⟩ = some (.int .u32 (wd (kube t))) := fun t ht => by
      have h1 := hcu.out t ht
      have h2 := World.block_lt_of_cell? W _ h1
      exact HXW.out.cell h1 (fun h => by have h3 : W.heap.size ≤ 4 := h; have h4 : 4 < W.heap.size := h2; omega)
    have hGne : 4 ≠ B5 := fun e => by
      have h2 := World.block_lt_of_cell? W _ (hcu.out 0 (by omega))
      have h4 : 4 < W.heap.size := h2
      have := HB45.out; omega
    have HK : Hid (∀ V, Ext (Just B5) w V → ∀ t, t < 64 → V.cell? ⟨4, t, none⟩ = some (.int .u32 (wd (kube t)))) := fun V hx t ht => hx.cell (hK0 t ht) (fun h => hGne h)
    have HWA : Hid (∀ V, Ext (Just B5) w V → ∀ t, t < 64 → V.cell? ⟨B4, t, none⟩ = some (.int .u32 (wd (word6 (be32 l) t)))) := fun V hx t ht => hx.cell (HGW.out.cell ht) (fun h => HNE.out h)
    clear hK0 hGne hz
    go_loopw [18] (fun vi V => ∃ (i : Nat), i ≤ 64 ∧ vi = .int .i64 i ∧ V.heap[B5]? = some (.cells (g8cells (rounds6 s (told6 (be32 l) i))) 77 (0, 0)) ∧ Ext (Just B5) w V) (fun i _ => 64 - (intOf i).toNat)
    case atStart => exact ⟨0, by omega, rfl, HB5.out, Ext.refl _ _⟩
    case round =>
      obtain ⟨i, hi, rfl, hb, hx⟩ := hrel
      have HB := Lib.hid hb
      have HX := Lib.hid hx
      clear hb hx
      by_cases hlt : i < 64
      · have hltI : (i : Int) < 64 := by omega
        have HR : Hid (rounds6 s (told6 (be32 l) (i + 1)) = round6 (rounds6 s (told6 (be32 l) i)) (kube i) (word6 (be32 l) i)) := by rw [told6_succ, rounds6_snoc]; exact rfl
        have HCK := Lib.hid (HK.out _ HX.out i hlt)
        have HCW := Lib.hid (HWA.out _ HX.out i hlt)
        generalize rounds6 s (told6 (be32 l) i) = r at HB HR
        generalize word6 (be32 l) i = wv1 at HCW HR
        generalize hcb : kube i = cv1 at HCK HR
        clear hcb
        obtain ⟨d0, d1, d2, d3, d4, d5, d6, d7⟩ := g8_cells HB.out
        go_wp2_with fail
        refine wp_region_quiet_lit (by kernel_rfl) (by kernel_rfl) ?_
        repeat (go_big_quiet_step (fail))
        refine wpQuiet_nil ?_
        rintro _ ⟨nq, rfl⟩
        clear d0 d1 d2 d3 d4 d5 d6 d7
        obtain ⟨V1, hV1⟩ : ∃ V1, wr.drewN nq = V1 := ⟨_, rfl⟩
        have HE1 : Hid (Ext Nope wr V1) := by rw [← hV1]; exact Ext.drewN _ _ _
        rw [hV1]
        clear hV1
        have HB1 := Lib.hid (HE1.out.heap HB.out (fun h => h))
        obtain ⟨d0, d1, d2, d3, d4, d5, d6, d7⟩ := g8_cells HB1.out
        have hck := HE1.out.cell HCK.out (fun h => h)
        have hcw := HE1.out.cell HCW.out (fun h => h)
        go_wp2_with fail
        have ua := u32_add
        have ux := u32_xor
        have un := u32_and
        refine wp_region_quiet_lit (by kernel_rfl) (by kernel_rfl) ?_
        iterate 12 (go_big_quiet_step (fail))
        go_big_quiet_step (exact Calls.quiet_of_same (flip_w (rotg_any r.e (-25) 25 rfl (by omega) (by omega) _)))
        go_big_quiet_step (exact Calls.quiet_of_same (flip_w (turned_any r.e (r.e.rotateRight 25) 6 11 6 11 rfl rfl (by omega) (by omega) (by omega) (by omega) _)))
        repeat (go_big_quiet_step (fail))
        refine wpQuiet_nil ?_
        rintro _ ⟨nq2, rfl⟩
        clear ua ux un d0 d1 d2 d3 d4 d5 d6 d7 hck hcw
        obtain ⟨V2, hV2⟩ : ∃ V2, V1.drewN nq2 = V2 := ⟨_, rfl⟩
        have HE2 : Hid (Ext Nope wr V2) := by rw [← hV2]; exact HE1.out.trans (Ext.drewN _ _ _) (fun _ _ h => h) (fun _ _ h => h)
        rw [hV2]
        clear hV2
        generalize hY : r.h + cv1 + wv1 + (r.e.rotateRight 6 ^^^ r.e.rotateRight 11 ^^^ r.e.rotateRight 25) + (r.g ^^^ r.e &&& (r.f ^^^ r.g)) = Y
        have HY : Hid (r.h + cv1 + wv1 + gS1 r.e + gch r.e r.f r.g = Y) := hY
        clear hY
        have HB2 := Lib.hid (HE2.out.heap HB.out (fun h => h))
        obtain ⟨d0, d1, d2, d3, d4, d5, d6, d7⟩ := g8_cells HB2.out
        go_wp2_with fail
        have ua := u32_add
        have uo := u32_or
        have un := u32_and
        refine wp_region_quiet_lit (by kernel_rfl) (by kernel_rfl) ?_
        iterate 2 (go_big_quiet_step (fail))
        go_big_quiet_step (exact Calls.quiet_of_same (flip_w (rotg_any r.a (-22) 22 rfl (by omega) (by omega) _)))
        go_big_quiet_step (exact Calls.quiet_of_same (flip_w (turned_any r.a (r.a.rotateRight 22) 2 13 2 13 rfl rfl (by omega) (by omega) (by omega) (by omega) _)))
        repeat (go_big_quiet_step (fail))
        refine wpQuiet_nil ?_
        rintro _ ⟨nq3, rfl⟩
        clear ua uo un d0 d1 d2 d3 d4 d5 d6 d7
        obtain ⟨V3, hV3⟩ : ∃ V3, V2.drewN nq3 = V3 := ⟨_, rfl⟩
        have HE3 : Hid (Ext Nope wr V3) := by rw [← hV3]; exact HE2.out.trans (Ext.drewN _ _ _) (fun _ _ h => h) (fun _ _ h => h)
        rw [hV3]
        clear hV3
        generalize hZ : (r.a.rotateRight 2 ^^^ r.a.rotateRight 13 ^^^ r.a.rotateRight 22) + (r.a &&& r.b ||| r.c &&& (r.a ||| r.b)) = Z
        have HZ : Hid (gS0 r.a + gmaj r.a r.b r.c = Z) := hZ
        clear hZ
        have HB3 := Lib.hid (HE3.out.heap HB.out (fun h => h))
        have hfz := block_free HB3.out
        obtain ⟨d0, d1, d2, d3, d4, d5, d6, d7⟩ := g8_cells HB3.out
        go_wp2_with fail
        refine (wpIn_wide (n := 0)).1 (wpIn_region_quiet_tail (r := none) 2 (by kernel_rfl) (by kernel_rfl) (by kernel_rfl) ?_)
        simp only [List.take_succ_cons, List.take_zero, List.drop_succ_cons, List.drop_zero]
        repeat (go_big_quiet_step (fail))
        refine wpQuiet_nil ?_
        rintro _ ⟨nq4, rfl⟩
        rw [fr_none]
        obtain ⟨V4, hV4⟩ : ∃ V4, V3.drewN nq4 = V4 := ⟨_, rfl⟩
        have HE4 : Hid (Ext Nope wr V4) := by rw [← hV4]; exact HE3.out.trans (Ext.drewN _ _ _) (fun _ _ h => h) (fun _ _ h => h)
        rw [hV4]
        clear hV4
        obtain ⟨V5, hcp, hb5, hx5⟩ := copy8 (HE4.out.heap HB.out (fun h => h))
        have HX5 : Hid (Ext (Just B5) wr V5) := HE4.out.trans hx5 (fun _ _ h => h.elim) (fun _ _ h => h)
        have HB5' := Lib.hid hb5
        clear d0 d1 d2 d3 d4 d5 d6 d7 hfz hx5
        obtain ⟨d0, d1, d2, d3, d4, d5, d6, d7⟩ := g8_cells hb5
        have hfz := block_free hb5
        clear hb5
        have ua := u32_add
        gi_wp2_with fail
        go_wp2_with fail
        have hset := block_set (block_set HB5'.out 4 (.int .u32 (wd (r.d + Y)))) 0 (.int .u32 (wd (Y + Z)))
        refine ⟨⟨i + 1, by omega, by congr 1, ?_, ((HX.out.trans HX5.out (fun _ _ h => h) (fun _ _ h => h)).setCells 4 _).setCells 0 _⟩, by simp [intOf]; omega⟩
        rw [HR.out, hset]
        unfold round6
        rw [show r.h + cv1 + wv1 + gS1 r.e + gch r.e r.f r.g = Y from HY.out, show gS0 r.a + gmaj r.a r.b r.c = Z from HZ.out]
        simp [g8cells]
      · obtain rfl : i = 64 := by omega
        have HTS : Hid (turnG s l = addG s (rounds6 s (told6 (be32 l) 64))) := rfl
        generalize rounds6 s (told6 (be32 l) 64) = r at HB HTS
        have HSA : Hid (GArr wr B5 77 8 (gws r)) := ⟨g8cells r, HB.out, rfl, fun j hj => by
          obtain rfl | rfl | rfl | rfl | rfl | rfl | rfl | rfl : j = 0 ∨ j = 1 ∨ j = 2 ∨ j = 3 ∨ j = 4 ∨ j = 5 ∨ j = 6 ∨ j = 7 := by omega
          all_goals rfl⟩
        have HXB : Hid (Ext Nope W wr) := (HXW.out.trans HX.out (E := fun k => W.heap.size ≤ k) (fun _ _ h => h) (fun j hj h => by have := HB45.out; simp only [Just] at h; omega)).mono (fun j hj h => by have : W.heap.size ≤ j := h; omega)
        have HST : Hid (StF wr b sz (gws s) rest tk) := StG.f (HXB.out.heap hst.out (fun h => h))
        have HBB : Hid (b ≠ B5) := by have := HB45.out; unfold Hid; omega
        obtain ⟨w8, hw8⟩ : ∃ w8, w8 = wr := ⟨_, rfl⟩
        subst hw8
        clear HX HB
        go_wp2_with fail
        go_loopw [81] (fun vi V => ∃ (i : Nat), i ≤ 8 ∧ vi = .int .i64 i ∧ StF V b sz (fun j => if j < i then gws s j + gws r j else gws s j) rest tk ∧ Ext (Just b) w8 V) (fun i _ => 8 - (intOf i).toNat)
        case atStart => exact ⟨0, by omega, rfl, by simpa using HST.out, Ext.refl _ _⟩
        case round =>
          obtain ⟨i, hi, rfl, hs, hx⟩ := hrel
          have HS := Lib.hid hs
          have HX := Lib.hid hx
          clear hs hx
          by_cases hlt2 : i < 8
          · have hlt2I : (i : Int) < 8 := by omega
            have ch := HS.out.cell hlt2
            have hfr := HS.out.free
            rw [if_neg (Nat.lt_irrefl i)] at ch
            have cs := (HSA.out.ext HX.out (fun h => HBB.out h.symm)).cell hlt2
            have ua := u32_add
            go_wp2_with fail
            refine (wpIn_wide (n := 0)).1 (wpIn_region_quiet_tail (r := none) 13 (by kernel_rfl) (by kernel_rfl) (by kernel_rfl) ?_)
            simp only [List.take_succ_cons, List.take_zero, List.drop_succ_cons, List.drop_zero]
            repeat (go_big_quiet_step (fail))
            refine wpQuiet_nil ?_
            rintro _ ⟨nq, rfl⟩
            rw [fr_none]
            clear ua
            gi_wp2_with fail
            go_wp2_with fail
            have HST2 := HS.out.set hlt2 (gws s i + gws r i)
            exact ⟨⟨i + 1, by omega, by congr 1, StF.same HST2 (fun j hj => by
              by_cases e : j = i
              · subst e; rw [updg_at, if_pos (by omega)]
              · rw [updg_ne _ _ e]
                by_cases e2 : j < i
                · rw [if_pos e2, if_pos (by omega)]
                · rw [if_neg e2, if_neg (by omega)]), (HX.out.trans (Ext.drewN Nope wr nq) (E := Just b) (fun _ _ h => h) (fun _ _ h => h.elim)).setCells _ _⟩, by simp [intOf]; omega⟩
          · obtain rfl : i = 8 := by omega
            go_wp2_with fail
            go_end0
            refine ⟨rfl, ?_, HXB.out.trans HX.out (fun _ _ h => h.elim) (fun _ _ h => h)⟩
            exact HS.out.g (fun j hj => by rw [if_pos hj, HTS.out, gws_add _ _ _ hj])
end Go.Proofs.YtjfcldjepgijeaaDoor
