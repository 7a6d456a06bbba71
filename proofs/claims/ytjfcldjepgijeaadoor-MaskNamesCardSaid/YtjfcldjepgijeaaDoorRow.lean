/- Rows of laws that read alone. -/
import Derived.Test.YtjfcldjepgijeaaDoorMem
import Derived.ProofKit
import Derived.OpenShut
import Derived.LaidMore
import Derived.Lay
import Derived.Carry
import Derived.SevenTiedAt
import Derived.Stop.Joined
import Derived.Lib.LaidU8
import Derived.ChangeCalls
namespace Go.Proofs.YtjfcldjepgijeaaDoor
open Go.ChangeShapes Go.WideShapes Go.ChangeAt Go.RowKit

def TrueOf (W : World) (e : Ending) (W' : World) : Prop := e = .returned (.bool true) ∧ Ext Nope W W'

theorem Ext.kept {W W' : World} (h : Ext Nope W W') (may : MemPlace → Prop) : W.keptBut W' may := by
  refine ⟨h.os, h.output, fun i hi => ?_⟩
  rw [h.block i hi (fun e => e)]
  cases h1 : W.heap[i]? with
  | none => rfl
  | some o => cases o <;> simp
theorem Ext.old {W W' : World} (h : Ext Nope W W') : Below W.heap.size W W' :=
  Ext.below (h.mono (E := fun k => W.heap.size ≤ k) (fun _ _ h => h.elim)) (Nat.le_refl _)

section
variable {H : Type} {enc : TypeId × Value → H} {P : Program}
theorem trodAll_ext {W W' : World} (hx : Ext Nope W W') (hl : laidOutB P = true) : ∀ {ts : List TypeId} {vs : List Value} {ds : List (DataW H)} {ps : List MemPlace}, (∀ t ∈ ts, P.readableRec t = true ∧ t < P.types.size) →
    DataW.TrodAll enc P W 0 (fun _ => true) true ts vs ds ps → (∀ p ∈ ps, p.block < W.heap.size) → DataW.TrodAll enc P W' 0 (fun b => decide (b < W.heap.size)) true ts vs ds ps := by
  intro ts
  induction ts with
  | nil =>
    intro vs ds ps _ h _
    obtain ⟨rfl, rfl, rfl⟩ := trodAll_nil h
    exact trodAll_mk0
  | cons t ts ih =>
    intro vs ds ps hr h hlt
    obtain ⟨v, vs', d, ds', p, q, rfl, rfl, rfl, h1, h2⟩ := trodAll_cons h
    refine trodAll_cons_mk ?_ (ih (fun t ht => hr t (List.mem_cons_of_mem _ ht)) h2 (fun p hp => hlt p (List.mem_append_right _ hp)))
    exact Below.trod hl (hr t (List.mem_cons_self ..)).1 (hr t (List.mem_cons_self ..)).2 h1 hx.old (fun p hp => hlt p (List.mem_append_left _ hp))

theorem law_post {f : Func} {s : ChangeSpec} {apart : Bool} {W W' : World} {args : Array Value} {ds : List (DataW H)} {before : List MemPlace} {tb : TypeId} (hl : laidOutB P = true)
    (hr : ∀ t ∈ f.params.toList, P.readableRec t = true ∧ t < P.types.size) (hv : s.vars = []) (hres : f.resultTypes = #[tb]) (htb : P.underlying tb = some .bool)
    (hfn : s.fn H (ds ++ []) = { results := [.lit (.bool true)], args := ds }) (hW : DataW.Whole enc P f.params.toList s.vars apart W args.toList ds [] before) (hx : Ext Nope W W') :
    s.post enc P f apart true false false W args (.bool true) W' := by
  have hW' := hW
  obtain ⟨p, q, hA, hV, rfl, hfz, hap⟩ := hW
  have hlt := hW'.lt
  rw [hv] at hV
  obtain ⟨-, rfl⟩ := trodVars_none hV
  rw [List.append_nil] at hW' hlt
  refine ⟨ds, [], p, [], p, [], hW', ?_, ?_, ?_, hx.kept _, fun h => by cases h⟩
  · rw [hfn, hres]; exact trodAll_mk1 (shut_bool htb _)
  · rw [hfn]; exact trodAll_ext hx hl hr hA hlt
  · rw [hfn, hv]; rfl

theorem law_lifted {C : Checked} {os : Os} {f : FuncId} {fn : Func} {s : ChangeSpec} {tb : TypeId} {laid : List (String × DataW Unit)} {conds : List PathCond} {apart : Bool}
    (own : ownKnob C.prog.godebug = none) (started : os.Started) (noInit : C.prog.inits.idxOf? f = none) (hf : C.prog.funcs[f]? = some fn)
    (witness : ∃ (w : World) (tape : Tape) (i : Input), w.os = os ∧ (w.forCall tape i).Shaped C.prog ∧ i.vars = [] ∧ Input.okWide C.prog (w.forCall tape i) .any w.heap.size f i ∧
      ((s.pre enc C.prog fn conds apart (w.forCall tape i).memory i.args ∧ laidMetH C.prog laid (w.forCall tape i).memory) ∧ sizedMet enc C.prog fn (OpenSpec.ofChange s) apart (w.forCall tape i).memory i.args) ∧ ({} : Assume).holds C.prog (lone (Frame.enter C.prog f i.args .normal) [] (w.forCall tape i)))
    (hl : laidOutB C.prog = true) (hr : (fn.params.toList.all fun t => C.prog.readableRec t && decide (t < C.prog.types.size)) = true) (hv : s.vars = []) (hres : fn.resultTypes = #[tb]) (htb : C.prog.underlying tb = some .bool)
    (hfn : ∀ ds : List (DataW H), ds.length = fn.params.toList.length → s.fn H (ds ++ []) = { results := [.lit (.bool true)], args := ds })
    (hlaw : ∀ (W : World) (base : Nat) (args : Array Value) (ds : List (DataW H)) (ps : List MemPlace), (∀ (j : Nat) t v, fn.params[j]? = some t → args[j]? = some v → Value.okWide C.prog W .any base t v) →
      DataW.TrodAll enc C.prog W 0 (fun _ => true) true fn.params.toList args.toList ds ps → laidMetH C.prog laid W → Calls C.prog f args W (TrueOf W)) :
    ReturnsInHanded {} C os f .any (fun w args => (s.pre enc C.prog fn conds apart w args ∧ laidMetH C.prog laid w) ∧ sizedMet enc C.prog fn (OpenSpec.ofChange s) apart w args) (s.post enc C.prog fn apart true false false) := by
  refine returnsInHanded_of_change_and (C := C) (X := fun w _ => laidMetH C.prog laid w) (fun _ _ _ hh h => h.of_heap hh) own started noInit hf witness ?_
  intro W base args ds gs before hval hW _ _ hL _
  have hW' := hW
  obtain ⟨p, q, hA, hV, rfl, _, _⟩ := hW
  rw [hv] at hV
  obtain ⟨rfl, rfl⟩ := trodVars_none hV
  rw [List.append_nil] at hW'
  refine (hlaw W base args ds p hval hA hL).mono fun e W' ⟨he, hx⟩ => ⟨_, he, law_post hl (fun t ht => by simpa using List.all_eq_true.1 hr t ht) hv hres htb (hfn ds (trodAll_length hA).2) hW' hx⟩

/-- an argument that is a slice of bytes -/
theorem open_bytes {te tb : TypeId} {r : Reach} {W : World} {b0 : Nat} {v : Value} {d : DataW H} {ps : List MemPlace} (ht : P.underlying te = some (.slice tb)) (hb : P.underlying tb = some (.int .u8)) (hc : P.cellsOf tb = 1)
    (hval : Value.okWide P W r b0 te v) (h : DataW.Trod enc P W 0 (fun _ => true) true te v d ps) :
    ∃ a n cap l, v = .slice a n cap ∧ Holds (fun c => c < W.heap.size) W a cap l ∧ l.length = n := by
  obtain ⟨a, n, cap, rfl⟩ := okWide_slice ht hval
  obtain ⟨fuel, hf⟩ := h
  rcases open_ints ht hb hc hf with ⟨hcs, _⟩ | ⟨ad, len, cap', zs, hcs, _, hl, hm, hz, _, hcell, hw⟩
  · simp [Value.cells] at hcs
    obtain ⟨rfl, rfl, rfl⟩ := hcs
    exact ⟨_, _, _, [], rfl, Holds.nil _ _, rfl⟩
  · simp [Value.cells] at hcs
    obtain ⟨rfl, rfl, rfl⟩ := hcs
    simp only [if_true] at hz
    have hspot : ad.spot = none := by
      simp only [Value.okWide, ht, Cell.okWide, Cell.ok] at hval
      exact hval.2.2.2.1
    obtain ⟨b, off, spot⟩ := ad
    simp only at hspot
    subst hspot
    refine ⟨_, _, _, (zs.take n).map fun z => BitVec.ofInt 8 z, rfl, ⟨by simp; omega, hm, .inr ⟨b, off, rfl, fun hne => ?_, fun i c hi => ?_⟩⟩, by simp; omega⟩
    · have h0 : 0 < zs.length := by
        cases zs with
        | nil => simp at hne
        | cons _ _ => simp
      have := hcell 0 h0
      have := World.block_lt_of_cell? _ _ this
      simpa [Addr.add] using this
    · rw [List.getElem?_map] at hi
      obtain ⟨z, hz1, rfl⟩ := Option.map_eq_some_iff.1 hi
      have hi1 := (List.getElem?_eq_some_iff.1 hz1).1
      simp at hi1
      rw [List.getElem?_take_of_lt (by omega)] at hz1
      have h1 := hcell i (by omega)
      rw [addr_add] at h1
      rw [h1]
      have hzz : zs.getD i 0 = z := by simp [List.getD, hz1]
      have hwz := hw z (List.mem_of_getElem? hz1)
      have e1 : IntKind.u8.min = 0 := rfl
      have e2 : IntKind.u8.max = 255 := rfl
      have hb2 : 0 ≤ z ∧ z ≤ 255 := by simpa [Lit.wf, e1, e2] using hwz
      rw [hzz, wd_ofInt8 hb2.1 (by omega)]
end

/-- a package variable that is a row of numbers -/
theorem laid_row {P : Program} {W : World} {n : String} {g : Nat} {t e : TypeId} {k : IntKind} {m : Nat} {zs : List Int} (hr : Lib.VarReads P W n (.agg (zs.map fun z => .lit (.int k z)))) (hg : P.globalNamed n = some g)
    (ht : (P.globals[g]?).map (·.type) = some t) (hu : P.underlying t = some (.array m e)) (he : P.underlying e = some (.int k)) (hc : P.cellsOf e = 1) (hm : zs.length = m) (r : Nat) (z : Int) (hz : zs[r]? = some z) :
    W.cell? ⟨g, r, none⟩ = some (.int k z) := by
  obtain ⟨g', t', cs, fuel, p, hg', ht', hv, hd⟩ := hr
  obtain rfl := Option.some.inj (hg.symm.trans hg')
  obtain rfl := Option.some.inj (ht.symm.trans ht')
  obtain ⟨xs, m', _, ex, _, hl, hel⟩ := DataW.trod_array hu hd
  have hrm : r < m := by rw [← hm]; exact (List.getElem?_eq_some_iff.1 hz).1
  have hE := hel r hrm
  rw [hc, Nat.mul_one, List.getElem?_eq_getElem (by omega)] at hE
  obtain ⟨z', e1, e2, _⟩ := DataW.trod_int he hE
  have e3 : (xs.map (·.1)) = zs.map fun z => .lit (.int k z) := (DataW.agg.inj (Prod.mk.inj ex).1).symm
  have e4 : (xs.map (·.1))[r]? = (zs.map fun z => (DataW.lit (.int k z) : DataW Unit))[r]? := by rw [e3]
  rw [List.getElem?_map, List.getElem?_map, List.getElem?_eq_getElem (by omega : r < xs.length), hz, e2] at e4
  have hzz : z' = z := by simpa using e4
  subst hzz
  rw [World.var?_cell hg hv r]
  have h0 : ((cs.toList.drop r).take 1)[0]? = some (.int k z') := by rw [e1]; rfl
  simpa using h0

/-- .. a row of rows -/
theorem laid_rows {P : Program} {W : World} {n : String} {g : Nat} {t t2 e : TypeId} {k : IntKind} {m m2 : Nat} {zss : List (List Int)} (hr : Lib.VarReads P W n (.agg (zss.map fun zs => .agg (zs.map fun z => .lit (.int k z))))) (hg : P.globalNamed n = some g)
    (ht : (P.globals[g]?).map (·.type) = some t) (hu : P.underlying t = some (.array m t2)) (hu2 : P.underlying t2 = some (.array m2 e)) (he : P.underlying e = some (.int k)) (hc : P.cellsOf e = 1) (hc2 : P.cellsOf t2 = m2)
    (hm : zss.length = m) (hm2 : ∀ zs ∈ zss, zs.length = m2) (q r : Nat) (zs : List Int) (z : Int) (hzs : zss[q]? = some zs) (hz : zs[r]? = some z) :
    W.cell? ⟨g, q * m2 + r, none⟩ = some (.int k z) := by
  obtain ⟨g', t', cs, fuel, p, hg', ht', hv, hd⟩ := hr
  obtain rfl := Option.some.inj (hg.symm.trans hg')
  obtain rfl := Option.some.inj (ht.symm.trans ht')
  obtain ⟨xs, m', _, ex, _, hl, hel⟩ := DataW.trod_array hu hd
  have hqm : q < m := by rw [← hm]; exact (List.getElem?_eq_some_iff.1 hzs).1
  have hrm : r < m2 := by rw [← hm2 zs (List.mem_of_getElem? hzs)]; exact (List.getElem?_eq_some_iff.1 hz).1
  have hE := hel q hqm
  rw [hc2, List.getElem?_eq_getElem (by omega)] at hE
  obtain ⟨ys, m'', _, ey, _, hl2, hel2⟩ := DataW.trod_array hu2 hE
  have e3 : (xs.map (·.1)) = zss.map fun zs => .agg (zs.map fun z => .lit (.int k z)) := (DataW.agg.inj (Prod.mk.inj ex).1).symm
  have e4 : (xs.map (·.1))[q]? = (zss.map fun zs => (DataW.agg (zs.map fun z => .lit (.int k z)) : DataW Unit))[q]? := by rw [e3]
  rw [List.getElem?_map, List.getElem?_map, List.getElem?_eq_getElem (by omega : q < xs.length), hzs] at e4
  simp only [Option.map_some, Option.some.injEq] at e4
  rw [ey] at e4
  have e5 : (ys.map (·.1)) = zs.map fun z => .lit (.int k z) := DataW.agg.inj e4
  have hE2 := hel2 r hrm
  rw [hc, Nat.mul_one, List.getElem?_eq_getElem (by omega)] at hE2
  obtain ⟨z', e1, e2, _⟩ := DataW.trod_int he hE2
  have e6 : (ys.map (·.1))[r]? = (zs.map fun z => (DataW.lit (.int k z) : DataW Unit))[r]? := by rw [e5]
  rw [List.getElem?_map, List.getElem?_map, List.getElem?_eq_getElem (by omega : r < ys.length), hz, e2] at e6
  have hzz : z' = z := by simpa using e6
  subst hzz
  rw [World.var?_cell hg hv]
  have h0 : ((((cs.toList.drop (q * m2)).take m2).drop r).take 1)[0]? = some (.int k z') := by rw [e1]; rfl
  rw [List.getElem?_take_of_lt (by omega), List.getElem?_drop, List.getElem?_take_of_lt (by omega), List.getElem?_drop] at h0
  simpa using h0
end Go.Proofs.YtjfcldjepgijeaaDoor
