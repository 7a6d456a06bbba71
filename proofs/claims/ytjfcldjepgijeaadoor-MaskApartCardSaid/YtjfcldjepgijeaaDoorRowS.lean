/- Rows of laws that read alone, with what the arguments weigh. -/
import Derived.Test.YtjfcldjepgijeaaDoorRow
import Derived.SizedLaws
namespace Go.Proofs.YtjfcldjepgijeaaDoor
open Go.ChangeShapes Go.WideShapes Go.ChangeAt Go.RowKit

section
variable {H : Type} {enc : TypeId × Value → H} {P : Program}
theorem law_sized {C : Checked} {os : Os} {f : FuncId} {fn : Func} {s : ChangeSpec} {tb : TypeId} {laid : List (String × DataW Unit)} {conds : List PathCond} {apart : Bool}
    (own : ownKnob C.prog.godebug = none) (started : os.Started) (noInit : C.prog.inits.idxOf? f = none) (hf : C.prog.funcs[f]? = some fn)
    (witness : ∃ (w : World) (tape : Tape) (i : Input), w.os = os ∧ (w.forCall tape i).Shaped C.prog ∧ i.vars = [] ∧ Input.okWide C.prog (w.forCall tape i) .any w.heap.size f i ∧
      ((s.pre enc C.prog fn conds apart (w.forCall tape i).memory i.args ∧ laidMetH C.prog laid (w.forCall tape i).memory) ∧ sizedMet enc C.prog fn (OpenSpec.ofChange s) apart (w.forCall tape i).memory i.args) ∧ ({} : Assume).holds C.prog (lone (Frame.enter C.prog f i.args .normal) [] (w.forCall tape i)))
    (hl : laidOutB C.prog = true) (hr : (fn.params.toList.all fun t => C.prog.readableRec t && decide (t < C.prog.types.size)) = true) (hv : s.vars = []) (hres : fn.resultTypes = #[tb]) (htb : C.prog.underlying tb = some .bool)
    (hfn : ∀ ds : List (DataW H), ds.length = fn.params.toList.length → s.fn H (ds ++ []) = { results := [.lit (.bool true)], args := ds })
    (hlaw : ∀ (W : World) (base : Nat) (args : Array Value) (ds : List (DataW H)) (ps : List MemPlace), (∀ (j : Nat) t v, fn.params[j]? = some t → args[j]? = some v → Value.okWide C.prog W .any base t v) →
      DataW.TrodAll enc C.prog W 0 (fun _ => true) true fn.params.toList args.toList ds ps → laidMetH C.prog laid W → (∃ T : List TypeId, (DataW.weightsEach C.prog (fn.params.toList ++ T) (ds ++ [])).all (· ≤ reachBytes) = true) → Calls C.prog f args W (TrueOf W)) :
    ReturnsInHanded {} C os f .any (fun w args => (s.pre enc C.prog fn conds apart w args ∧ laidMetH C.prog laid w) ∧ sizedMet enc C.prog fn (OpenSpec.ofChange s) apart w args) (s.post enc C.prog fn apart true false false) := by
  refine returnsInHanded_of_change_and (C := C) (X := fun w _ => laidMetH C.prog laid w) (fun _ _ _ hh h => h.of_heap hh) own started noInit hf witness ?_
  intro W base args ds gs before hval hW _ hsz hL _
  have hW' := hW
  obtain ⟨p, q, hA, hV, rfl, _, _⟩ := hW
  rw [hv] at hV
  obtain ⟨rfl, rfl⟩ := trodVars_none hV
  rw [List.append_nil] at hW'
  refine (hlaw W base args ds p hval hA hL ⟨_, hsz⟩).mono fun e W' ⟨he, hx⟩ => ⟨_, he, law_post hl (fun t ht => by simpa using List.all_eq_true.1 hr t ht) hv hres htb (hfn ds (trodAll_length hA).2) hW' hx⟩
/-- how long a slice of bytes may be -/
theorem bytes_reach {te tb : TypeId} {W : World} {a : Option Addr} {n cap : Nat} {d : DataW H} {ps : List MemPlace} (ht : P.underlying te = some (.slice tb)) (hb : P.underlying tb = some (.int .u8)) (hc : P.cellsOf tb = 1) (hy : P.bytesOf tb = 1)
    (h : DataW.Trod enc P W 0 (fun _ => true) true te (.slice a n cap) d ps) {ts : List TypeId} {ds G : List (DataW H)} (hsz : ∃ T : List TypeId, (DataW.weightsEach P (ts ++ T) (ds ++ G)).all (· ≤ reachBytes) = true) (j : Nat) (hts : ∀ T : List TypeId, (ts ++ T)[j]? = some te) (hds : (ds ++ G)[j]? = some d) : n ≤ 140737488351232 := by
  obtain ⟨T, hsz⟩ := hsz
  obtain ⟨fuel, hf⟩ := h
  rcases open_ints ht hb hc hf with ⟨hcs, _⟩ | ⟨ad, len, cap', zs, hcs, _, hl, hm, hz, hx, _, _⟩
  · simp [Value.cells] at hcs
    omega
  · simp [Value.cells] at hcs
    obtain ⟨rfl, rfl, rfl⟩ := hcs
    simp only [if_true] at hz
    simp only [Prod.mk.injEq] at hx
    obtain ⟨hx1, _⟩ := hx
    subst hx1
    have h1 := sized_slice hsz (hts T) hds ht
    rw [hy, Nat.mul_one] at h1
    have h2 : (lits (H := H) .u8 (zs.take n)).length = n := by simp [lits]; omega
    have e : reachBytes = 140737488351232 := rfl
    omega
end
end Go.Proofs.YtjfcldjepgijeaaDoor
