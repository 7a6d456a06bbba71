/- Rows whose statement bears a bound on what comes in ('upto'); slices of slices of bytes as arguments. -/
import Derived.Test.YtcjcnpjedmpghaaDoorRow
import Derived.Test.YtcjcnpjedmpghaaDoorRows
import Derived.Deep.Slices
import Derived.Deep.DeepHandedRow
import Derived.ChangeSlices
namespace Go.Proofs.YtcjcnpjedmpghaaDoor
open Go.ChangeShapes Go.WideShapes Go.ChangeAt Go.RowKit

/-- what a slice of bytes holds, wherever it lies -/
structure HoldsW (W : World) (a : Option Addr) (cap : Nat) (l : List (BitVec 8)) : Prop where
  len : l.length ≤ cap
  max : cap ≤ maxLen
  none : a = Option.none → l = []
  news : ∀ ad, a = some ad → ∀ (j : Nat) u, (bv l)[j]? = some u → W.cell? (ad.add j) = some u
theorem HoldsW.ext {W W' : World} {a : Option Addr} {cap : Nat} {l : List (BitVec 8)} (h : HoldsW W a cap l) (he : Ext Nope W W') : HoldsW W' a cap l :=
  ⟨h.len, h.max, h.none, fun ad e j u hu => he.cell (h.news ad e j u hu) (fun h => h)⟩
/-- a slice of slices of bytes -/
structure HoldsL (W : World) (a : Option Addr) (n cap : Nat) (L : List (List (BitVec 8))) : Prop where
  len : L.length = n
  fits : n ≤ cap
  max : cap ≤ maxLen
  lies : n = 0 ∨ ∃ b off, a = some ⟨b, off, none⟩ ∧ ∀ i li, L[i]? = some li → ∃ ai ci, W.cell? ⟨b, off + i, none⟩ = some (.slice ai li.length ci) ∧ HoldsW W ai ci li

theorem bulk_one {H : Type} (d : DataW H) : 1 ≤ Rows.uptoBulk d := by
  cases d with
  | lit l => cases l <;> simp [Rows.uptoBulk]
  | nil => simp [Rows.uptoBulk]
  | ptr d => simp [Rows.uptoBulk]
  | slice elems spare => simp [Rows.uptoBulk]
  | agg parts => simp [Rows.uptoBulk]
  | iface t d => simp [Rows.uptoBulk]
  | map entries => simp [Rows.uptoBulk]
  | held h => simp [Rows.uptoBulk]
theorem bulk_append {H : Type} (l r : List (DataW H)) : Rows.uptoBulkAll (l ++ r) = Rows.uptoBulkAll l + Rows.uptoBulkAll r := by
  induction l with
  | nil => simp [Rows.uptoBulkAll]
  | cons x l ih => simp only [List.cons_append, Rows.uptoBulkAll, ih]; omega
theorem bulk_length {H : Type} (l : List (DataW H)) : l.length ≤ Rows.uptoBulkAll l := by
  induction l with
  | nil => simp [Rows.uptoBulkAll]
  | cons x r ih => have := bulk_one x; simp only [Rows.uptoBulkAll, List.length_cons]; omega
theorem bulk_flat {H : Type} (D : Nat → DataW H) (F : Nat → List (BitVec 8)) (n : Nat) (h : ∀ i, i < n → (F i).length ≤ Rows.uptoBulk (D i)) :
    ((List.range n).map F).flatten.length ≤ Rows.uptoBulkAll ((List.range n).map D) := by
  induction n with
  | zero => simp
  | succ n ih =>
    have h1 := ih (fun i hi => h i (by omega))
    have h2 := h n (by omega)
    rw [List.range_succ, List.map_append, List.map_append, bulk_append, List.flatten_append, List.length_append]
    simp only [List.map_cons, List.map_nil, List.flatten_cons, List.flatten_nil, List.append_nil, Rows.uptoBulkAll]
    omega

section
variable {H : Type} {enc : TypeId × Value → H} {P : Program}
/-- a slice of bytes, read -/
theorem read_bytes {te tb : TypeId} {W : World} {fuel : Nat} {v : Value} {x : DataW H × List MemPlace} (ht : P.underlying te = some (.slice tb)) (hb : P.underlying tb = some (.int .u8)) (hc : P.cellsOf tb = 1)
    (h : DataW.trod enc P W 0 (fun _ => true) true fuel te [v] = some x) : ∃ a cap l, v = .slice a (List.length l) cap ∧ HoldsW W a cap l ∧ l.length ≤ Rows.uptoBulk x.1 := by
  rcases open_ints ht hb hc h with ⟨hcs, _⟩ | ⟨ad, len, cap, zs, hcs, _, hl, hm, hz, hx, hcell, hw⟩
  · simp at hcs
    exact ⟨none, 0, [], hcs, ⟨by simp, by simp [maxLen], fun _ => rfl, fun ad e => by cases e⟩, by simp⟩
  · simp at hcs
    simp only [if_true] at hz
    have hlen : ((zs.take len).map fun z => BitVec.ofInt 8 z).length = len := by simp; omega
    refine ⟨some ad, cap, (zs.take len).map fun z => BitVec.ofInt 8 z, by rw [hlen]; exact hcs, ⟨by rw [hlen]; exact hl, hm, fun e => (by cases e), fun ad' e j u hu => ?_⟩, ?_⟩
    · cases e
      rw [bv_get, List.getElem?_map] at hu
      obtain ⟨c, hc1, rfl⟩ := Option.map_eq_some_iff.1 hu
      obtain ⟨z, hz1, rfl⟩ := Option.map_eq_some_iff.1 hc1
      have hj := (List.getElem?_eq_some_iff.1 hz1).1
      simp at hj
      rw [List.getElem?_take_of_lt (by omega)] at hz1
      rw [hcell j (by omega)]
      have hzz : zs.getD j 0 = z := by simp [List.getD, hz1]
      have hwz := hw z (List.mem_of_getElem? hz1)
      have e1 : IntKind.u8.min = 0 := rfl
      have e2 : IntKind.u8.max = 255 := rfl
      have hb2 : 0 ≤ z ∧ z ≤ 255 := by simpa [Lit.wf, e1, e2] using hwz
      rw [hzz, wd_ofInt8 hb2.1 (by omega)]
    · rw [hx, hlen]
      have h1 := bulk_length (H := H) (lits .u8 (zs.take len))
      have h2 : (lits (H := H) .u8 (zs.take len)).length = len := by simp [lits]; omega
      simp only [Rows.uptoBulk]
      omega
theorem open_lists {tt te tb : TypeId} {r : Reach} {W : World} {b0 : Nat} {v : Value} {d : DataW H} {ps : List MemPlace} (htt : P.underlying tt = some (.slice te)) (ht : P.underlying te = some (.slice tb)) (hb : P.underlying tb = some (.int .u8))
    (hce : P.cellsOf te = 1) (hc : P.cellsOf tb = 1) (hval : Value.okWide P W r b0 tt v) (h : DataW.Trod enc P W 0 (fun _ => true) true tt v d ps) :
    ∃ a n cap L, v = .slice a n cap ∧ HoldsL W a n cap L ∧ L.flatten.length ≤ Rows.uptoBulk d := by
  obtain ⟨a, n, cap, rfl⟩ := okWide_slice htt hval
  obtain ⟨fuel, hf⟩ := h
  rcases Deep.open_slice1 htt hce hf with ⟨hcs, _⟩ | ⟨ad, len, cap', m, k, V, D, Pl, hcs, _, hl, hm, hmm, hx, hel⟩
  · simp [Value.cells] at hcs
    obtain ⟨rfl, rfl, rfl⟩ := hcs
    exact ⟨_, _, _, [], rfl, ⟨rfl, Nat.le_refl _, Nat.zero_le _, .inl rfl⟩, by simp⟩
  · simp [Value.cells] at hcs
    obtain ⟨rfl, rfl, rfl⟩ := hcs
    simp only [if_true] at hmm
    have hspot : ad.spot = none := by
      simp only [Value.okWide, htt, Cell.okWide, Cell.ok] at hval
      exact hval.2.2.2.1
    obtain ⟨b, off, spot⟩ := ad
    simp only at hspot
    subst hspot
    obtain ⟨F, hF⟩ := Deep.choose_lt (α := List (BitVec 8)) (n := n) (p := fun i li => (∃ ai ci, V i = .slice ai li.length ci ∧ HoldsW W ai ci li) ∧ li.length ≤ Rows.uptoBulk (D i)) (fun i hi => by
      obtain ⟨_, h2⟩ := hel i (by omega)
      obtain ⟨ai, ci, li, e1, e2, e3⟩ := read_bytes ht hb hc h2
      exact ⟨li, ⟨ai, ci, e1, e2⟩, e3⟩)
    refine ⟨_, _, _, (List.range n).map F, rfl, ⟨by simp, hl, hm, .inr ⟨b, off, rfl, fun i li hi => ?_⟩⟩, ?_⟩
    · rw [List.getElem?_map] at hi
      obtain ⟨i', hi', rfl⟩ := Option.map_eq_some_iff.1 hi
      have hin := (List.getElem?_eq_some_iff.1 hi').1
      simp at hin
      rw [List.getElem?_range hin] at hi'
      obtain rfl := Option.some.inj hi'
      obtain ⟨⟨ai, ci, e1, e2⟩, _⟩ := hF i hin
      have h1 := (hel i (by omega)).1
      rw [addr_add] at h1
      exact ⟨ai, ci, by rw [h1, e1], e2⟩
    · have h1 := bulk_flat D F n (fun i hi => (hF i hi).2)
      have h2 : d = .slice ((List.range n).map D) ((List.range (m - n)).map fun j => D (n + j)) := by
        have := congrArg Prod.fst hx; exact this
      rw [h2]
      simp only [Rows.uptoBulk]
      omega

theorem upto_witness {C : Checked} {os : Os} {f : FuncId} {fn : Func} {s : OpenSpec} {conds : List PathCond} {apart : Bool} {laid : List (String × DataW Unit)} (w0 : World) (args : Array Value) (hos : w0.os = os)
    (hsh : (w0.forCall (fun _ _ => 0) ⟨#[], args, []⟩).Shaped C.prog)
    (hok : Input.okWideB C.prog (w0.forCall (fun _ _ => 0) ⟨#[], args, []⟩) f ⟨#[], args, []⟩ = true)
    (hpre : s.preRow enc C.prog fn conds apart laid (w0.forCall (fun _ _ => 0) ⟨#[], args, []⟩).memory args) :
    ∃ (w : World) (tape : Tape) (i : Input), w.os = os ∧ (w.forCall tape i).Shaped C.prog ∧ i.vars = [] ∧ Input.okWide C.prog (w.forCall tape i) .any w.heap.size f i ∧
      s.preRow enc C.prog fn conds apart laid (w.forCall tape i).memory i.args ∧ ({} : Assume).holds C.prog (lone (Frame.enter C.prog f i.args .normal) [] (w.forCall tape i)) :=
  ⟨w0, fun _ _ => 0, ⟨#[], args, []⟩, hos, hsh, (Input.okWide_of_okWideB (base := 0) hok).1, (Input.okWide_of_okWideB hok).2, hpre, by
    simp only [Assume.holds]
    exact ⟨by simp, by simp, fun _ => Modest.zero, by simp, by simp⟩⟩

theorem upto_lifted {C : Checked} {os : Os} {f : FuncId} {fn : Func} {s : ChangeSpec} {tb : TypeId} {laid : List (String × DataW Unit)} {F : Stop.Interp}
    (own : ownKnob C.prog.godebug = none) (started : os.Started) (noInit : C.prog.inits.idxOf? f = none) (hf : C.prog.funcs[f]? = some fn)
    (witness : ∃ (w : World) (tape : Tape) (i : Input), w.os = os ∧ (w.forCall tape i).Shaped C.prog ∧ i.vars = [] ∧ Input.okWide C.prog (w.forCall tape i) .any w.heap.size f i ∧
      (Rows.OpenSpec.upto s).preRow enc C.prog fn [] false laid (w.forCall tape i).memory i.args ∧ ({} : Assume).holds C.prog (lone (Frame.enter C.prog f i.args .normal) [] (w.forCall tape i)))
    (hl : laidOutB C.prog = true) (hr : (fn.params.toList.all fun t => C.prog.readableRec t && decide (t < C.prog.types.size)) = true) (hv : s.vars = []) (hres : fn.resultTypes = #[tb]) (htb : C.prog.underlying tb = some .bool)
    (hfn : ∀ ds : List (DataW H), ds.length = fn.params.toList.length → s.fn H (ds ++ []) = { results := [.lit (.bool true)], args := ds })
    (hlaw : ∀ (W : World) (base : Nat) (args : Array Value) (ds : List (DataW H)) (ps : List MemPlace), (∀ (j : Nat) t v, fn.params[j]? = some t → args[j]? = some v → Value.okWide C.prog W .any base t v) →
      DataW.TrodAll enc C.prog W 0 (fun _ => true) true fn.params.toList args.toList ds ps → Rows.uptoBulkAll ds ≤ 1048576 → laidMetH C.prog laid W → Calls C.prog f args W (TrueOf W)) :
    ReturnsInHanded {} C os f .any ((Rows.OpenSpec.upto s).preRow enc C.prog fn [] false laid) (((Rows.OpenSpec.upto s).at F).post enc C.prog fn false true false false) := by
  refine returnsInHanded_of_row (C := C) (s := Rows.OpenSpec.upto s) own started noInit hf witness ?_
  intro W base args ds gs before hval hW _ hcond _ hL _ _
  have hW' := hW
  obtain ⟨p, q, hA, hV, rfl, _, _⟩ := hW
  have hv' : (Rows.OpenSpec.upto s).vars = [] := hv
  rw [hv'] at hV
  obtain ⟨rfl, rfl⟩ := trodVars_none hV
  rw [List.append_nil] at hW'
  have hk := hcond _ rfl
  rw [List.append_nil] at hk
  have hsm : Rows.uptoBulkAll ds ≤ 1048576 := of_decide_eq_true hk
  refine (hlaw W base args ds p hval hA hsm hL).mono fun e W' ⟨he, hx⟩ => ⟨_, he, ?_⟩
  exact law_post (s := s) hl (fun t ht => by simpa using List.all_eq_true.1 hr t ht) hv hres htb (hfn ds (trodAll_length hA).2) hW' hx
end
end Go.Proofs.YtcjcnpjedmpghaaDoor
