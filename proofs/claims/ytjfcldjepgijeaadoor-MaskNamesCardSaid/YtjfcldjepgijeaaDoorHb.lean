/- The hashes' sizes and faces. -/
import Derived.Test.YtjfcldjepgijeaaDoorIt
import Derived.Test.YtjfcldjepgijeaaDoorHa
import Derived.Handy
import Derived.Laws.EntriesVeiled
import Derived.Laws.ResultCell
import Derived.Laws.Rows
namespace Go.Proofs.YtjfcldjepgijeaaDoor
open Go.RowKit Go.Shelf

theorem results_row_tmp {P : Program} {fn : Func} {p u : Tmp} {ty : TypeId} (h : fn.results = #[.cell p ty, .tmp u]) (tmps : Array Value) (w : World) (g : Nat) (t : TypeId) (cs : Array Value) (fr : Nat × Nat) (d : TypeDesc)
    (hp : tmps.getD p undef = .pointer (some ⟨g, 0, none⟩)) (hg : w.heap[g]? = some (.cells cs t fr))
    (hu : P.underlying ty = some d) (hd : (match d with | .struct _ | .array _ _ => true | _ => false) = true) (hi : (P.info? ty).map (·.size) = some cs.size) :
    (results fn tmps).run P w = .ok (.tuple #[.agg cs, tmps.getD u undef]) w := by
  have hp' : tmps[p]?.getD undef = .pointer (some ⟨g, 0, none⟩) := by simpa using hp
  rw [results_cell_tmp h]
  simp [hp', asAddr, run_loadVar_row w g t ty cs fr d hg hu hd hi, Result.andThen]
theorem face_info : ∃ fs, Tryd.prog.underlying 49 = some (.struct fs) ∧ (Tryd.prog.info? 49).map (·.size) = some 2 := by
  have h : (Tryd.prog.underlying 49).map (fun d => match d with | .struct _ => true | _ => false) = some true := by kernel_rfl
  obtain ⟨d, h1, h2⟩ := Option.map_eq_some_iff.1 h
  cases d <;> first | (exact ⟨_, h1, by kernel_rfl⟩) | (simp at h2)
theorem ext_pair (B : Nat) (W : World) (v u : Value) : Ext (Just B) W ((W.setCell ⟨B, 0, none⟩ v).setCell ⟨B, 1, none⟩ u) :=
  Ext.trans (D := Just B) (D' := Just B) (E := Just B) (Ext.setCell W ⟨B, 0, none⟩ v rfl) (Ext.setCell _ ⟨B, 1, none⟩ u rfl) (fun _ _ h => h) (fun _ _ h => h)
/-- the table of sizes -/
def bitsN (z : Int) : Int := if z = 1 then 224 else if z = 2 then 256 else if z = 3 then 384 else if z = 4 then 512 else 0
def Sizes (W : World) : Prop := ∀ i : Nat, i < 5 → W.cell? ⟨0, i, none⟩ = some (.int .i64 (bitsN i))
theorem bits_any (z : Int) (W : World) (hm : Hid (Sizes W)) : Calls Tryd.prog 27 #[.int .i64 z] W fun e W' => e = .returned (.int .i64 (bitsN z)) ∧ W' = W := by
  by_cases h0 : z < 0
  · have hb : Hid (bitsN z = 0) := by unfold Hid bitsN; repeat' split <;> omega
    go_enter Tryd.func27, Tryd.ntmps27
    go_wp2_with fail
    go_ret
    exact ⟨by rw [hb.out]; rfl, rfl⟩
  · by_cases h5 : 5 ≤ z
    · have hb : Hid (bitsN z = 0) := by unfold Hid bitsN; repeat' split <;> omega
      go_enter Tryd.func27, Tryd.ntmps27
      go_wp2_with fail
      go_ret
      exact ⟨by rw [hb.out]; rfl, rfl⟩
    · obtain ⟨i, rfl, hi⟩ : ∃ i : Nat, z = i ∧ i < 5 := ⟨z.toNat, by omega, by omega⟩
      have c := hm.out i hi
      clear h0 h5
      have h0 : ¬ ((i : Int) < 0) := by omega
      have h5 : ¬ (5 ≤ (i : Int)) := by omega
      go_enter Tryd.func27, Tryd.ntmps27
      go_wp2_with fail
      go_ret
      exact ⟨rfl, rfl⟩
def sizeN (z : Int) : Int := if z = 1 then 28 else if z = 2 then 32 else if z = 3 then 48 else if z = 4 then 64 else 0
theorem size_any (z : Int) (W : World) (hm : Hid (Sizes W)) : Calls Tryd.prog 14 #[.int .i64 z] W fun e W' => e = .returned (.int .i64 (sizeN z)) ∧ W' = W := by
  have HQ : Hid (wrap64 ((bitsN z).tdiv 8) = sizeN z) := by
    unfold Hid bitsN sizeN
    repeat' split
    all_goals (unfold wrap64; simp)
  go_enter Tryd.func14, Tryd.ntmps14
  go_wp2_with fail
  refine (bits_any z W hm).mono ?_
  rintro e W' ⟨rfl, rfl⟩
  go_wp2_with fail
  go_ret
  exact ⟨by rw [← HQ.out]; rfl, rfl⟩

/-- the numbers of the four hashes -/
def numW (wide long : Bool) : Int := match wide, long with | false, false => 1 | false, true => 2 | true, false => 3 | true, true => 4
theorem bitsN_W (wide long : Bool) : bitsN (numW wide long) = bitsW wide long := by cases wide <;> cases long <;> rfl
theorem sizeN_W (wide long : Bool) : sizeN (numW wide long) = szW wide long := by cases wide <;> cases long <;> rfl
theorem bits_W (wide long : Bool) (W : World) (hm : Hid (Sizes W)) : Calls Tryd.prog 27 #[.int .i64 (numW wide long)] W fun e W' => e = .returned (.int .i64 (bitsW wide long)) ∧ W' = W := by
  rw [← bitsN_W]; exact bits_any _ W hm
theorem size_W (wide long : Bool) (W : World) (hm : Hid (Sizes W)) : Calls Tryd.prog 14 #[.int .i64 (numW wide long)] W fun e W' => e = .returned (.int .i64 (szW wide long : Nat)) ∧ W' = W := by
  rw [← sizeN_W]; exact size_any _ W hm
theorem Sizes.ext {D : Nat → Prop} {W W' : World} (h : Sizes W) (he : Ext D W W') (hd : ¬ D 0) : Sizes W' := fun t ht => he.cell (h t ht) hd
theorem FedW.ext2 {D : Nat → Prop} {W W' : World} {b : Nat} {wide long : Bool} (hs : FedW W b wide long []) (he : Ext D W W') (hb : ¬ D b) : FedW W' b wide long [] := by
  have e : ∀ {p q : Nat → Prop} {a : Option Addr} {cap : Nat}, Holds p W a cap [] → Holds q W a cap [] := fun h =>
    ⟨h.len, h.max, h.lies.imp id fun ⟨c, off, e, _, hc⟩ => ⟨c, off, e, fun hl => absurd rfl hl, hc⟩⟩
  cases wide
  · exact IsG.ext hs he hb (fun _ _ h => e h)
  · exact IsSt.ext hs he hb (fun _ _ h => e h)
def faceV (wide : Bool) (b : Nat) : Value := .agg #[.func (.func (fWriteW wide)) #[.pointer (some ⟨b, 0, none⟩)] #[], .func (.func (fSumW wide)) #[.pointer (some ⟨b, 0, none⟩)] #[]]
def BeginPost (W : World) (wide long : Bool) (e : Ending) (W' : World) : Prop :=
  ∃ b, e = .returned (.tuple #[faceV wide b, .int .i64 0]) ∧ W.heap.size ≤ b ∧ FedW W' b wide long [] ∧ Ext Nope W W'
set_option maxRecDepth 100000 in
theorem begin_any (wide long : Bool) (W : World) (hm : Hid (Sizes W)) (ht : Hid (Tabs W)) : Calls Tryd.prog 23 #[.int .i64 (numW wide long)] W (BeginPost W wide long) := by
  have HA := Ext.alloc Nope W (.cells #[.nilFunc, .nilFunc] 49)
  have hne := szW_ne wide long
  have HS := Lib.hid (size_W wide long _ (hm.out.ext HA (fun h => h)))
  have HB := Lib.hid (bits_W wide long _ (hm.out.ext HA (fun h => h)))
  have HN := Lib.hid (fedW_new wide long _ (ht.out.ext HA (fun h => h) (fun h => h) (fun h => h) (fun h => h)))
  have hle : (numW wide long ≤ 2) ↔ wide = false := by cases wide <;> cases long <;> decide
  obtain ⟨z, hz⟩ : ∃ z, numW wide long = z := ⟨_, rfl⟩
  rw [hz] at HS HB hle ⊢
  have hnew := World.alloc_heap_new W (.cells #[.nilFunc, .nilFunc] 49)
  cases wide
  · have hle2 : z ≤ 2 := hle.2 rfl
    clear hle
    go_enter Tryd.func23, Tryd.ntmps23
    go_wp2_with fail
    refine HS.out.mono ?_
    rintro e w ⟨rfl, rfl⟩
    go_wp2_with fail
    refine HB.out.mono ?_
    rintro e w ⟨rfl, rfl⟩
    go_wp2_with fail
    refine HN.out.mono ?_
    rintro e w ⟨rfl, hfed, hx⟩
    have hh := hx.heap hnew (fun h => h)
    have hd0 := block_cell hh 0 rfl
    have hd1 := block_cell hh 1 rfl
    have hfr := block_free hh
    have HH := Lib.hid hh
    have HX := Lib.hid hx
    have HF : Hid (FedW w (W.heap.size + 1) false long []) := by
      have e : (W.alloc (.cells #[.nilFunc, .nilFunc] 49)).heap.size = W.heap.size + 1 := Array.size_push _
      rw [← e]; exact hfed
    clear hh hnew hx hfed
    go_wp2_with fail
    have hb2 := block_set (block_set HH.out 0 (.func (.func 34) #[.pointer (some ⟨W.heap.size + 1, 0, none⟩)] #[])) 1 (.func (.func 35) #[.pointer (some ⟨W.heap.size + 1, 0, none⟩)] #[])
    have hx2 : Ext (Just W.heap.size) w ((w.setCell ⟨W.heap.size, 0, none⟩ (.func (.func 34) #[.pointer (some ⟨W.heap.size + 1, 0, none⟩)] #[])).setCell ⟨W.heap.size, 1, none⟩ (.func (.func 35) #[.pointer (some ⟨W.heap.size + 1, 0, none⟩)] #[])) := ext_pair _ _ _ _
    obtain ⟨W3, hW3⟩ : ∃ W3, (w.setCell ⟨W.heap.size, 0, none⟩ (.func (.func 34) #[.pointer (some ⟨W.heap.size + 1, 0, none⟩)] #[])).setCell ⟨W.heap.size, 1, none⟩ (.func (.func 35) #[.pointer (some ⟨W.heap.size + 1, 0, none⟩)] #[]) = W3 := ⟨_, rfl⟩
    rw [hW3] at hb2 hx2 ⊢
    clear hW3
    have HX2 := Lib.hid hx2
    clear hd0 hd1 hx2
    obtain ⟨d, hfd, hfi⟩ := face_info
    refine bodyPost_ret (results_row_tmp rfl _ _ W.heap.size _ _ _ (.struct d) rfl hb2 hfd rfl hfi) rfl ?_
    clear hfd hfi
    refine ⟨_, rfl, Nat.le_succ _, (HF.out.ext2 HX2.out (fun h => by simp only [Just] at h; exact Nat.succ_ne_self _ h)), (HA.trans HX.out (fun _ _ h => h) (fun _ _ h => h)).trans HX2.out (fun _ _ h => h) (fun j hj h => by have : j = W.heap.size := h; omega)⟩
  · have hle2 : ¬ z ≤ 2 := (fun h => by have := hle.1 h; cases this)
    clear hle
    go_enter Tryd.func23, Tryd.ntmps23
    go_wp2_with fail
    refine HS.out.mono ?_
    rintro e w ⟨rfl, rfl⟩
    go_wp2_with fail
    refine HB.out.mono ?_
    rintro e w ⟨rfl, rfl⟩
    go_wp2_with fail
    refine HN.out.mono ?_
    rintro e w ⟨rfl, hfed, hx⟩
    have hh := hx.heap hnew (fun h => h)
    have hd0 := block_cell hh 0 rfl
    have hd1 := block_cell hh 1 rfl
    have hfr := block_free hh
    have HH := Lib.hid hh
    have HX := Lib.hid hx
    have HF : Hid (FedW w (W.heap.size + 1) true long []) := by
      have e : (W.alloc (.cells #[.nilFunc, .nilFunc] 49)).heap.size = W.heap.size + 1 := Array.size_push _
      rw [← e]; exact hfed
    clear hh hnew hx hfed
    go_wp2_with fail
    have hb2 := block_set (block_set HH.out 0 (.func (.func 37) #[.pointer (some ⟨W.heap.size + 1, 0, none⟩)] #[])) 1 (.func (.func 38) #[.pointer (some ⟨W.heap.size + 1, 0, none⟩)] #[])
    have hx2 : Ext (Just W.heap.size) w ((w.setCell ⟨W.heap.size, 0, none⟩ (.func (.func 37) #[.pointer (some ⟨W.heap.size + 1, 0, none⟩)] #[])).setCell ⟨W.heap.size, 1, none⟩ (.func (.func 38) #[.pointer (some ⟨W.heap.size + 1, 0, none⟩)] #[])) := ext_pair _ _ _ _
    obtain ⟨W3, hW3⟩ : ∃ W3, (w.setCell ⟨W.heap.size, 0, none⟩ (.func (.func 37) #[.pointer (some ⟨W.heap.size + 1, 0, none⟩)] #[])).setCell ⟨W.heap.size, 1, none⟩ (.func (.func 38) #[.pointer (some ⟨W.heap.size + 1, 0, none⟩)] #[]) = W3 := ⟨_, rfl⟩
    rw [hW3] at hb2 hx2 ⊢
    clear hW3
    have HX2 := Lib.hid hx2
    clear hd0 hd1 hx2
    obtain ⟨d, hfd, hfi⟩ := face_info
    refine bodyPost_ret (results_row_tmp rfl _ _ W.heap.size _ _ _ (.struct d) rfl hb2 hfd rfl hfi) rfl ?_
    clear hfd hfi
    refine ⟨_, rfl, Nat.le_succ _, (HF.out.ext2 HX2.out (fun h => by simp only [Just] at h; exact Nat.succ_ne_self _ h)), (HA.trans HX.out (fun _ _ h => h) (fun _ _ h => h)).trans HX2.out (fun _ _ h => h) (fun j hj h => by have : j = W.heap.size := h; omega)⟩

/-- no hash -/
theorem begin_none (z : Int) (hz : sizeN z = 0) (W : World) (hm : Hid (Sizes W)) : Calls Tryd.prog 23 #[.int .i64 z] W fun e W' =>
    e = .returned (.tuple #[.agg #[.nilFunc, .nilFunc], .int .i64 80]) ∧ Ext Nope W W' := by
  have HA := Ext.alloc Nope W (.cells #[.nilFunc, .nilFunc] 49)
  have HS := Lib.hid (size_any z _ (hm.out.ext HA (fun h => h)))
  rw [hz] at HS
  have hnew := World.alloc_heap_new W (.cells #[.nilFunc, .nilFunc] 49)
  have hd0 := block_cell hnew 0 rfl
  have hd1 := block_cell hnew 1 rfl
  have hfr := block_free hnew
  have HH := Lib.hid hnew
  clear hnew hz
  go_enter Tryd.func23, Tryd.ntmps23
  go_wp2_with fail
  refine HS.out.mono ?_
  rintro e w ⟨rfl, rfl⟩
  go_wp2_with fail
  obtain ⟨d, hfd, hfi⟩ := face_info
  refine bodyPost_ret (results_row_tmp rfl _ _ W.heap.size _ _ _ (.struct d) rfl HH.out hfd rfl hfi) rfl ?_
  exact ⟨rfl, HA⟩
end Go.Proofs.YtjfcldjepgijeaaDoor
