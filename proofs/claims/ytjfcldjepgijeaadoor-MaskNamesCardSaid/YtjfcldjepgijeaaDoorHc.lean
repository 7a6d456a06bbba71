/- The hash of bytes in pieces. -/
import Derived.Test.YtjfcldjepgijeaaDoorHb
namespace Go.Proofs.YtjfcldjepgijeaaDoor
open Go.RowKit Go.Shelf

theorem FedW.lt {W : World} {b : Nat} {wide long : Bool} {x : List (BitVec 8)} (hs : FedW W b wide long x) : b < W.heap.size := by
  cases wide
  · exact IsG.lt hs
  · exact IsSt.lt hs
theorem take_flatten {ls : List (List (BitVec 8))} {i : Nat} {l : List (BitVec 8)} (h : ls[i]? = some l) : (ls.take (i + 1)).flatten = (ls.take i).flatten ++ l := by
  rw [List.take_add_one, h]; simp
/-- a row of rows of bytes -/
def HoldsR (p : Nat → Prop) (W : World) (a : Option Addr) (n : Nat) (ls : List (List (BitVec 8))) : Prop :=
  ls.length = n ∧ (n = 0 ∨ ∃ b off, a = some ⟨b, off, none⟩ ∧ ∀ i l, ls[i]? = some l → ∃ ai ci, W.cell? ⟨b, off + i, none⟩ = some (.slice ai l.length ci) ∧ Holds p W ai ci l)

def SumWPost (W : World) (wide long : Bool) (l : List (BitVec 8)) (e : Ending) (W' : World) : Prop :=
  ∃ v, e = .returned (.tuple #[v, .int .i64 0]) ∧ RowPost W (szW wide long) (hashW wide long l) v W'

set_option maxHeartbeats 2000000 in
set_option maxRecDepth 100000 in
theorem sumW_any {p : Nat → Prop} (wide long : Bool) (a : Option Addr) (n cap : Nat) (ls : List (List (BitVec 8))) (W : World) (hr : Hid (HoldsR p W a n ls)) (hn : n ≤ 1000000) (hb : Hid (∀ l ∈ ls, l.length ≤ 900000000))
    (hm : Hid (Sizes W)) (ht : Hid (Tabs W)) :
    Calls Tryd.prog 9 #[.int .i64 (numW wide long), .slice a n cap] W (SumWPost W wide long ls.flatten) := by
  have HB := Lib.hid (begin_any wide long W hm ht)
  obtain ⟨z, hz⟩ : ∃ z, numW wide long = z := ⟨_, rfl⟩
  rw [hz] at HB ⊢
  clear hz
  cases wide
  · go_enter Tryd.func9, Tryd.ntmps9
    go_wp2_with fail
    refine HB.out.mono ?_
    rintro e w ⟨b, rfl, hbn, hfed, hx⟩
    have HBW : Hid (b < w.heap.size) := hfed.lt
    have HF := Lib.hid hfed
    have HX := Lib.hid hx
    have HBN := Lib.hid hbn
    unfold faceV
    simp only [fWriteW, fSumW]
    clear hbn hfed hx
    go_wp2_with fail
    obtain ⟨W1, hW1⟩ : ∃ W1, w.alloc (.cells #[.func (.func 34) #[.pointer (some ⟨b, 0, none⟩)] #[], .func (.func 35) #[.pointer (some ⟨b, 0, none⟩)] #[]] 49) = W1 := ⟨_, rfl⟩
    have hx1 : Ext Nope w W1 := by rw [← hW1]; exact Ext.alloc _ _ _
    have hf1 : W1.heap[w.heap.size]? = some (.cells #[.func (.func 34) #[.pointer (some ⟨b, 0, none⟩)] #[], .func (.func 35) #[.pointer (some ⟨b, 0, none⟩)] #[]] 49 (0, 0)) := by rw [← hW1]; exact World.alloc_heap_new _ _
    have HF1 : Hid (FedW W1 b false long (ls.take 0).flatten) := HF.out.grow hx1
    have HX1 : Hid (Ext Nope W W1) := HX.out.trans hx1 (fun _ _ h => h) (fun _ _ h => h)
    rw [hW1]
    clear hW1
    obtain ⟨B, hB⟩ : ∃ B, w.heap.size = B := ⟨_, rfl⟩
    rw [hB] at hf1 HBW ⊢
    have HFC := Lib.hid hf1
    clear hB hf1 hx1
    go_loopw [20] (fun vi V => ∃ i : Nat, i ≤ n ∧ vi = .int .i64 i ∧ FedW V b false long (ls.take i).flatten ∧ V.heap[B]? = some (.cells #[.func (.func 34) #[.pointer (some ⟨b, 0, none⟩)] #[], .func (.func 35) #[.pointer (some ⟨b, 0, none⟩)] #[]] 49 (0, 0)) ∧ Ext Nope W V) (fun i _ => n - (intOf i).toNat)
    case atStart => exact ⟨0, by omega, rfl, HF1.out, HFC.out, HX1.out⟩
    case round =>
      obtain ⟨i, hi, rfl, hfe, hfc, hx⟩ := hrel
      have hc0 := block_cell hfc 0 rfl
      have hc1 := block_cell hfc 1 rfl
      have HFE := Lib.hid hfe
      have HFC2 := Lib.hid hfc
      have HX2 := Lib.hid hx
      have HT2 : Hid (Tabs wr) := ht.out.ext hx (fun h => h) (fun h => h) (fun h => h) (fun h => h)
      clear hfe hfc
      by_cases hlt : i < n
      · have hltI : (i : Int) < n := by omega
        obtain ⟨hln, h0 | ⟨rb, off, rfl, hrow⟩⟩ := hr.out
        · omega
        obtain ⟨l, hl⟩ : ∃ l, ls[i]? = some l := ⟨_, List.getElem?_eq_getElem (by omega)⟩
        obtain ⟨ai, ci, hcell, hhl⟩ := hrow i l hl
        have hcell2 := hx.cell hcell (fun h => h)
        have HL : Hid (Holds p wr ai ci l) := hhl.ext hx (fun _ _ h => h)
        have HLB : Hid (l.length ≤ 900000000) := hb.out l (List.mem_of_getElem? hl)
        have HTF := Lib.hid (take_flatten hl)
        obtain ⟨m, hm'⟩ : ∃ m, l.length = m := ⟨_, rfl⟩
        rw [hm'] at hcell2 HLB
        have HM := Lib.hid hm'
        clear hrow hcell hhl hx hl hm' hln
        go_wp2_with fail
        refine (fedW_write b false long _ l ai m ci wr HFE HL HM HLB.out HT2).mono ?_
        rintro e w3 ⟨rfl, hf3, hx3⟩
        rw [← HTF.out] at hf3
        have HF3 := Lib.hid hf3
        have HX3 : Hid (Ext Nope W w3) := HX2.out.trans hx3 (fun _ _ h => h) (fun j hj h => by have : j = b := h; have := HBN.out; omega)
        have HFC3 := Lib.hid (hx3.heap HFC2.out (fun h => by have : B = b := h; have := HBW.out; omega))
        clear hf3 hx3 hc0 hc1 hcell2
        go_wp2_with fail
        exact ⟨⟨i + 1, by omega, by congr 1, HF3.out, HFC3.out, HX3.out⟩, by simp [intOf]; omega⟩
      · obtain rfl : i = n := by omega
        have HTK : Hid ((ls.take i).flatten = ls.flatten) := by have := hr.out.1; unfold Hid; rw [List.take_of_length_le (by omega)]
        clear hx
        go_wp2_with fail
        refine (fedW_sum b false long _ wr HFE HT2).mono ?_
        rintro e w3 ⟨v, rfl, hrp⟩
        rw [HTK.out] at hrp
        have HRP := Lib.hid hrp
        clear hrp hc0 hc1
        go_wp2_with fail
        go_ret2
        obtain ⟨a', rfl, hh, hl, hx'⟩ := HRP.out
        exact ⟨_, rfl, a', rfl, hh.mono (fun c hc => Nat.le_trans HX2.out.size hc), hl, HX2.out.trans hx' (fun _ _ h => h) (fun _ _ h => h)⟩
  · go_enter Tryd.func9, Tryd.ntmps9
    go_wp2_with fail
    refine HB.out.mono ?_
    rintro e w ⟨b, rfl, hbn, hfed, hx⟩
    have HBW : Hid (b < w.heap.size) := hfed.lt
    have HF := Lib.hid hfed
    have HX := Lib.hid hx
    have HBN := Lib.hid hbn
    unfold faceV
    simp only [fWriteW, fSumW]
    clear hbn hfed hx
    go_wp2_with fail
    obtain ⟨W1, hW1⟩ : ∃ W1, w.alloc (.cells #[.func (.func 37) #[.pointer (some ⟨b, 0, none⟩)] #[], .func (.func 38) #[.pointer (some ⟨b, 0, none⟩)] #[]] 49) = W1 := ⟨_, rfl⟩
    have hx1 : Ext Nope w W1 := by rw [← hW1]; exact Ext.alloc _ _ _
    have hf1 : W1.heap[w.heap.size]? = some (.cells #[.func (.func 37) #[.pointer (some ⟨b, 0, none⟩)] #[], .func (.func 38) #[.pointer (some ⟨b, 0, none⟩)] #[]] 49 (0, 0)) := by rw [← hW1]; exact World.alloc_heap_new _ _
    have HF1 : Hid (FedW W1 b true long (ls.take 0).flatten) := HF.out.grow hx1
    have HX1 : Hid (Ext Nope W W1) := HX.out.trans hx1 (fun _ _ h => h) (fun _ _ h => h)
    rw [hW1]
    clear hW1
    obtain ⟨B, hB⟩ : ∃ B, w.heap.size = B := ⟨_, rfl⟩
    rw [hB] at hf1 HBW ⊢
    have HFC := Lib.hid hf1
    clear hB hf1 hx1
    go_loopw [20] (fun vi V => ∃ i : Nat, i ≤ n ∧ vi = .int .i64 i ∧ FedW V b true long (ls.take i).flatten ∧ V.heap[B]? = some (.cells #[.func (.func 37) #[.pointer (some ⟨b, 0, none⟩)] #[], .func (.func 38) #[.pointer (some ⟨b, 0, none⟩)] #[]] 49 (0, 0)) ∧ Ext Nope W V) (fun i _ => n - (intOf i).toNat)
    case atStart => exact ⟨0, by omega, rfl, HF1.out, HFC.out, HX1.out⟩
    case round =>
      obtain ⟨i, hi, rfl, hfe, hfc, hx⟩ := hrel
      have hc0 := block_cell hfc 0 rfl
      have hc1 := block_cell hfc 1 rfl
      have HFE := Lib.hid hfe
      have HFC2 := Lib.hid hfc
      have HX2 := Lib.hid hx
      have HT2 : Hid (Tabs wr) := ht.out.ext hx (fun h => h) (fun h => h) (fun h => h) (fun h => h)
      clear hfe hfc
      by_cases hlt : i < n
      · have hltI : (i : Int) < n := by omega
        obtain ⟨hln, h0 | ⟨rb, off, rfl, hrow⟩⟩ := hr.out
        · omega
        obtain ⟨l, hl⟩ : ∃ l, ls[i]? = some l := ⟨_, List.getElem?_eq_getElem (by omega)⟩
        obtain ⟨ai, ci, hcell, hhl⟩ := hrow i l hl
        have hcell2 := hx.cell hcell (fun h => h)
        have HL : Hid (Holds p wr ai ci l) := hhl.ext hx (fun _ _ h => h)
        have HLB : Hid (l.length ≤ 900000000) := hb.out l (List.mem_of_getElem? hl)
        have HTF := Lib.hid (take_flatten hl)
        obtain ⟨m, hm'⟩ : ∃ m, l.length = m := ⟨_, rfl⟩
        rw [hm'] at hcell2 HLB
        have HM := Lib.hid hm'
        clear hrow hcell hhl hx hl hm' hln
        go_wp2_with fail
        refine (fedW_write b true long _ l ai m ci wr HFE HL HM HLB.out HT2).mono ?_
        rintro e w3 ⟨rfl, hf3, hx3⟩
        rw [← HTF.out] at hf3
        have HF3 := Lib.hid hf3
        have HX3 : Hid (Ext Nope W w3) := HX2.out.trans hx3 (fun _ _ h => h) (fun j hj h => by have : j = b := h; have := HBN.out; omega)
        have HFC3 := Lib.hid (hx3.heap HFC2.out (fun h => by have : B = b := h; have := HBW.out; omega))
        clear hf3 hx3 hc0 hc1 hcell2
        go_wp2_with fail
        exact ⟨⟨i + 1, by omega, by congr 1, HF3.out, HFC3.out, HX3.out⟩, by simp [intOf]; omega⟩
      · obtain rfl : i = n := by omega
        have HTK : Hid ((ls.take i).flatten = ls.flatten) := by have := hr.out.1; unfold Hid; rw [List.take_of_length_le (by omega)]
        clear hx
        go_wp2_with fail
        refine (fedW_sum b true long _ wr HFE HT2).mono ?_
        rintro e w3 ⟨v, rfl, hrp⟩
        rw [HTK.out] at hrp
        have HRP := Lib.hid hrp
        clear hrp hc0 hc1
        go_wp2_with fail
        go_ret2
        obtain ⟨a', rfl, hh, hl, hx'⟩ := HRP.out
        exact ⟨_, rfl, a', rfl, hh.mono (fun c hc => Nat.le_trans HX2.out.size hc), hl, HX2.out.trans hx' (fun _ _ h => h) (fun _ _ h => h)⟩
end Go.Proofs.YtjfcldjepgijeaaDoor
