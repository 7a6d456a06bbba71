/- The hash of a state. -/
import Derived.Test.YtjfcldjepgijeaaDoorSh
import Derived.Test.YtjfcldjepgijeaaDoorK5b
import Derived.Deep.LoopGhost
import Derived.Deep.CutBlock
namespace Go.Proofs.YtjfcldjepgijeaaDoor
open Go.RowKit Go.Shelf

theorem holds_lit1 (W : World) (c : BitVec 8) (z : Int) (hz : wd c = z) : Holds (fun b => W.heap.size ≤ b) (W.alloc (.cells #[.int .u8 z] 5)) (some ⟨W.heap.size, 0, none⟩) 1 [c] :=
  ⟨by simp, by unfold maxLen; omega, .inr ⟨_, 0, rfl, fun _ => Nat.le_refl _, fun i d hd => by
    obtain ⟨h1, h2⟩ := List.getElem?_eq_some_iff.1 hd
    simp at h1; subst h1; simp at h2; subst h2
    rw [Nat.add_zero]; rw [hz]; exact block_cell (World.alloc_heap_new W _) 0 rfl⟩⟩

/-- a state that took x behind what it had -/
def Took (W : World) (b : Nat) (sz : Int) (s8 : H8) (r x : List (BitVec 8)) (tk : BitVec 64) : Prop :=
  IsSt W b sz (turns s8 (r ++ x)) (left5 (r ++ x)) (tk + BitVec.ofNat 64 x.length)

theorem took_write {p : Nat → Prop} (b : Nat) (sz : Int) (s8 : H8) (r x l : List (BitVec 8)) (tk : BitVec 64) (a : Option Addr) (n cap : Nat) (W : World) (hs : Hid (Took W b sz s8 r x tk)) (hz : (sz == 0) = false)
    (hh : Hid (Holds p W a cap l)) (hn : Hid (l.length = n)) (hb : n ≤ 999999999999 - 200) (hcu : Hid (Cubes W)) :
    Calls Tryd.prog 37 #[.pointer (some ⟨b, 0, none⟩), .slice a n cap] W fun e W' => e = .returned (.tuple #[]) ∧ Took W' b sz s8 r (x ++ l) tk ∧ Ext (Just b) W W' := by
  refine (write_any b sz _ (left5 (r ++ x)) l (tk + BitVec.ofNat 64 x.length) a n cap W hs hz hh hn (by rw [left5_length]; omega) hcu).mono ?_
  rintro e W' ⟨he, hst, hx⟩
  refine ⟨he, ?_, hx⟩
  unfold Took
  rw [turns_append, left5_append] at hst
  rw [← List.append_assoc, List.length_append, hn.out]
  have : tk + BitVec.ofNat 64 x.length + BitVec.ofNat 64 n = tk + BitVec.ofNat 64 (x.length + n) := by
    rw [BitVec.add_assoc]; congr 1
    apply BitVec.eq_of_toNat_eq; simp
  rw [← this]; exact hst

/-- the sixteen bytes, k of the last eight written -/
def szByte (tk : BitVec 64) (k j : Nat) : BitVec 8 := if j < 7 then 0 else if j = 7 then (tk >>> 61).setWidth 8 else if 16 ≤ j + k then ((tk <<< 3) >>> (8 * (15 - j))).setWidth 8 else 0
def SizeB (V : World) (B : Nat) (tk : BitVec 64) (k : Nat) : Prop :=
  ∃ cs : Array Value, V.heap[B]? = some (.cells cs 5 (0, 0)) ∧ cs.size = 16 ∧ ∀ j, j < 16 → cs[j]? = some (.int .u8 (wd (szByte tk k j)))
theorem sizeB_step {V : World} {B k : Nat} {tk : BitVec 64} {cs : Array Value} (hs : cs.size = 16) (hc : ∀ j, j < 16 → cs[j]? = some (.int .u8 (wd (szByte tk k j)))) (hk : k < 8)
    (h : V.heap[B]? = some (.cells (cs.setIfInBounds (15 - k) (.int .u8 (wd (((tk <<< 3) >>> (8 * k)).setWidth 8)))) 5 (0, 0))) : SizeB V B tk (k + 1) := by
  refine ⟨_, h, by simpa using hs, fun j hj => ?_⟩
  by_cases e : j = 15 - k
  · subst e
    rw [Array.getElem?_setIfInBounds_self_of_lt (by omega)]
    unfold szByte
    rw [if_neg (by omega), if_neg (by omega), if_pos (by omega), show 15 - (15 - k) = k by omega]
  · rw [Array.getElem?_setIfInBounds_ne (by omega), hc j hj]
    have : (16 ≤ j + k) ↔ (16 ≤ j + (k + 1)) := by omega
    unfold szByte
    simp only [this]
theorem sizeB_start {V : World} {B : Nat} {tk : BitVec 64} (h : V.heap[B]? = some (.cells #[.int .u8 0, .int .u8 0, .int .u8 0, .int .u8 0, .int .u8 0, .int .u8 0, .int .u8 0, .int .u8 0, .int .u8 0, .int .u8 0, .int .u8 0, .int .u8 0, .int .u8 0, .int .u8 0, .int .u8 0, .int .u8 0] 5 (0, 0))) :
    SizeB (V.setCell ⟨B, 7, none⟩ (.int .u8 (IntKind.u8.wrap (wd tk / 2305843009213693952)))) B tk 0 := by
  have e : IntKind.u8.wrap (wd tk / 2305843009213693952) = wd ((tk >>> 61).setWidth 8) := by
    rw [show (2305843009213693952 : Int) = 2 ^ 61 from rfl, wd_shr', u8_of64]
  rw [e]
  refine ⟨_, block_set h 7 _, rfl, fun j hj => ?_⟩
  obtain rfl | rfl | rfl | rfl | rfl | rfl | rfl | rfl | rfl | rfl | rfl | rfl | rfl | rfl | rfl | rfl : j = 0 ∨ j = 1 ∨ j = 2 ∨ j = 3 ∨ j = 4 ∨ j = 5 ∨ j = 6 ∨ j = 7 ∨ j = 8 ∨ j = 9 ∨ j = 10 ∨ j = 11 ∨ j = 12 ∨ j = 13 ∨ j = 14 ∨ j = 15 := by omega
  all_goals rfl
theorem sz_byte (tk : BitVec 64) (k : Nat) : IntKind.u64.wrap (wd tk * (8 : Int)) / (2 : Int) ^ (8 * k) % (256 : Int) = wd (((tk <<< 3) >>> (8 * k)).setWidth 8) := by
  rw [show wd tk * (8 : Int) = wd tk * 2 ^ 3 from rfl, u64_shl, wd_shr', ← IntKind.wrap_u8', u8_of64]
theorem sizeB_holds {V : World} {B : Nat} {tk : BitVec 64} (h : SizeB V B tk 8) : Holds (fun c => c = B) V (some ⟨B, 0, none⟩) 16 (size16 tk) := by
  obtain ⟨cs, h1, h2, h3⟩ := h
  refine ⟨by simp [size16], by unfold maxLen; omega, .inr ⟨B, 0, rfl, fun _ => rfl, fun i c hi => ?_⟩⟩
  obtain ⟨hl, hc⟩ := List.getElem?_eq_some_iff.1 hi
  rw [Nat.zero_add, cell_of_row V B i cs _ _ h1]
  have hl' : i < 16 := by simpa [size16] using hl
  rw [h3 i hl', ← hc]
  obtain rfl | rfl | rfl | rfl | rfl | rfl | rfl | rfl | rfl | rfl | rfl | rfl | rfl | rfl | rfl | rfl : i = 0 ∨ i = 1 ∨ i = 2 ∨ i = 3 ∨ i = 4 ∨ i = 5 ∨ i = 6 ∨ i = 7 ∨ i = 8 ∨ i = 9 ∨ i = 10 ∨ i = 11 ∨ i = 12 ∨ i = 13 ∨ i = 14 ∨ i = 15 := by omega
  all_goals rfl

theorem index8 (c0 c1 c2 c3 c4 c5 c6 c7 v : Value) (k : Nat) (h : [c0, c1, c2, c3, c4, c5, c6, c7][k]? = some v) (w : World) :
    (Instr.index 83 (.agg #[c0, c1, c2, c3, c4, c5, c6, c7]) (.int .i64 k)).run Tryd.prog w = .ok v w := by
  have hk := (List.getElem?_eq_some_iff.1 h).1
  simp at hk
  obtain rfl | rfl | rfl | rfl | rfl | rfl | rfl | rfl : k = 0 ∨ k = 1 ∨ k = 2 ∨ k = 3 ∨ k = 4 ∨ k = 5 ∨ k = 6 ∨ k = 7 := by omega
  all_goals (have e := Option.some.inj h; subst e; show _ = _; kernel_rfl)

def SumPost (W : World) (n : Nat) (l : List (BitVec 8)) (e : Ending) (W' : World) : Prop :=
  ∃ g cur, e = .returned (.slice (some ⟨g, 0, none⟩) n n) ∧ W.heap.size ≤ g ∧ W'.heap[g]? = some (.cells cur 5 (0, 0)) ∧ cur.toList.take n = bv l ∧ l.length = n ∧ Ext Nope W W'

set_option maxHeartbeats 2000000 in
set_option maxRecDepth 100000 in
theorem sum_any (b : Nat) (sz : Nat) (s8 : H8) (r : List (BitVec 8)) (tk : BitVec 64) (W : World) (hs : Hid (IsSt W b sz s8 r tk)) (h0 : 0 < sz) (h64 : sz ≤ 64) (hr : Hid (r.length < 128)) (hcu : Hid (Cubes W)) :
    Calls Tryd.prog 38 #[.pointer (some ⟨b, 0, none⟩)] W (SumPost W sz (sum5 sz s8 r tk)) := by
  obtain ⟨i, hi, hzi, hszi, hby⟩ := info_parts Tryd.infoB
  obtain ⟨a, cap, hst, _⟩ := hs.out
  have hbW := hs.out.lt
  have c0 := (st_cells hst).1
  have HST := Lib.hid hst
  have hz : (((sz : Nat) : Int) == 0) = false := by simp; omega
  clear hst
  go_enter Tryd.func38, Tryd.ntmps38
  go_wp2_with fail
  refine (none_some b 0 _ _ c0 hz).mono ?_
  rintro e w' ⟨rfl, rfl⟩
  clear c0
  go_wp2_with fail
  refine (copy_any b _ s8 r tk _ hs hz (by have := hr.out; omega)).mono ?_
  rintro e w1 ⟨b', rfl, hb', hst1, hE1⟩
  have HE1 := Lib.hid hE1
  have HB' := Lib.hid hb'
  have HS1 : Hid (Took w1 b' sz s8 r [] tk) := by unfold Hid Took; simp only [List.append_nil, List.length_nil]; rw [turns_short hr.out, left5_short hr.out]; simpa using hst1
  clear hE1 hb' hst1
  go_wp2_with fail
  have HS2 : Hid (Took (w1.alloc (.cells #[.int .u8 128] 5)) b' sz s8 r [] tk) := HS1.out.grow (Ext.alloc _ _ _)
  have HC2 : Hid (Cubes (w1.alloc (.cells #[.int .u8 128] 5))) := (hcu.out.ext HE1.out (fun h => h)).ext (Ext.alloc Nope _ _) (fun h => h)
  have HL2 := Lib.hid (holds_lit1 w1 128 128 rfl)
  refine (took_write b' _ s8 r [] [128] tk _ 1 1 _ HS2 hz HL2 rfl (by omega) HC2).mono ?_
  rintro e w2 ⟨rfl, hst2, hE2⟩
  have HE2 : Hid (Ext Nope W w2) := (HE1.out.trans (Ext.alloc Nope w1 _) (fun _ _ h => h) (fun _ _ h => h)).trans hE2 (fun _ _ h => h) (fun i hi h => by have := HB'.out; simp only [Just] at h; omega)
  have HS3 := Lib.hid hst2
  clear hE2 hst2
  go_wp2_with fail
  go_loopg [] (zeros5 r.length) (fun g wr => ∃ k : Nat, k + g = zeros5 r.length ∧ Took wr b' sz s8 r ((128 : BitVec 8) :: List.replicate k 0) tk ∧ Ext Nope W wr)
  case atStart => exact ⟨0, by omega, by simpa using HS3.out, HE2.out⟩
  case round =>
    obtain ⟨wo, hwo⟩ : ∃ wo, wo = wr := ⟨_, rfl⟩
    subst hwo
    obtain ⟨k, hk, hT, hE⟩ := hrel
    have HT := Lib.hid hT
    obtain ⟨al, cl, hst3, _⟩ := hT
    obtain ⟨nl, hnl⟩ : ∃ nl, (left5 (r ++ (128 : BitVec 8) :: List.replicate k 0)).length = nl := ⟨_, rfl⟩
    have hmod : nl = (r.length + 1 + k) % 128 := by rw [← hnl, left5_length]; simp; omega
    rw [hnl] at hst3
    have c9 := (st_cells hst3).2.2.2.2.2.2.2.2.2.1
    have HNL := Lib.hid hnl
    have HMOD := Lib.hid hmod
    have HE := Lib.hid hE
    have HK := Lib.hid hk
    clear hst3 hnl hmod hE hk
    by_cases hend : nl = 112
    · have hne : ((nl : Int) != 112) = false := by simp; omega
      have HEN := Lib.hid hend
      clear hend
      have c10 := HE.out.cell (st_cells HST.out).2.2.2.2.2.2.2.2.2.2 (fun h => h)
      have hmk : ∀ w, (Instr.makeSlice 23 (.int .i64 16) (.int .i64 16)).run Tryd.prog w = .ok (.slice (some ⟨w.heap.size, 0, none⟩) 16 16) (w.alloc (.cells #[.int .u8 0, .int .u8 0, .int .u8 0, .int .u8 0, .int .u8 0, .int .u8 0, .int .u8 0, .int .u8 0, .int .u8 0, .int .u8 0, .int .u8 0, .int .u8 0, .int .u8 0, .int .u8 0, .int .u8 0, .int .u8 0] 5)) := fun _ => by kernel_rfl
      go_upto_region 8 with (fail)
      obtain ⟨W6, hW6⟩ : ∃ W6, wo.alloc (.cells #[.int .u8 0, .int .u8 0, .int .u8 0, .int .u8 0, .int .u8 0, .int .u8 0, .int .u8 0, .int .u8 0, .int .u8 0, .int .u8 0, .int .u8 0, .int .u8 0, .int .u8 0, .int .u8 0, .int .u8 0, .int .u8 0] 5) = W6 := ⟨_, rfl⟩
      have hE6 : Ext Nope wo W6 := by rw [← hW6]; exact Ext.alloc _ _ _
      have hB6 : W6.heap[wo.heap.size]? = some (.cells #[.int .u8 0, .int .u8 0, .int .u8 0, .int .u8 0, .int .u8 0, .int .u8 0, .int .u8 0, .int .u8 0, .int .u8 0, .int .u8 0, .int .u8 0, .int .u8 0, .int .u8 0, .int .u8 0, .int .u8 0, .int .u8 0] 5 (0, 0)) := by rw [← hW6]; exact World.alloc_heap_new _ _
      rw [hW6]
      clear hW6 hmk c9
      have d10 := hE6.cell c10 (fun h => h)
      have d7 := block_cell hB6 7 rfl
      have dfr := block_free hB6
      have HE6 := Lib.hid hE6
      have HB6 := Lib.hid hB6
      clear c10 hE6 hB6
      go_wp2_with fail
      go_loopw [35] (fun i V => ∃ k : Nat, k ≤ 8 ∧ i = .int .i64 k ∧ SizeB V wo.heap.size tk k ∧ Ext (Just wo.heap.size) W6 V) (fun i _ => 8 - (intOf i).toNat)
      case atStart => exact ⟨0, by omega, rfl, sizeB_start HB6.out, Ext.setCell _ _ _ rfl⟩
      case round =>
        obtain ⟨k2, hk2, rfl, ⟨cs, hcs, hcz, hcv⟩, hE7⟩ := hrel
        have e10 := hE7.cell d10 (by show ¬ (b = wo.heap.size); have := HE.out.size; omega)
        have efr := block_free hcs
        have HE7 := Lib.hid hE7
        have HCS := Lib.hid hcs
        have HCZ := Lib.hid hcz
        have HCV := Lib.hid hcv
        by_cases hlt : k2 < 8
        · have ec := block_cell hcs (15 - k2) (hcv (15 - k2) (by omega))
          clear hE7 hcs hcz hcv d10 d7 dfr
          go_wp2_with fail
          go_roundw
          case rel => rw [sz_byte]; exact ⟨k2 + 1, by omega, by go_num, sizeB_step HCZ.out HCV.out hlt (block_set HCS.out _ _), HE7.out.setCells _ _⟩
          case measure => simp [intOf]; omega
        · obtain rfl : k2 = 8 := by omega
          have HSB : Hid (SizeB wr wo.heap.size tk 8) := ⟨cs, hcs, hcz, hcv⟩
          clear hE7 hcs hcz hcv d10 d7 dfr HCZ HCV HCS efr
          have HE8 : Hid (Ext Nope W wr) := ((HE.out.trans HE6.out (fun _ _ h => h) (fun _ _ h => h)).trans HE7.out (fun _ _ h => h) (fun i hi h => by have := HE.out.size; simp only [Just] at h; omega))
          have HT8 : Hid (Took wr b' sz s8 r ((128 : BitVec 8) :: List.replicate k 0) tk) := IsSt.ext (D := Just wo.heap.size) HT.out
            (HE6.out.trans HE7.out (fun _ _ h => h.elim) (fun _ _ h => h)) (fun h => by have := HT.out.lt; simp only [Just] at h; omega)
            (fun _ _ hh => hh.mono (fun c hc => ⟨hc, fun h => by simp only [Just] at h; omega⟩))
          have HC8 : Hid (Cubes wr) := hcu.out.ext HE8.out (fun h => h)
          have HH8 := Lib.hid (sizeB_holds HSB.out)
          go_wp2_with fail
          refine (took_write b' _ s8 r _ _ tk _ 16 16 _ HT8 hz HH8 rfl (by omega) HC8).mono ?_
          rintro e w9 ⟨rfl, hst9, hE9⟩
          obtain ⟨a9, cap9, h9, _⟩ := hst9
          obtain ⟨n9, hn9⟩ : ∃ n9, (left5 (r ++ ((128 : BitVec 8) :: List.replicate k 0 ++ size16 tk))).length = n9 := ⟨_, rfl⟩
          rw [hn9] at h9
          clear hn9
          have HE9 : Hid (Ext Nope W w9) := HE8.out.trans hE9 (fun _ _ h => h) (fun i hi h => by have := HB'.out; simp only [Just] at h; omega)
          have f10 := HE9.out.cell (st_cells HST.out).1 (fun h => h)
          obtain ⟨-, q1, q2, q3, q4, q5, q6, q7, q8, -, -⟩ := st_cells h9
          have H9 := Lib.hid h9
          have HLEN : Hid (k = zeros5 r.length) := by have := HMOD.out; have := HEN.out; have := HK.out; unfold Hid; unfold zeros5 at *; omega
          clear h9 hE9
          obtain ⟨HH, hHH⟩ : ∃ HH, turns s8 (r ++ ((128 : BitVec 8) :: List.replicate k 0 ++ size16 tk)) = HH := ⟨_, rfl⟩
          rw [hHH] at H9 q1 q2 q3 q4 q5 q6 q7 q8
          have HHH := Lib.hid hHH
          clear hHH
          go_wp2_with fail
          go_loopw [6, 59] (fun vo i V => ∃ k : Nat, k ≤ 8 ∧ i = .int .i64 k ∧ V.ownsRow W.heap.size 5 1 vo (((hwords HH).take k).flatMap wbytes).length (bv (((hwords HH).take k).flatMap wbytes)) ∧ Ext Nope W V) (fun _ i _ => 8 - (intOf i).toNat)
          case atStart => exact ⟨0, by omega, rfl, ⟨rfl, .inl ⟨rfl, rfl⟩⟩, HE9.out⟩
          case round =>
            obtain ⟨k3, hk3, rfl, hown, hEr⟩ := hrel
            have HOWN := Lib.hid hown
            have HER := Lib.hid hEr
            have g0 := hEr.cell (st_cells HST.out).1 (fun h => h)
            clear hown hEr f10 q1 q2 q3 q4 q5 q6 q7 q8
            by_cases hlt : k3 < 8
            · obtain ⟨x, hx⟩ : ∃ x, (hwords HH)[k3]? = some x := ⟨_, List.getElem?_eq_getElem (by show k3 < 8; omega)⟩
              have hix := index8 (.int .u64 (wd HH.a)) (.int .u64 (wd HH.b)) (.int .u64 (wd HH.c)) (.int .u64 (wd HH.d)) (.int .u64 (wd HH.e)) (.int .u64 (wd HH.f)) (.int .u64 (wd HH.g)) (.int .u64 (wd HH.h)) (.int .u64 (wd x)) k3
                (by have := congrArg (Option.map fun x => Value.int .u64 (wd x)) hx; rw [← List.getElem?_map] at this; exact this)
              have HX := Lib.hid hx
              have hltI : (k3 : Int) < 8 := by omega
              clear hx
              obtain ⟨P, hP⟩ : ∃ P, ((hwords HH).take k3).flatMap wbytes = P := ⟨_, rfl⟩
              have HP : Hid (((hwords HH).take (k3 + 1)).flatMap wbytes = P ++ wbytes x) := by
                unfold Hid; rw [← hP, List.take_add_one, HX.out]; simp
              have hPl : P.length ≤ 64 := by
                have := hbytes_length HH
                rw [← hP]; unfold hbytes at this; rw [← List.take_append_drop k3 (hwords HH), List.flatMap_append, List.length_append] at this; omega
              rw [hP] at HOWN
              clear hP
              go_wp2_with fail
              obtain ⟨wo2, hwo2⟩ : ∃ wo2, wo2 = wr := ⟨_, rfl⟩
              subst hwo2
              go_loopw [6, 62] (fun vo i V => ∃ j : Nat, j ≤ 8 ∧ i = .int .i64 j ∧ V.ownsRow W.heap.size 5 1 vo (P ++ (wbytes x).take j).length (bv (P ++ (wbytes x).take j)) ∧ Ext Nope W V) (fun _ i _ => 8 - (intOf i).toNat)
              case atStart => exact ⟨0, by omega, rfl, by simpa using HOWN.out, HER.out⟩
              case round =>
                obtain ⟨j, hj, rfl, hown2, hEr2⟩ := hrel
                have HOWN2 := Lib.hid hown2
                have HER2 := Lib.hid hEr2
                clear hown2 hEr2
                by_cases hlt2 : j < 8
                · have hneg : ¬ ((56 : Int) - 8 * (j : Int) < 0) := by omega
                  have htn : ((56 : Int) - 8 * (j : Int)).toNat = 56 - 8 * j := by omega
                  have hvb : wd x / (2 : Int) ^ (56 - 8 * j) % (256 : Int) = wd ((x >>> (56 - 8 * j)).setWidth 8) := by rw [wd_shr', ← IntKind.wrap_u8', u8_of64]
                  have HLB := Lib.hid (holds_lit1 wr _ _ hvb.symm)
                  have HB : Hid (P ++ (wbytes x).take (j + 1) = P ++ (wbytes x).take j ++ [(x >>> (56 - 8 * j)).setWidth 8]) := by
                    unfold Hid
                    rw [List.append_assoc]; congr 1
                    rw [List.take_add_one]; congr 1
                    have h8 : j < (wbytes x).length := by simpa [wbytes] using hlt2
                    rw [List.getElem?_eq_getElem h8]; simp [wbytes]
                  have hLl : (P ++ (wbytes x).take j).length ≤ 72 := by rw [List.length_append, List.length_take]; omega
                  obtain ⟨L, hL⟩ : ∃ L, P ++ (wbytes x).take j = L := ⟨_, rfl⟩
                  rw [hL] at HOWN2 HB hLl
                  clear hL hvb
                  obtain ⟨_, a2, cap2, rfl, hh2⟩ := owns_shape HOWN2.out
                  obtain ⟨N, hN⟩ : ∃ N, L.length = N := ⟨_, rfl⟩
                  rw [hN] at HOWN2 hLl
                  have HN := Lib.hid hN
                  clear hh2
                  have HOWN3 := Lib.hid ((Ext.alloc Nope wr (.cells #[.int .u8 (wd x / (2 : Int) ^ (56 - 8 * j) % (256 : Int))] 5)).owns HOWN2.out (fun _ _ h => h))
                  rw [hN]
                  clear hN
                  go_wp2_with (at_builtin; refine wpList_append_b rfl (.tmp 65) (.tmp 72) _ _ rfl Tryd.uB hi hzi hszi hby W.heap.size rfl HOWN3.out rfl HLB.out (k := 1) rfl ?c1 ?c2 ?_)
                  case c1 => have := HN.out; simp; omega
                  case c2 => exact Nat.le_trans HER2.out.size (Nat.le_succ _)
                  intro v4 w4 ho4 hg4 _
                  rw [(owns_shape ho4).1, ← HB.out] at ho4
                  have HO4 := Lib.hid ho4
                  have HE4 : Hid (Ext Nope W w4) := (HER2.out.trans (Ext.alloc Nope _ _) (fun _ _ h => h) (fun _ _ h => h)).trans (Ext.grownBy (D := fun c => W.heap.size ≤ c) hg4 (fun k hk => (HOWN3.out.lt k hk).1))
                    (fun _ _ h => h) (fun i hi h => by have : W.heap.size ≤ i := h; omega)
                  clear ho4 hg4
                  go_wp2_with fail
                  go_roundw
                  case rel => exact ⟨j + 1, by omega, by go_num, HO4.out, HE4.out⟩
                  case measure => simp [intOf]; omega
                · obtain rfl : j = 8 := by omega
                  go_wp2_with fail
                  go_roundw
                  case rel => exact ⟨k3 + 1, by omega, by go_num, by rw [HP.out]; exact HOWN2.out, HER2.out⟩
                  case measure => simp [intOf]; omega
            · obtain rfl : k3 = 8 := by omega
              have hall : ((hwords HH).take 8).flatMap wbytes = hbytes HH := rfl
              rw [hall] at HOWN
              have hl64 : (hbytes HH).length = 64 := hbytes_length HH
              rw [hl64] at HOWN
              obtain ⟨hlen, ⟨_, hno⟩ | ⟨g, cap2, cur, rfl, hg, hheap, hcap, hmax, hcs, htake⟩⟩ := HOWN.out
              · omega
              have hcap2 : sz ≤ cap2 := by omega
              have HF : Hid (W.heap.size ≤ g ∧ wr.heap[g]? = some (.cells cur 5 (0, 0)) ∧ cur.toList.take 64 = bv (hbytes HH)) := ⟨hg, hheap, htake⟩
              clear hheap htake hlen hcs hmax
              go_wp2_with fail
              refine wp_region_quiet_lit (by kernel_rfl) (by kernel_rfl) ?_
              repeat (go_big_quiet_step (fail))
              refine wpQuiet_nil ?_
              rintro _ ⟨nq, rfl⟩
              go_wp2_with fail
              go_ret
              refine ⟨g, cur, rfl, HF.out.1, HF.out.2.1, ?_, ?_, HER.out.trans (Ext.drewN Nope _ _) (fun _ _ h => h) (fun _ _ h => h)⟩
              · unfold sum5
                have e : r ++ tail5 r.length tk = r ++ ((128 : BitVec 8) :: List.replicate k 0 ++ size16 tk) := by unfold tail5; rw [HLEN.out]
                rw [e, HHH.out]
                have := congrArg (List.take sz) HF.out.2.2
                rw [List.take_take, Nat.min_eq_left h64] at this
                rw [this]; simp [bv]
              · unfold sum5; rw [List.length_take, hbytes_length]; omega
    · have hne : ((nl : Int) != 112) = true := by simp; omega
      have HEN := Lib.hid hend
      clear hend
      go_wp2_with fail
      have HS4 : Hid (Took (wo.alloc (.cells #[.int .u8 0] 5)) b' sz s8 r ((128 : BitVec 8) :: List.replicate k 0) tk) := HT.out.grow (Ext.alloc _ _ _)
      have HC4 : Hid (Cubes (wo.alloc (.cells #[.int .u8 0] 5))) := (hcu.out.ext HE.out (fun h => h)).ext (Ext.alloc Nope _ _) (fun h => h)
      have HL4 := Lib.hid (holds_lit1 wo 0 0 rfl)
      refine (took_write b' _ s8 r _ [0] tk _ 1 1 _ HS4 hz HL4 rfl (by omega) HC4).mono ?_
      rintro e w5 ⟨rfl, hst5, hE5⟩
      have HS5 : Hid (Took w5 b' sz s8 r ((128 : BitVec 8) :: List.replicate (k + 1) 0) tk) := by rw [List.replicate_succ']; exact hst5
      have HE5 : Hid (Ext Nope W w5) := (HE.out.trans (Ext.alloc Nope wo _) (fun _ _ h => h) (fun _ _ h => h)).trans hE5 (fun _ _ h => h) (fun i hi h => by have := HB'.out; simp only [Just] at h; omega)
      clear hst5 hE5
      go_wp2_with fail
      go_roundg (zeros5 r.length - (k + 1))
      case measure => have := HK.out; have := HMOD.out; have := HEN.out; unfold zeros5 at *; omega
      case rel => exact ⟨k + 1, by have := HK.out; have := HMOD.out; have := HEN.out; unfold zeros5 at *; omega, HS5.out, HE5.out⟩
end Go.Proofs.YtjfcldjepgijeaaDoor
