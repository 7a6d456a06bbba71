/- Bytes are taken. -/
import Derived.Test.YtjfcldjepgijeaaDoorSg
import Derived.Test.YtjfcldjepgijeaaDoorSf
namespace Go.Proofs.YtjfcldjepgijeaaDoor
open Go.RowKit Go.Shelf
attribute [local go_sem] Oper.semAt_some

theorem u64_addn (x : BitVec 64) (n : Nat) : IntKind.u64.wrap (wd x + (n : Int)) = wd (x + BitVec.ofNat 64 n) := by
  rw [wrap64_wd, BitVec.ofInt_add, ofInt_wd, BitVec.ofInt_natCast]

/-- .. whose bytes that are left lie in memory that is new -/
def IsStN (W : World) (B : Nat) (b : Nat) (sz : Int) (h : H8) (r : List (BitVec 8)) (tk : BitVec 64) : Prop :=
  ∃ a cap, StB W b sz h (.slice a r.length cap) tk ∧ Holds (fun c => B ≤ c ∧ c < W.heap.size) W a cap r
theorem IsStN.st {W : World} {B b : Nat} {sz : Int} {h : H8} {r : List (BitVec 8)} {tk : BitVec 64} (hs : IsStN W B b sz h r tk) : IsSt W b sz h r tk := by
  obtain ⟨a, cap, h1, h2⟩ := hs; exact ⟨a, cap, h1, h2.mono (fun c hc => hc.2)⟩
def WritePostN (W : World) (b : Nat) (sz : Int) (h : H8) (all : List (BitVec 8)) (tk : BitVec 64) (e : Ending) (W' : World) : Prop :=
  e = .returned (.tuple #[]) ∧ IsStN W' W.heap.size b sz (turns h all) (left5 all) tk ∧ Ext (Just b) W W'
def WritePost (W : World) (b : Nat) (sz : Int) (h : H8) (all : List (BitVec 8)) (tk : BitVec 64) (e : Ending) (W' : World) : Prop :=
  e = .returned (.tuple #[]) ∧ IsSt W' b sz (turns h all) (left5 all) tk ∧ Ext (Just b) W W'

set_option maxHeartbeats 1000000 in
set_option maxRecDepth 100000 in
theorem write_new {p : Nat → Prop} (b : Nat) (sz : Int) (s8 : H8) (r l : List (BitVec 8)) (tk : BitVec 64) (a : Option Addr) (n cap : Nat) (W : World) (hs : Hid (IsSt W b sz s8 r tk)) (hz : (sz == 0) = false)
    (hh : Hid (Holds p W a cap l)) (hn : Hid (l.length = n)) (hb : r.length + n ≤ 1000000000000) (hcu : Hid (Cubes W)) :
    Calls Tryd.prog 37 #[.pointer (some ⟨b, 0, none⟩), .slice a n cap] W (WritePostN W b sz s8 (r ++ l) (tk + BitVec.ofNat 64 n)) := by
  obtain ⟨ar, capr, hst, hhr⟩ := hs.out
  obtain ⟨i, hi, hzi, hszi, hby⟩ := info_parts Tryd.infoB
  have hbW := hs.out.lt
  have HST := Lib.hid hst
  have HHR := Lib.hid hhr
  clear hst hhr
  have ha := u64_addn
  refine (callsIn_wide (n := 9)).1 (callsIn_of_wp_marks Tryd.func37 rfl trivial ?_ rfl)
  simp only [Tryd.ntmps37, List.size_toArray, List.length_cons, List.length_nil, Nat.reduceAdd, Nat.reduceSub, Array.replicate_succ, Array.replicate_zero, List.push_toArray, List.append_toArray, List.nil_append, List.cons_append]
  gi_wp2_with fail
  have HN := hn.out
  obtain ⟨W0, hW0⟩ : ∃ W0, W.alloc (.cells #[.pointer (some ⟨b, 0, none⟩)] 69) = W0 := ⟨_, rfl⟩
  have hst0 : StB W0 b sz s8 (.slice ar r.length capr) tk := by rw [← hW0]; exact (Ext.alloc Nope W _).heap HST.out (fun h => h)
  have hbx : W0.cell? ⟨W.heap.size, 0, none⟩ = some (.pointer (some ⟨b, 0, none⟩)) := by rw [← hW0]; exact block_cell (World.alloc_heap_new W _) 0 rfl
  have hE0 : Ext Nope W W0 := by rw [← hW0]; exact Ext.alloc _ _ _
  have hz0 : W0.heap.size = W.heap.size + 1 := by rw [← hW0]; simp
  rw [hW0]
  clear hW0
  have c0 := (st_cells hst0).1
  have c10 := (st_cells hst0).2.2.2.2.2.2.2.2.2.2
  have c9 : ∀ v, (W0.setCell ⟨b, 10, none⟩ v).cell? ⟨b, 9, none⟩ = some (.slice ar r.length capr) := fun v => block_cells_other hst0 10 9 v _ (by omega) rfl
  have cb : ∀ v, (W0.setCell ⟨b, 10, none⟩ v).cell? ⟨W.heap.size, 0, none⟩ = some (.pointer (some ⟨b, 0, none⟩)) := fun v => cell_other _ v _ hbx (by show W.heap.size ≠ b; omega)
  have hfr := block_free hst0
  have HST0 := Lib.hid hst0
  have HE0 := Lib.hid hE0
  have HZ0 := Lib.hid hz0
  clear hst0 hE0 hz0 HN
  refine ⟨trivial, calls_fr (r := none) ((none_some b 0 sz _ c0 hz).mono ?_)⟩
  rintro e w' ⟨rfl, rfl⟩
  gi_wp2_with fail
  obtain ⟨W2, hW2⟩ : ∃ W2, W0.setCell ⟨b, 10, none⟩ (.int .u64 (wd (tk + BitVec.ofNat 64 n))) = W2 := ⟨_, rfl⟩
  have hst2 : StB W2 b sz s8 (.slice ar r.length capr) (tk + BitVec.ofNat 64 n) := by
    rw [← hW2]; have := block_set HST0.out 10 (.int .u64 (wd (tk + BitVec.ofNat 64 n))); unfold StB; rw [this]; simp [stCells]
  have hE2 : Ext (Just b) W W2 := by rw [← hW2]; exact (HE0.out.trans (Ext.setCell (D := Just b) _ _ _ rfl) (fun _ _ h => h.elim) (fun _ _ h => h))
  have hbx2 : W2.cell? ⟨W.heap.size, 0, none⟩ = some (.pointer (some ⟨b, 0, none⟩)) := by rw [← hW2]; exact cb _
  have hz2 : W2.heap.size = W.heap.size + 1 := by rw [← hW2, ← HZ0.out]; simp [World.setCell]
  rw [hW2]
  clear hW2 c0 c10 c9 cb hbx hfr
  have HST2 := Lib.hid hst2
  have HE2 := Lib.hid hE2
  have HZ2 := Lib.hid hz2
  have HX : Hid (Holds (fun c => c < W.heap.size) W2 ar capr r) := ((holds_ne_st HHR.out HST.out).ext HE2.out (fun c hc e => hc.2 e)).mono (fun _ h => h.1)
  clear hst2 hE2 hz2
  refine ⟨trivial, calls_fr (r := none) ((clone_any ar r.length capr r _ HX rfl (by omega)).mono ?_)⟩
  rintro e w1 ⟨v', rfl, hown, hE⟩
  have HOWN := Lib.hid hown
  have HE3 := Lib.hid hE
  have hbx3 := hE.cell hbx2 (fun h => h)
  have HSZ3 := Lib.hid hE.size
  clear hown hE hbx2
  have HY : Hid (Holds (fun c => p c ∧ c ≠ b) w1 a cap l) := ((holds_ne_st hh.out HST.out).ext HE2.out (fun c hc e => hc.2 e)).ext HE3.out (fun _ _ h => h)
  gi_wp2_with (gi_at_builtin; refine wpListIn_append_b rfl (.tmp 23) (.tmp 24) _ _ rfl Tryd.uB hi hzi hszi hby W2.heap.size rfl HOWN.out rfl HY.out hn.out ?c1 ?c2 ?_)
  case c1 => have := hn.out; omega
  case c2 => exact HSZ3.out
  intro v2 w2 ho hg _
  obtain ⟨_, a3, cap3, rfl, hh3⟩ := owns_shape ho
  obtain ⟨N, hN⟩ : ∃ N, (r ++ l).length = N := ⟨_, rfl⟩
  rw [hN] at hh3 ⊢
  have hNb : N ≤ 1000000000000 := by rw [← hN, List.length_append]; have := hn.out; omega
  have hE4 : Ext (fun c => W2.heap.size ≤ c) w1 w2 := Ext.grownBy hg (fun k hk => (HOWN.out.lt k hk).1)
  have hbx4 := hE4.cell hbx3 (by have := HZ2.out; show ¬ (W2.heap.size ≤ W.heap.size); omega)
  have hcap : N ≤ cap3 := by have := hh3.len; omega
  have HN := Lib.hid hN
  have HH3 := Lib.hid hh3
  have HE4 := Lib.hid hE4
  clear ho hg hh3 hbx3 hN hE4 hb
  gi_wp2_with fail
  have hNm : N - N % 128 = 128 * (N / 128) := by omega
  rw [hNm]
  refine ⟨trivial, calls_fr (r := none) ((chunk_any a3 (128 * (N / 128)) cap3 _).mono ?_)⟩
  rintro e w3 ⟨rfl, hw3⟩
  have hE5 : Ext Nope w2 w3 := by rw [← hw3]; exact (Ext.alloc _ _ _).trans (Ext.alloc _ _ _) (fun _ _ h => h) (fun _ _ h => h)
  have hk1 : w3.cell? ⟨w2.heap.size, 0, none⟩ = some (.slice a3 (128 * (N / 128)) cap3) := by
    rw [← hw3]; exact (Ext.alloc Nope _ _).cell (block_cell (World.alloc_heap_new w2 _) 0 rfl) (fun h => h)
  have hk2 : w3.cell? ⟨w2.heap.size + 1, 0, none⟩ = some (.int .i64 128) := by
    rw [← hw3]; have := World.alloc_heap_new (w2.alloc (.cells #[.slice a3 (128 * (N / 128)) cap3] 23)) (.cells #[.int .i64 128] 3)
    rw [World.size_alloc] at this; exact block_cell this 0 rfl
  have hz3 : w3.heap.size = w2.heap.size + 2 := by rw [← hw3]; simp
  have hbx5 := hE5.cell hbx4 (fun h => h)
  have HE5 := Lib.hid hE5
  have HZ3 := Lib.hid hz3
  have HK1 := Lib.hid hk1
  have HK2 := Lib.hid hk2
  have HBX := Lib.hid hbx5
  have HNM := Lib.hid hNm
  clear hw3 hE5 hk1 hk2 hz3 hbx4 hbx5 hNm
  -- what stands behind the whole: in w3
  have hst3 : Hid (StB w3 b sz s8 (.slice ar r.length capr) (tk + BitVec.ofNat 64 n)) :=
    HE5.out.heap (HE4.out.heap (HE3.out.heap HST2.out (fun h => h)) (by have := HZ2.out; omega)) (fun h => h)
  have hEb : Hid (Ext (Just b) W w3) := ((HE2.out.trans HE3.out (E := Just b) (fun _ _ h => h) (fun _ _ h => h.elim)).trans HE4.out (E := Just b) (fun _ _ h => h) (fun i hi h => by have := HZ2.out; omega)).trans HE5.out (fun _ _ h => h) (fun _ _ h => h.elim)
  have hcu3 : Hid (Cubes w3) := hcu.out.ext hEb.out (fun e => cubes_ne_st hcu.out HST.out e.symm)
  have hall : Hid (Holds (fun c => c ≠ b ∧ c < w3.heap.size) w3 a3 cap3 (r ++ l)) :=
    ((HH3.out.ext HE5.out (fun _ _ h => h)).mono (fun c hc => ⟨by have := hc.1; have := HZ2.out; omega, by have := hc.2.1; have := HZ3.out; omega⟩))
  have hbz : b < w3.heap.size := by have := HE5.out.size; have := HE4.out.size; have := HE3.out.size; have := HZ2.out; omega
  gi_wp2_with fail
  apply rangeFunc_law (gf := 73) (lb := #[.pointer (some ⟨w2.heap.size, 0, none⟩), .pointer (some ⟨w2.heap.size + 1, 0, none⟩)]) rfl (enters_of Tryd.func73 (by kernel_rfl) rfl) (chunk1_ok 8 w2.heap.size a3 (N / 128) cap3) (fun _ => rfl)
    (fun pre V => StB V b sz (turnsL s8 (r ++ l) pre) (.slice ar r.length capr) (tk + BitVec.ofNat 64 n) ∧ Ext (Just b) w3 V)
    (fun _ _ _ => False)
    (fun pre A B h he => ⟨he.heap h.1 (by omega), h.2.trans he (fun _ _ h => h) (fun i hi h => by omega)⟩)
    (fun _ _ _ _ h _ => h)
    (fun pre V h => ⟨h.2.cell HK1.out (by show ¬ (w2.heap.size = b); have := HE4.out.size; have := HE3.out.size; have := HZ2.out; omega), h.2.cell HK2.out (by show ¬ (w2.heap.size + 1 = b); have := HE4.out.size; have := HE3.out.size; have := HZ2.out; omega), by omega, by omega⟩)
    ⟨hst3.out, Ext.refl _ _⟩
  case hassign =>
    intro l x V K hK
    simp only [chunkV]
    gi_wp2
    exact hK
  case hbody =>
    rintro lp pre x V ⟨hs1, hE⟩ hpre hsz
    have hx : x < N / 128 := List.mem_range.1 (hpre.subset (by simp))
    have hbV := hE.cell HBX.out (by show ¬ (W.heap.size = b); omega)
    have HX1 : Hid (Holds (fun c => c ≠ b ∧ c < w3.heap.size) V (Option.map (fun y => y.add (128 * x)) a3) 128 (((r ++ l).drop (128 * x)).take 128)) := by
      have h1 := (hall.out.ext hE (fun c hc e => hc.1 e)).sliced (lo := 128 * x) (hi := 128 * x + 128) (mx := 128 * x + 128) (by omega) (by rw [HN.out]; omega) (Nat.le_refl _) (by omega)
      rw [if_neg (by omega), Nat.mul_one, List.take_drop.symm, show 128 * x + 128 - 128 * x = 128 by omega] at h1
      exact h1
    have HS1 := Lib.hid hs1
    have HE := Lib.hid hE
    clear hs1 hE hpre
    have HL : Hid ((((r ++ l).drop (128 * x)).take 128).length = 128) := by have := HN.out; simp only [Hid, List.length_take, List.length_drop]; omega
    have HCV : Hid (Cubes V) := hcu3.out.ext HE.out (fun e => cubes_ne_st hcu.out HST.out e.symm)
    gi_wp2_with fail
    refine ⟨trivial, calls_fr (r := some lp) ((turn_any _ b sz (turnsL s8 (r ++ l) pre) _ _ _ 128 128 _ V HS1 HX1 HL (by omega) HCV).mono ?_)⟩
    rintro e V' ⟨rfl, hst', hE'⟩
    have HSV := Lib.hid hst'
    have HEV := Lib.hid hE'
    clear hst' hE'
    gi_wp2_with fail
    exact ⟨HEV.out.mono (fun i _ h => by simp only [Just] at h; omega), by rw [turnsL_snoc]; exact HSV.out, HE.out.trans HEV.out (fun _ _ h => h) (fun _ _ h => h)⟩
  case hstop =>
    intro D c pre V _ _ h
    exact h.elim
  case hdone =>
    rintro D V hD ⟨hs1, hE⟩ hK
    have hbV := hE.cell HBX.out (by show ¬ (W.heap.size = b); omega)
    have HS1 := Lib.hid hs1
    have HE := Lib.hid hE
    have HK := Lib.hid hK
    have hfb := fun x : WG (fun V => V.cell? ⟨W.heap.size, 0, none⟩ = some (.pointer (some ⟨b, 0, none⟩))) => x.h
    have hne : Nonempty (WG (fun V => V.cell? ⟨W.heap.size, 0, none⟩ = some (.pointer (some ⟨b, 0, none⟩)))) := ⟨⟨_, hbV⟩⟩
    have HBV := Lib.hid hbV
    clear hs1 hE hK hbV
    have hlt : N - N % 128 < cap3 ∨ cap3 = N - N % 128 := by omega
    rcases hlt with hlt | hlt
    · skip
      gi_wp2_with fail
      refine wpIn_region_pick (r := none) (fun V => V.cell? ⟨W.heap.size, 0, none⟩ = some (.pointer (some ⟨b, 0, none⟩))) 5 [true, true, true, true] [4, 5, 6, 7] (by kernel_rfl) (by kernel_rfl) HBV.out ?_
      simp only [keep]
      repeat (go_big_quiet_step (fail))
      refine wpQuiet_nil ?_
      rw [fr_none]
      refine wpLeft_step (i := 4) rfl rfl (fun K hK => ?_)
      have HX4 : Hid (Holds (fun c => c ≠ b ∧ c < w3.heap.size) V.drew (Option.map (fun x => x.add (N - N % 128)) a3) (cap3 - (N - N % 128)) ((r ++ l).drop (N - N % 128))) := ((hall.out.ext HE.out (fun c hc e => hc.1 e)).ext (Ext.drew Nope V) (fun _ _ h => h)).from (by rw [HN.out]; omega) hlt
      have HL4 : Hid (((r ++ l).drop (N - N % 128)).length = N - (N - N % 128)) := by simp only [Hid, List.length_drop, HN.out]
      clear hfb
      gi_wp2_with fail
      refine ⟨trivial, calls_fr (r := none) ((clone_any _ _ _ ((r ++ l).drop (N - N % 128)) _ HX4 HL4 (by omega)).mono ?_)⟩
      rintro e w4 ⟨v4, rfl, hown4, hE6⟩
      obtain ⟨_, a5, cap5, rfl, hh5⟩ := owns_shape hown4
      obtain ⟨n5, hn5⟩ : ∃ n5, ((r ++ l).drop (N - N % 128)).length = n5 := ⟨_, rfl⟩
      rw [hn5] at hh5 ⊢
      have HN5 := Lib.hid hn5
      clear hn5 HL4
      have hst6 : StB w4 b sz (turnsL s8 (r ++ l) (List.range (N / 128))) (.slice ar r.length capr) (tk + BitVec.ofNat 64 n) := hE6.heap HS1.out (fun h => h)
      have hfr := block_free hst6
      have c9 := (st_cells hst6).2.2.2.2.2.2.2.2.2.1
      have HE6 := Lib.hid hE6
      have HH5 := Lib.hid hh5
      have HST6 := Lib.hid hst6
      have HBX6 := Lib.hid (hE6.cell HBV.out (fun h => h))
      clear hown4 hh5 hE6 hst6
      dsimp only
      gi_wp2_with fail
      refine ⟨by first | exact fun _ => ⟨⟨w4, HBX6.out⟩, rfl⟩ | exact ⟨⟨w4, HBX6.out⟩, rfl⟩, ?_⟩
      refine wpLeft_tail [5, 6, 7] [_, _, _] rfl rfl ?_
      simp only [List.getElem_toArray, List.getElem_cons_succ, List.getElem_cons_zero]
      gi_wp2_with fail
      rw [noPan_normal]
      gi_wp2_with fail
      have hfin := block_set HST6.out 9 (.slice a5 n5 cap5)
      have hEf : Ext (Just b) V (w4.setCell ⟨b, 9, none⟩ (.slice a5 n5 cap5)) :=
        ((Ext.drew Nope V).trans HE6.out (E := Just b) (fun _ _ h => h.elim) (fun _ _ h => h.elim)).trans (Ext.setCell (D := Just b) _ _ _ rfl) (fun _ _ h => h) (fun _ _ h => h)
      have hDb : D ≠ b := by omega
      have hD2 : D < w4.heap.size := by have := (Array.getElem?_eq_some_iff.1 HK.out).1; have := HE6.out.size; simp at this; omega
      refine leave_one (hEf.heap HK.out hDb) (fun w' => results_none rfl _ _ w') ⟨rfl, ⟨a5, cap5, ?_, ?_⟩, ?_⟩
      · have e1 : turns s8 (r ++ l) = turnsL s8 (r ++ l) (List.range (N / 128)) := by unfold turns; rw [HN.out]
        have e2 : left5 (r ++ l) = (r ++ l).drop (N - N % 128) := by unfold left5; rw [HN.out, HNM.out]
        rw [e1, e2]
        refine (Ext.putObj (D := Just D) _ D _ rfl).heap ?_ (fun h => hDb h.symm)
        rw [HN5.out, hfin]; simp [stCells]
      · have e2 : left5 (r ++ l) = (r ++ l).drop (N - N % 128) := by unfold left5; rw [HN.out, HNM.out]
        rw [e2]
        refine (((HH5.out.ext (Ext.setCell (D := Just b) w4 ⟨b, 9, none⟩ (.slice a5 n5 cap5) rfl) (fun c hc e => ?_)).ext (Ext.putObj (D := Just D) _ D (.deferred none) rfl) (fun c hc e => ?_))).mono (fun c hc => ?_)
        · have h1 := hc.1; have h2 : c = b := e; have := HE.out.size; simp at h1; omega
        · have h1 := hc.1; have h2 : c = D := e; have := (Array.getElem?_eq_some_iff.1 HK.out).1; simp at h1; omega
        · exact ⟨by have h1 := hc.1; have := HE.out.size; have := hEb.out.size; simp at h1; omega, by have := hc.2.1; simpa [World.setCell] using this⟩
      · exact ((hEb.out.trans HE.out (fun _ _ h => h) (fun _ _ h => h)).trans hEf (fun _ _ h => h) (fun _ _ h => h)).trans (Ext.putObj (D := Just D) _ D _ rfl) (fun _ _ h => h) (fun i hi h => by have h2 : i = D := h; have := hEb.out.size; omega)
    · have hcN := Lib.hid hlt
      clear hlt
      gi_wp2_with fail
      refine wpIn_region_pick (r := none) (fun V => V.cell? ⟨W.heap.size, 0, none⟩ = some (.pointer (some ⟨b, 0, none⟩))) 5 [true, true, true, true] [4, 5, 6, 7] (by kernel_rfl) (by kernel_rfl) HBV.out ?_
      simp only [keep]
      repeat (go_big_quiet_step (fail))
      refine wpQuiet_nil ?_
      rw [fr_none]
      refine wpLeft_step (i := 4) rfl rfl (fun K hK => ?_)
      have HX4 : Hid (Holds (fun c => c ≠ b ∧ c < w3.heap.size) V.drew a3 0 ((r ++ l).drop (N - N % 128))) := ((hall.out.ext HE.out (fun c hc e => hc.1 e)).ext (Ext.drew Nope V) (fun _ _ h => h)).none_left (by rw [HN.out]; have := hcN.out; omega)
      have HL4 : Hid (((r ++ l).drop (N - N % 128)).length = N - (N - N % 128)) := by simp only [Hid, List.length_drop, HN.out]
      clear hfb
      gi_wp2_with fail
      refine ⟨trivial, calls_fr (r := none) ((clone_any _ _ _ ((r ++ l).drop (N - N % 128)) _ HX4 HL4 (by omega)).mono ?_)⟩
      rintro e w4 ⟨v4, rfl, hown4, hE6⟩
      obtain ⟨_, a5, cap5, rfl, hh5⟩ := owns_shape hown4
      obtain ⟨n5, hn5⟩ : ∃ n5, ((r ++ l).drop (N - N % 128)).length = n5 := ⟨_, rfl⟩
      rw [hn5] at hh5 ⊢
      have HN5 := Lib.hid hn5
      clear hn5 HL4
      have hst6 : StB w4 b sz (turnsL s8 (r ++ l) (List.range (N / 128))) (.slice ar r.length capr) (tk + BitVec.ofNat 64 n) := hE6.heap HS1.out (fun h => h)
      have hfr := block_free hst6
      have c9 := (st_cells hst6).2.2.2.2.2.2.2.2.2.1
      have HE6 := Lib.hid hE6
      have HH5 := Lib.hid hh5
      have HST6 := Lib.hid hst6
      have HBX6 := Lib.hid (hE6.cell HBV.out (fun h => h))
      clear hown4 hh5 hE6 hst6
      dsimp only
      gi_wp2_with fail
      refine ⟨by first | exact fun _ => ⟨⟨w4, HBX6.out⟩, rfl⟩ | exact ⟨⟨w4, HBX6.out⟩, rfl⟩, ?_⟩
      refine wpLeft_tail [5, 6, 7] [_, _, _] rfl rfl ?_
      simp only [List.getElem_toArray, List.getElem_cons_succ, List.getElem_cons_zero]
      gi_wp2_with fail
      rw [noPan_normal]
      gi_wp2_with fail
      have hfin := block_set HST6.out 9 (.slice a5 n5 cap5)
      have hEf : Ext (Just b) V (w4.setCell ⟨b, 9, none⟩ (.slice a5 n5 cap5)) :=
        ((Ext.drew Nope V).trans HE6.out (E := Just b) (fun _ _ h => h.elim) (fun _ _ h => h.elim)).trans (Ext.setCell (D := Just b) _ _ _ rfl) (fun _ _ h => h) (fun _ _ h => h)
      have hDb : D ≠ b := by omega
      have hD2 : D < w4.heap.size := by have := (Array.getElem?_eq_some_iff.1 HK.out).1; have := HE6.out.size; simp at this; omega
      refine leave_one (hEf.heap HK.out hDb) (fun w' => results_none rfl _ _ w') ⟨rfl, ⟨a5, cap5, ?_, ?_⟩, ?_⟩
      · have e1 : turns s8 (r ++ l) = turnsL s8 (r ++ l) (List.range (N / 128)) := by unfold turns; rw [HN.out]
        have e2 : left5 (r ++ l) = (r ++ l).drop (N - N % 128) := by unfold left5; rw [HN.out, HNM.out]
        rw [e1, e2]
        refine (Ext.putObj (D := Just D) _ D _ rfl).heap ?_ (fun h => hDb h.symm)
        rw [HN5.out, hfin]; simp [stCells]
      · have e2 : left5 (r ++ l) = (r ++ l).drop (N - N % 128) := by unfold left5; rw [HN.out, HNM.out]
        rw [e2]
        refine (((HH5.out.ext (Ext.setCell (D := Just b) w4 ⟨b, 9, none⟩ (.slice a5 n5 cap5) rfl) (fun c hc e => ?_)).ext (Ext.putObj (D := Just D) _ D (.deferred none) rfl) (fun c hc e => ?_))).mono (fun c hc => ?_)
        · have h1 := hc.1; have h2 : c = b := e; have := HE.out.size; simp at h1; omega
        · have h1 := hc.1; have h2 : c = D := e; have := (Array.getElem?_eq_some_iff.1 HK.out).1; simp at h1; omega
        · exact ⟨by have h1 := hc.1; have := HE.out.size; have := hEb.out.size; simp at h1; omega, by have := hc.2.1; simpa [World.setCell] using this⟩
      · exact ((hEb.out.trans HE.out (fun _ _ h => h) (fun _ _ h => h)).trans hEf (fun _ _ h => h) (fun _ _ h => h)).trans (Ext.putObj (D := Just D) _ D _ rfl) (fun _ _ h => h) (fun i hi h => by have h2 : i = D := h; have := hEb.out.size; omega)
theorem write_any {p : Nat → Prop} (b : Nat) (sz : Int) (s8 : H8) (r l : List (BitVec 8)) (tk : BitVec 64) (a : Option Addr) (n cap : Nat) (W : World) (hs : Hid (IsSt W b sz s8 r tk)) (hz : (sz == 0) = false)
    (hh : Hid (Holds p W a cap l)) (hn : Hid (l.length = n)) (hb : r.length + n ≤ 1000000000000) (hcu : Hid (Cubes W)) :
    Calls Tryd.prog 37 #[.pointer (some ⟨b, 0, none⟩), .slice a n cap] W (WritePost W b sz s8 (r ++ l) (tk + BitVec.ofNat 64 n)) :=
  (write_new b sz s8 r l tk a n cap W hs hz hh hn hb hcu).mono fun _ _ h => ⟨h.1, h.2.1.st, h.2.2⟩
end Go.Proofs.YtjfcldjepgijeaaDoor
