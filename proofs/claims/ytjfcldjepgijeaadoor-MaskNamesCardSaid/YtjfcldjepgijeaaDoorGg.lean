/- sha256 takes bytes. -/
import Derived.Test.YtjfcldjepgijeaaDoorGf
import Derived.Test.YtjfcldjepgijeaaDoorGd
import Derived.Test.YtjfcldjepgijeaaDoorGe
namespace Go.Proofs.YtjfcldjepgijeaaDoor
open Go.RowKit Go.Shelf
attribute [local go_sem] Oper.semAt_some

theorem u64_addn6 (x : BitVec 64) (n : Nat) : IntKind.u64.wrap (wd x + (n : Int)) = wd (x + BitVec.ofNat 64 n) := by
  rw [wrap64_wd, BitVec.ofInt_add, ofInt_wd, BitVec.ofInt_natCast]
theorem range_pre {pre : List Nat} {x q : Nat} (h : pre ++ [x] <+: List.range q) : x = pre.length ∧ x < q := by
  obtain ⟨t, ht⟩ := h
  have h1 := congrArg (fun l => l[pre.length]?) ht
  simp only [List.append_assoc, List.getElem?_append_right (Nat.le_refl _), Nat.sub_self] at h1
  have hl := congrArg List.length ht
  simp at hl
  rw [List.getElem?_range (by omega)] at h1
  simp at h1
  exact ⟨h1, by omega⟩
theorem holds_cur {p : Nat → Prop} {V : World} {a : Option Addr} {n cap : Nat} {l : List (BitVec 8)} (h : Holds p V a cap l) (hn : l.length = n) {t : Nat} (ht : 64 * t ≤ n) : Holds p V (curA a cap t) (cap - 64 * t) (l.drop (64 * t)) := by
  by_cases h0 : t = 0
  · subst h0; rw [curA_zero]; simpa using h
  · by_cases h1 : 64 * t < cap
    · rw [curA_lt h1]; exact h.from (by omega) h1
    · have hc : cap = 64 * t := by have := h.len; omega
      unfold curA
      rw [if_pos ⟨hc, h0⟩, show cap - 64 * t = 0 by omega]
      have h2 := h.from (lo := 64 * (t - 1)) (by omega) (by omega)
      have hll := h.len
      have h3 := h2.none_left (lo := l.length) (by simp)
      rw [List.drop_drop, List.drop_eq_nil_of_le (by omega)] at h3
      rw [List.drop_eq_nil_of_le (by omega)]
      exact h3

def WriteGPost (W : World) (b : Nat) (sz : Int) (h : G8) (all : List (BitVec 8)) (tk : BitVec 64) (e : Ending) (W' : World) : Prop :=
  e = .returned (.tuple #[]) ∧ IsGN W' W.heap.size b sz (turnsG h all) (left6 all) tk ∧ Ext (Just b) W W'

set_option maxHeartbeats 2000000 in
set_option maxRecDepth 100000 in
theorem writeg_new {p : Nat → Prop} (b : Nat) (sz : Int) (s8 : G8) (r l : List (BitVec 8)) (tk : BitVec 64) (a : Option Addr) (n cap : Nat) (W : World) (hs : Hid (IsG W b sz s8 r tk)) (hz : (sz == 0) = false)
    (hh : Hid (Holds p W a cap l)) (hn : Hid (l.length = n)) (hb : r.length + n ≤ 1000000000) (hcu : Hid (Kubes W)) :
    Calls Tryd.prog 34 #[.pointer (some ⟨b, 0, none⟩), .slice a n cap] W (WriteGPost W b sz s8 (r ++ l) (tk + BitVec.ofNat 64 n)) := by
  obtain ⟨ar, capr, hst, hhr⟩ := hs.out
  have hbW := hs.out.lt
  have HST := Lib.hid hst
  have HHR := Lib.hid hhr
  clear hst hhr
  have ha := u64_addn6
  refine (callsIn_wide (n := 9)).1 (callsIn_of_wp_marks Tryd.func34 rfl trivial ?_ rfl)
  simp only [Tryd.ntmps34, List.size_toArray, List.length_cons, List.length_nil, Nat.reduceAdd, Nat.reduceSub, Array.replicate_succ, Array.replicate_zero, List.push_toArray, List.append_toArray, List.nil_append, List.cons_append]
  gi_wp2_with fail
  have HN := hn.out
  obtain ⟨W0, hW0⟩ : ∃ W0, W.alloc (.cells #[.pointer (some ⟨b, 0, none⟩)] 66) = W0 := ⟨_, rfl⟩
  have hst0 : StG W0 b sz s8 (.slice ar r.length capr) tk := by rw [← hW0]; exact (Ext.alloc Nope W _).heap HST.out (fun h => h)
  have hbx : W0.cell? ⟨W.heap.size, 0, none⟩ = some (.pointer (some ⟨b, 0, none⟩)) := by rw [← hW0]; exact block_cell (World.alloc_heap_new W _) 0 rfl
  have hE0 : Ext Nope W W0 := by rw [← hW0]; exact Ext.alloc _ _ _
  have hz0 : W0.heap.size = W.heap.size + 1 := by rw [← hW0]; simp
  rw [hW0]
  clear hW0
  have c0 := (stg_cells hst0).1
  have c10 := (stg_cells hst0).2.2.2.2.2.2.2.2.2.2
  have hfr := block_free hst0
  have HST0 := Lib.hid hst0
  have HE0 := Lib.hid hE0
  have HZ0 := Lib.hid hz0
  have HBX0 := Lib.hid hbx
  clear hst0 hE0 hz0 HN
  refine ⟨trivial, calls_fr (r := none) ((noneg_some b 0 sz _ c0 hz).mono ?_)⟩
  rintro e w' ⟨rfl, rfl⟩
  obtain ⟨W2, hW2⟩ : ∃ W2, W0.setCell ⟨b, 10, none⟩ (.int .u64 (wd (tk + BitVec.ofNat 64 n))) = W2 := ⟨_, rfl⟩
  have hst2 : StG W2 b sz s8 (.slice ar r.length capr) (tk + BitVec.ofNat 64 n) := by
    rw [← hW2]; have := block_set HST0.out 10 (.int .u64 (wd (tk + BitVec.ofNat 64 n))); unfold StG; rw [this]; simp [stgCells]
  have hE2 : Ext (Just b) W W2 := by rw [← hW2]; exact (HE0.out.trans (Ext.setCell (D := Just b) _ _ _ rfl) (fun _ _ h => h.elim) (fun _ _ h => h))
  have hbx2 : W2.cell? ⟨W.heap.size, 0, none⟩ = some (.pointer (some ⟨b, 0, none⟩)) := by rw [← hW2]; exact cell_other _ _ _ hbx (by show W.heap.size ≠ b; omega)
  have hz2 : W2.heap.size = W.heap.size + 1 := by rw [← hW2, ← HZ0.out]; simp [World.setCell]
  have hc9 := (stg_cells hst2).2.2.2.2.2.2.2.2.2.1
  obtain ⟨W3, hW3⟩ : ∃ W3, W2.alloc (.cells #[.slice ar r.length capr, .slice a n cap] 23) = W3 := ⟨_, rfl⟩
  have hE3 : Ext Nope W2 W3 := by rw [← hW3]; exact Ext.alloc _ _ _
  have hz3 : W3.heap.size = W2.heap.size + 1 := by rw [← hW3]; simp
  have hnew3 : W3.heap[W2.heap.size]? = some (.cells #[.slice ar r.length capr, .slice a n cap] 23 (0, 0)) := by rw [← hW3]; exact World.alloc_heap_new W2 _
  have HST2 := Lib.hid hst2
  have HE2 := Lib.hid hE2
  have HZ2 := Lib.hid hz2
  have HE3 := Lib.hid hE3
  have HZ3 := Lib.hid hz3
  have HNEW := Lib.hid hnew3
  have HX : Hid (Holds (fun _ => True) W3 ar capr r) := (((holds_ne_stg HHR.out HST.out).ext HE2.out (fun c hc e => hc.2 e)).ext hE3 (fun _ _ h => h)).mono (fun _ _ => trivial)
  have HY : Hid (Holds (fun _ => True) W3 a cap l) := (((holds_ne_stg hh.out HST.out).ext HE2.out (fun c hc e => hc.2 e)).ext hE3 (fun _ _ h => h)).mono (fun _ _ => trivial)
  have HBX3 := Lib.hid (hE3.cell hbx2 (fun h => h))
  clear hst2 hE2 hz2 hE3 hz3 hnew3
  gi_wp2_with fail
  have HLS : Hid (∀ (i : Nat) (li : List (BitVec 8)), [r, l][i]? = some li → ∃ ai ci, W3.cell? ⟨W2.heap.size, i, none⟩ = some (.slice ai li.length ci) ∧ Holds (fun _ => True) W3 ai ci li) := fun i li hi => by
    match i, hi with
    | 0, hi => simp at hi; subst hi; exact ⟨ar, capr, block_cell HNEW.out 0 rfl, HX.out⟩
    | 1, hi => simp at hi; subst hi; exact ⟨a, cap, by have := block_cell HNEW.out 1 rfl; rw [hn.out]; exact this, HY.out⟩
    | i + 2, hi => simp at hi
  refine ⟨trivial, calls_fr (r := none) ((concat_any W2.heap.size 2 [r, l] W3 rfl (by omega) HLS (by have := hn.out; simp; omega)).mono ?_)⟩
  rintro e w4 ⟨v4, rfl, hown4, hE4⟩
  have hfl : [r, l].flatten = r ++ l := by simp
  rw [hfl] at hown4
  obtain ⟨_, a3, cap3, rfl, hh3⟩ := owns_shape hown4
  obtain ⟨N, hN⟩ : ∃ N, (r ++ l).length = N := ⟨_, rfl⟩
  rw [hN] at hh3 ⊢
  have hNb : N ≤ 1000000000 := by rw [← hN, List.length_append]; have := hn.out; omega
  have hcap : N ≤ cap3 := by have := hh3.len; omega
  have hbx4 := hE4.cell HBX3.out (fun h => h)
  have hst4 : StG w4 b sz s8 (.slice ar r.length capr) (tk + BitVec.ofNat 64 n) := hE4.heap (HE3.out.heap HST2.out (fun h => h)) (fun h => h)
  have hfr4 := block_free hst4
  have hc94 := (stg_cells hst4).2.2.2.2.2.2.2.2.2.1
  obtain ⟨W5, hW5⟩ : ∃ W5, w4.setCell ⟨b, 9, none⟩ (.slice a3 N cap3) = W5 := ⟨_, rfl⟩
  have hst5 : StG W5 b sz s8 (.slice a3 N cap3) (tk + BitVec.ofNat 64 n) := by
    rw [← hW5]; have := block_set hst4 9 (.slice a3 N cap3); unfold StG; rw [this]; simp [stgCells]
  have hE5 : Ext (Just b) w4 W5 := by rw [← hW5]; exact Ext.setCell _ _ _ rfl
  have hz5 : W5.heap.size = w4.heap.size := by rw [← hW5]; simp [World.setCell]
  have hbx5 := hE5.cell hbx4 (by show ¬ (W.heap.size = b); omega)
  have HN := Lib.hid hN
  have HH3 : Hid (Holds (fun c => c ≠ b ∧ W.heap.size ≤ c ∧ c < W5.heap.size) W5 a3 cap3 (r ++ l)) := (hh3.ext hE5 (fun c hc e => by have h1 := hc.1; have h2 : c = b := e; have := HZ2.out; have := HZ3.out; omega)).mono (fun c hc => by have h1 := hc.1; have h2 := hc.2.1; have := HZ2.out; have := HZ3.out; omega)
  have HST5 := Lib.hid hst5
  have HEb : Hid (Ext (Just b) W W5) := ((HE2.out.trans HE3.out (E := Just b) (fun _ _ h => h) (fun _ _ h => h.elim)).trans hE4 (E := Just b) (fun _ _ h => h) (fun _ _ h => h.elim)).trans hE5 (fun _ _ h => h) (fun _ _ h => h)
  have hbz : b < W5.heap.size := (Array.getElem?_eq_some_iff.1 hst5).1
  have HBX5 := Lib.hid hbx5
  have HWZ : Hid (W.heap.size < W5.heap.size) := World.block_lt_of_cell? W5 _ hbx5
  clear hown4 hh3 hN hst4 hst5 hE5 hz5 hE4
  gi_wp2_with fail
  refine ⟨trivial, calls_fr (r := none) ((blocks_any a3 N cap3 W5).mono ?_)⟩
  rintro e W6 ⟨rfl, hW6⟩
  have hx6 : Ext Nope W5 W6 := by rw [← hW6]; exact Ext.alloc _ _ _
  have hB6 : W6.heap[W5.heap.size]? = some (.cells #[.slice a3 N cap3] 23 (0, 0)) := by rw [← hW6]; exact World.alloc_heap_new W5 _
  have hz6 : W6.heap.size = W5.heap.size + 1 := by rw [← hW6]; simp
  obtain ⟨Bx, hBx⟩ : ∃ Bx, W5.heap.size = Bx := ⟨_, rfl⟩
  rw [hBx] at hB6 hz6 hbz HWZ HH3 ⊢
  have HX6 := Lib.hid hx6
  have HB6 := Lib.hid hB6
  have HZ6 := Lib.hid hz6
  have hst6 : Hid (StG W6 b sz s8 (curS a3 N cap3 0) (tk + BitVec.ofNat 64 n)) := by
    have := hx6.heap HST5.out (fun h => h)
    unfold curS; rw [curA_zero]; exact this
  have HH6 : Hid (Holds (fun c => c ≠ b ∧ W.heap.size ≤ c ∧ c < Bx) W6 a3 cap3 (r ++ l)) := HH3.out.ext hx6 (fun _ _ h => h)
  have hcu6 : Hid (Kubes W6) := (hcu.out.ext HEb.out (fun e => kubes_ne_st hcu.out HST.out e.symm)).ext hx6 (fun h => h)
  have hcuB : Hid (4 < Bx) := by
    have h2 := World.block_lt_of_cell? W _ (hcu.out 0 (by omega))
    have h4 : 4 < W.heap.size := h2
    unfold Hid; have := HWZ.out; omega
  have hbx6 : Hid (W6.cell? ⟨W.heap.size, 0, none⟩ = some (.pointer (some ⟨b, 0, none⟩))) := hx6.cell HBX5.out (fun h => h)
  have hcm : cap3 ≤ maxLen := HH6.out.max
  clear hW6 hx6 hB6 hz6 hbx hbx2 hbx4 hbx5
  gi_wp2_with fail
  apply rangeFunc_lawS (fun c => c = Bx) (gf := 69) (lb := #[.pointer (some ⟨Bx, 0, none⟩)]) rfl (enters_of Tryd.func69 (by kernel_rfl) rfl) (fun k hk => by have := HZ6.out; omega)
    (blocks1_ok 8 Bx a3 N cap3 (N / 64) hcap rfl (by omega) hcm) (fun _ => rfl)
    (fun pre V => StG V b sz (turnsGL s8 (r ++ l) pre) (curS a3 N cap3 pre.length) (tk + BitVec.ofNat 64 n) ∧ Ext (fun c => c = b ∨ Bx ≤ c) W6 V)
    (fun _ _ _ => False)
    (fun pre A B h he => ⟨he.heap h.1 (by have := HZ6.out; omega), h.2.trans he (fun _ _ h => h) (fun i hi h => by have := HZ6.out; omega)⟩)
    (fun _ _ _ _ h _ => h)
    (fun pre V h => trivial)
    (fun V hV => hV.heap HB6.out (by have := HZ6.out; omega))
    ⟨hst6.out, Ext.refl _ _⟩
  case hassign =>
    intro l x V K hK
    simp only [blockV, curS]
    gi_wp2
    exact hK
  case hbody =>
    rintro lp pre x V ⟨hs1, hE⟩ hpre hsz
    obtain ⟨hx, hx2⟩ := range_pre hpre
    subst hx
    have hbV := hE.cell hbx6.out (by show ¬ (W.heap.size = b ∨ Bx ≤ W.heap.size); have := HWZ.out; omega)
    have HX1 : Hid (Holds (fun c => c ≠ b ∧ W.heap.size ≤ c ∧ c < Bx) V (curA a3 cap3 pre.length) (cap3 - 64 * pre.length) (((r ++ l).drop (64 * pre.length)).take 64)) := by
      have h1 := holds_cur (HH6.out.ext hE (fun c hc e => by have h1 : c = b ∨ Bx ≤ c := e; omega)) HN.out (t := pre.length) (by omega)
      exact h1.upto (by rw [List.length_drop, HN.out]; omega)
    have HS1 := Lib.hid hs1
    have HE := Lib.hid hE
    clear hs1 hE hpre
    have HL : Hid ((((r ++ l).drop (64 * pre.length)).take 64).length = 64) := by have := HN.out; simp only [Hid, List.length_take, List.length_drop]; omega
    have HCV : Hid (Kubes V) := hcu6.out.ext HE.out (fun e => by
      have h1 : 4 = b ∨ Bx ≤ 4 := e
      have h2 := kubes_ne_st hcu.out HST.out
      have h3 := hcuB.out
      omega)
    have HBV := Lib.hid hbV
    gi_wp2_with fail
    refine ⟨trivial, calls_fr (r := some lp) ((turng_any b sz (turnsGL s8 (r ++ l) pre) _ _ _ _ _ V HS1 HX1 HL HCV).mono ?_)⟩
    rintro e V' ⟨rfl, hst', hE'⟩
    have hbV' := hE'.cell HBV.out (by show ¬ (W.heap.size = b); omega)
    have hfrV := block_free hst'
    have hc9V := (stg_cells hst').2.2.2.2.2.2.2.2.2.1
    have HSV := Lib.hid hst'
    have HEV := Lib.hid hE'
    clear hst' hE' hbV
    gi_wp2_with fail
    have hset : StG (V'.setCell ⟨b, 9, none⟩ (curS a3 N cap3 (pre.length + 1))) b sz (turnG (turnsGL s8 (r ++ l) pre) (((r ++ l).drop (64 * pre.length)).take 64)) (curS a3 N cap3 (pre.length + 1)) (tk + BitVec.ofNat 64 n) := by
      have := block_set HSV.out 9 (curS a3 N cap3 (pre.length + 1)); unfold StG; rw [this]; simp [stgCells]
    have hx7 : Ext (Just b) V (V'.setCell ⟨b, 9, none⟩ (curS a3 N cap3 (pre.length + 1))) := HEV.out.trans (Ext.setCell (D := Just b) V' ⟨b, 9, none⟩ _ rfl) (fun _ _ h => h) (fun _ _ h => h)
    refine ⟨hx7.mono (fun i _ h => by have h2 : i = b := h; have := HZ6.out; omega), ?_, HE.out.trans hx7 (fun _ _ h => h) (fun i _ h => .inl h)⟩
    rw [turnsGL_snoc, List.length_append]
    exact hset
  case hstop =>
    intro D c pre V _ _ h
    exact h.elim
  case hdone =>
    rintro D V hD ⟨hs1, hE⟩ hK
    rw [List.length_range] at hs1
    have hbV := hE.cell hbx6.out (by show ¬ (W.heap.size = b ∨ Bx ≤ W.heap.size); have := HWZ.out; omega)
    have HS1 := Lib.hid hs1
    have HE := Lib.hid hE
    have HK := Lib.hid hK
    unfold curS at hs1
    obtain ⟨A7, hA7⟩ : ∃ A7, curA a3 cap3 (N / 64) = A7 := ⟨_, rfl⟩
    obtain ⟨m7, hm7⟩ : ∃ m7, N - 64 * (N / 64) = m7 := ⟨_, rfl⟩
    obtain ⟨c7, hc7⟩ : ∃ c7, cap3 - 64 * (N / 64) = c7 := ⟨_, rfl⟩
    have HH7 : Hid (Holds (fun c => c ≠ b ∧ W.heap.size ≤ c ∧ c < Bx) V A7 c7 (left6 (r ++ l))) := by
      have h1 := holds_cur (HH6.out.ext hE (fun c hc e => by have h1 : c = b ∨ Bx ≤ c := e; omega)) HN.out (t := N / 64) (by omega)
      rw [hA7, hc7] at h1
      unfold left6; rw [HN.out]; exact h1
    have HM7 : Hid ((left6 (r ++ l)).length = m7) := by unfold Hid; rw [left6_length, HN.out]; omega
    have hm7b : m7 ≤ 64 := by omega
    rw [hA7, hm7, hc7] at hs1
    have HS7 := Lib.hid hs1
    have hne : Nonempty (WG (fun V' => V'.cell? ⟨W.heap.size, 0, none⟩ = some (.pointer (some ⟨b, 0, none⟩)) ∧ V'.cell? ⟨b, 9, none⟩ = some (.slice A7 m7 c7))) := ⟨⟨V, hbV, (stg_cells hs1).2.2.2.2.2.2.2.2.2.1⟩⟩
    have hfa := fun x : WG (fun V' => V'.cell? ⟨W.heap.size, 0, none⟩ = some (.pointer (some ⟨b, 0, none⟩)) ∧ V'.cell? ⟨b, 9, none⟩ = some (.slice A7 m7 c7)) => x.h.1
    have hfb := fun x : WG (fun V' => V'.cell? ⟨W.heap.size, 0, none⟩ = some (.pointer (some ⟨b, 0, none⟩)) ∧ V'.cell? ⟨b, 9, none⟩ = some (.slice A7 m7 c7)) => x.h.2
    have HBV := Lib.hid hbV
    clear hs1 hE hK hbV hA7 hm7 hc7
    gi_wp2_with fail
    refine wpIn_region_pick (r := none) (fun V' => V'.cell? ⟨W.heap.size, 0, none⟩ = some (.pointer (some ⟨b, 0, none⟩)) ∧ V'.cell? ⟨b, 9, none⟩ = some (.slice A7 m7 c7)) 6 [true, true, true, true, true] [5, 6, 7, 8] (by kernel_rfl) (by kernel_rfl) ⟨HBV.out, (stg_cells HS7.out).2.2.2.2.2.2.2.2.2.1⟩ ?_
    simp only [keep]
    repeat (go_big_quiet_step (fail))
    refine wpQuiet_nil ?_
    rw [fr_none]
    refine wpLeft_step (i := 5) rfl rfl (fun K hK => ?_)
    have HX7 : Hid (Holds (fun c => c ≠ b ∧ W.heap.size ≤ c ∧ c < Bx) V.drew A7 c7 (left6 (r ++ l))) := HH7.out.ext (Ext.drew Nope V) (fun _ _ h => h)
    clear hfa hfb
    gi_wp2_with fail
    refine ⟨trivial, calls_fr (r := none) ((clone_any _ _ _ (left6 (r ++ l)) _ HX7 HM7 (by omega)).mono ?_)⟩
    rintro e w7 ⟨v7, rfl, hown7, hE7⟩
    obtain ⟨_, a8, cap8, rfl, hh8⟩ := owns_shape hown7
    have hst8 : StG w7 b sz (turnsGL s8 (r ++ l) (List.range (N / 64))) (.slice A7 m7 c7) (tk + BitVec.ofNat 64 n) := hE7.heap HS7.out (fun h => h)
    have hfr8 := block_free hst8
    have hc98 := (stg_cells hst8).2.2.2.2.2.2.2.2.2.1
    have HE7 := Lib.hid hE7
    have HH8 := Lib.hid hh8
    have HST8 := Lib.hid hst8
    have HBX8 := Lib.hid (hE7.cell HBV.out (fun h => h))
    obtain ⟨n8, hn8⟩ : ∃ n8, (left6 (r ++ l)).length = n8 := ⟨_, rfl⟩
    rw [hn8]
    have HN8 := Lib.hid hn8
    clear hown7 hh8 hE7 hst8 hn8
    dsimp only
    gi_wp2_with fail
    refine ⟨⟨⟨w7, HBX8.out, hc98⟩, rfl⟩, ?_⟩
    refine wpLeft_tail [6, 7, 8] [_, _, _] rfl rfl ?_
    simp only [List.getElem_toArray, List.getElem_cons_succ, List.getElem_cons_zero]
    gi_wp2_with fail
    rw [noPan_normal]
    gi_wp2_with fail
    have hfin : StG (w7.setCell ⟨b, 9, none⟩ (.slice a8 n8 cap8)) b sz (turnsGL s8 (r ++ l) (List.range (N / 64))) (.slice a8 n8 cap8) (tk + BitVec.ofNat 64 n) := by
      have := block_set HST8.out 9 (.slice a8 n8 cap8); unfold StG; rw [this]; simp [stgCells]
    have hEf : Ext (Just b) V (w7.setCell ⟨b, 9, none⟩ (.slice a8 n8 cap8)) :=
      ((Ext.drew Nope V).trans HE7.out (E := Just b) (fun _ _ h => h.elim) (fun _ _ h => h.elim)).trans (Ext.setCell (D := Just b) _ _ _ rfl) (fun _ _ h => h) (fun _ _ h => h)
    have hDb : D ≠ b := by have := HZ6.out; omega
    have hD2 : D < w7.heap.size := by have := (Array.getElem?_eq_some_iff.1 HK.out).1; have := HE7.out.size; simp at this; omega
    have hVs : Bx < V.heap.size := by have := HE.out.size; have := HZ6.out; omega
    refine leave_one (hEf.heap HK.out hDb) (fun w' => results_none rfl _ _ w') ⟨rfl, ⟨a8, cap8, ?_, ?_⟩, ?_⟩
    · have e1 : turnsG s8 (r ++ l) = turnsGL s8 (r ++ l) (List.range (N / 64)) := by unfold turnsG; rw [HN.out]
      rw [e1, HN8.out]
      exact (Ext.putObj (D := Just D) _ D _ rfl).heap hfin (fun h => hDb h.symm)
    · refine (((HH8.out.ext (Ext.setCell (D := Just b) w7 ⟨b, 9, none⟩ (.slice a8 n8 cap8) rfl) (fun c hc e => ?_)).ext (Ext.putObj (D := Just D) _ D (.deferred none) rfl) (fun c hc e => ?_))).mono (fun c hc => ?_)
      · have h1 := hc.1; have h2 : c = b := e; simp at h1; omega
      · have h1 := hc.1; have h2 : c = D := e; have := (Array.getElem?_eq_some_iff.1 HK.out).1; simp at h1; omega
      · exact ⟨by have h1 := hc.1; have := HWZ.out; simp at h1; omega, by have := hc.2.1; simpa [World.setCell] using this⟩
    · have e2 : Ext (Just b) W V := (HEb.out.trans HX6.out (E := Just b) (fun _ _ h => h) (fun _ _ h => h.elim)).trans HE.out (fun _ _ h => h) (fun i hi h => by
        have h1 : i = b ∨ Bx ≤ i := h
        have := HWZ.out
        rcases h1 with h1 | h1
        · exact h1
        · omega)
      exact (e2.trans hEf (fun _ _ h => h) (fun _ _ h => h)).trans (Ext.putObj (D := Just D) _ D _ rfl) (fun _ _ h => h) (fun i hi h => by
        have h2 : i = D := h
        have := HWZ.out; have := HZ6.out
        omega)
end Go.Proofs.YtjfcldjepgijeaaDoor
