/- Sha512Copies. -/
import Derived.Test.YtcjcnpjedmpghaaDoorLb
namespace Go.Proofs.YtcjcnpjedmpghaaDoor
open Go.RowKit Go.Shelf

theorem fed_copy (b : Nat) (long : Bool) (x : List (BitVec 8)) (W : World) (hs : Hid (Fed W b long x)) :
    Calls Tryd.prog 16 #[.pointer (some ⟨b, 0, none⟩)] W fun e W' => ∃ b', e = .returned (.pointer (some ⟨b', 0, none⟩)) ∧ W.heap.size ≤ b' ∧ Fed W' b' long x ∧ Ext Nope W W' := by
  refine (copy_any b _ _ _ _ W hs (szOf_ne long) (by rw [left5_length]; omega)).mono ?_
  rintro e W' ⟨b', rfl, hb, hs', hx⟩
  exact ⟨b', rfl, hb, hs', hx⟩

theorem owns_lit0 (W : World) : (W.alloc (.cells #[] 5)).ownsRow W.heap.size 5 1 (.slice (some ⟨W.heap.size, 0, none⟩) 0 0) 0 (bv []) :=
  ⟨rfl, .inr ⟨_, 0, #[], rfl, Nat.le_refl _, World.alloc_heap_new W _, Nat.le_refl _, Nat.zero_le _, rfl, rfl⟩⟩

set_option maxRecDepth 100000 in
set_option maxHeartbeats 4000000 in
theorem copies_law {p : Nat → Prop} (long : Bool) (a : Option Addr) (n cap : Nat) (l : List (BitVec 8)) (a1 : Option Addr) (n1 cap1 : Nat) (l1 : List (BitVec 8)) (a2 : Option Addr) (n2 cap2 : Nat) (l2 : List (BitVec 8)) (W : World)
    (hq : Hid (Squares W)) (hcu : Hid (Cubes W)) (hh : Hid (Holds p W a cap l)) (hn : Hid (l.length = n)) (hh1 : Hid (Holds p W a1 cap1 l1)) (hn1 : Hid (l1.length = n1)) (hh2 : Hid (Holds p W a2 cap2 l2)) (hn2 : Hid (l2.length = n2)) :
    Calls Tryd.prog 6 #[.bool long, .slice a n cap, .slice a1 n1 cap1, .slice a2 n2 cap2] W (TrueOf W) := by
  obtain ⟨i, hi, hzi, hszi, hby⟩ := info_parts Tryd.infoB
  go_enter Tryd.func6, Tryd.ntmps6
  go_wp2_with fail
  refine (alive_any W hq hcu).mono ?_
  rintro e w1 ⟨rfl, hx1⟩
  have HX1 := Lib.hid hx1
  have HQ1 : Hid (Squares w1) := hq.out.ext hx1 (fun h => h)
  have HC1 : Hid (Cubes w1) := hcu.out.ext hx1 (fun h => h)
  have HH1 : Hid (Holds p w1 a cap l) := hh.out.ext hx1 (fun _ _ h => h)
  clear hx1
  by_cases hbig : n ≤ 1000 ∧ n1 ≤ 1000 ∧ n2 ≤ 1000
  · obtain ⟨hb0, hb1, hb2⟩ := hbig
    have hbI : ¬ ((1000 : Int) < n) := by omega
    have hbI1 : ¬ ((1000 : Int) < n1) := by omega
    have hbI2 : ¬ ((1000 : Int) < n2) := by omega
    have HN1 := Lib.hid (Holds.nil p w1)
    go_wp2_with fail
    refine (state_any long false a n cap l none 0 0 [] w1 HQ1 HC1 HH1 hn (by omega) HN1 rfl).mono ?_
    rintro e w2 ⟨bs, rfl, hbs, hf1, hx2⟩
    have HX2 : Hid (Ext Nope W w2) := HX1.out.trans hx2 (fun _ _ h => h) (fun _ _ h => h)
    have HF1 := Lib.hid hf1
    have HBS : Hid (W.heap.size ≤ bs) := Nat.le_trans HX1.out.size hbs
    clear hx2 hf1 hbs
    go_wp2_with fail
    refine (fed_copy bs long l w2 HF1).mono ?_
    rintro e w3 ⟨bc, rfl, hbc, hf2, hx3⟩
    have HX3 : Hid (Ext Nope W w3) := HX2.out.trans hx3 (fun _ _ h => h) (fun _ _ h => h)
    have HC3 : Hid (Cubes w3) := hcu.out.ext HX3.out (fun h => h)
    have HF1b : Hid (Fed w3 bs long l) := HF1.out.grow hx3
    have HF2 := Lib.hid hf2
    have HNE : Hid (bc ≠ bs) := by have := HF1.out.lt; unfold Hid; omega
    have HBC : Hid (W.heap.size ≤ bc) := Nat.le_trans HX2.out.size hbc
    have HA3 : Hid (Holds p w3 a1 cap1 l1) := hh1.out.ext HX3.out (fun _ _ h => h)
    clear hx3 hf2 hbc
    go_wp2_with fail
    refine (fed_write bs long l l1 a1 n1 cap1 w3 HF1b HA3 hn1 (by omega) HC3).mono ?_
    rintro e w4 ⟨rfl, hf, hx4⟩
    have HF1c := Lib.hid hf
    have HF2b : Hid (Fed w4 bc long l) := HF2.out.other HF1b.out HNE.out hx4
    have HX4 : Hid (Ext Nope W w4) := HX3.out.trans hx4 (fun _ _ h => h) (fun j hj h => by have : j = bs := h; have := HBS.out; omega)
    have HC4 : Hid (Cubes w4) := hcu.out.ext HX4.out (fun h => h)
    have HA4 : Hid (Holds p w4 a2 cap2 l2) := hh2.out.ext HX4.out (fun _ _ h => h)
    clear hf hx4
    go_wp2_with fail
    refine (fed_write bc long l l2 a2 n2 cap2 w4 HF2b HA4 hn2 (by omega) HC4).mono ?_
    rintro e w5 ⟨rfl, hf, hx5⟩
    have HF2c := Lib.hid hf
    have HF1d : Hid (Fed w5 bs long (l ++ l1)) := HF1c.out.other HF2b.out (fun e => HNE.out e.symm) hx5
    have HX5 : Hid (Ext Nope W w5) := HX4.out.trans hx5 (fun _ _ h => h) (fun j hj h => by have : j = bc := h; have := HBC.out; omega)
    clear hf hx5
    have HO5 := Lib.hid (owns_lit0 w5)
    have HX5b : Hid (Ext Nope W (w5.alloc (.cells #[] 5))) := HX5.out.trans (Ext.alloc _ _ _) (fun _ _ h => h) (fun _ _ h => h)
    have HH5 : Hid (Holds p (w5.alloc (.cells #[] 5)) a cap l) := hh.out.ext HX5b.out (fun _ _ h => h)
    go_wp2_with (at_builtin; refine wpList_append_b rfl (.tmp 50) (.tmp 51) _ _ rfl Tryd.uB hi hzi hszi hby w5.heap.size rfl HO5.out rfl HH5.out hn.out ?c1 ?c2 ?_)
    case c1 => have := hn.out; simp; omega
    case c2 => exact (Ext.alloc Nope _ _).size
    intro v6 w6 ho6 hg6 _
    have HO6 := Lib.hid ho6
    have hx6 : Ext Nope w5 w6 := (Ext.alloc Nope _ _).trans (Ext.grownBy (D := fun c => w5.heap.size ≤ c) hg6 (fun k hk => (HO5.out.lt k hk).1)) (fun _ _ h => h) (fun j hj h => by have : w5.heap.size ≤ j := h; omega)
    have HX6 : Hid (Ext Nope W w6) := HX5.out.trans hx6 (fun _ _ h => h) (fun _ _ h => h)
    have HZ6 := Lib.hid hx6
    have HA6 : Hid (Holds p w6 a1 cap1 l1) := hh1.out.ext HX6.out (fun _ _ h => h)
    obtain ⟨_, a6, c6, rfl, _⟩ := owns_shape ho6
    rw [hn.out] at HO6 ⊢
    clear ho6 hg6 hx6
    go_wp2_with (at_builtin; refine wpList_append_b rfl (.tmp 52) (.tmp 53) _ _ rfl Tryd.uB hi hzi hszi hby w5.heap.size rfl HO6.out rfl HA6.out hn1.out ?c1 ?c2 ?_)
    case c1 => have := hn.out; have := hn1.out; omega
    case c2 => exact HZ6.out.size
    intro v7 w7 ho7 hg7 _
    have HO7 := Lib.hid ho7
    have hx7 : Ext Nope w5 w7 := HZ6.out.trans (Ext.grownBy (D := fun c => w5.heap.size ≤ c) hg7 (fun k hk => (HO6.out.lt k hk).1)) (fun _ _ h => h) (fun j hj h => by have : w5.heap.size ≤ j := h; omega)
    have HX7 : Hid (Ext Nope W w7) := HX5.out.trans hx7 (fun _ _ h => h) (fun _ _ h => h)
    have HZ7 := Lib.hid hx7
    obtain ⟨_, a7, c7, rfl, hh7⟩ := owns_shape ho7
    have HH7 := Lib.hid (hh7.mono (q := fun b => w5.heap.size ≤ b) (fun c hc => hc.1))
    obtain ⟨n7, hn7⟩ : ∃ n7, (l ++ l1).length = n7 := ⟨_, rfl⟩
    have hn7b : n7 ≤ 2000 := by rw [← hn7, List.length_append]; have := hn.out; have := hn1.out; omega
    rw [hn7] at HO7 ⊢
    have HN7 := Lib.hid hn7
    clear ho7 hg7 hx7 hn7 hh7 HO5 HO6 HO7
    have HO5 := Lib.hid (owns_lit0 w7)
    have HX7b : Hid (Ext Nope W (w7.alloc (.cells #[] 5))) := HX7.out.trans (Ext.alloc _ _ _) (fun _ _ h => h) (fun _ _ h => h)
    have HH5b : Hid (Holds p (w7.alloc (.cells #[] 5)) a cap l) := hh.out.ext HX7b.out (fun _ _ h => h)
    go_wp2_with (at_builtin; refine wpList_append_b rfl (.tmp 55) (.tmp 56) _ _ rfl Tryd.uB hi hzi hszi hby w7.heap.size rfl HO5.out rfl HH5b.out hn.out ?c1 ?c2 ?_)
    case c1 => have := hn.out; simp; omega
    case c2 => exact (Ext.alloc Nope _ _).size
    intro v8 w8 ho8 hg8 _
    have HO8 := Lib.hid ho8
    have hx8 : Ext Nope w7 w8 := (Ext.alloc Nope _ _).trans (Ext.grownBy (D := fun c => w7.heap.size ≤ c) hg8 (fun k hk => (HO5.out.lt k hk).1)) (fun _ _ h => h) (fun j hj h => by have : w7.heap.size ≤ j := h; omega)
    have HX8 : Hid (Ext Nope W w8) := HX7.out.trans hx8 (fun _ _ h => h) (fun _ _ h => h)
    have HZ8 := Lib.hid hx8
    have HA8 : Hid (Holds p w8 a2 cap2 l2) := hh2.out.ext HX8.out (fun _ _ h => h)
    obtain ⟨_, a8, c8, rfl, _⟩ := owns_shape ho8
    rw [hn.out] at HO8 ⊢
    clear ho8 hg8 hx8
    go_wp2_with (at_builtin; refine wpList_append_b rfl (.tmp 57) (.tmp 58) _ _ rfl Tryd.uB hi hzi hszi hby w7.heap.size rfl HO8.out rfl HA8.out hn2.out ?c1 ?c2 ?_)
    case c1 => have := hn.out; have := hn2.out; omega
    case c2 => exact HZ8.out.size
    intro v9 w9 ho9 hg9 _
    have hx9 : Ext Nope w7 w9 := HZ8.out.trans (Ext.grownBy (D := fun c => w7.heap.size ≤ c) hg9 (fun k hk => (HO8.out.lt k hk).1)) (fun _ _ h => h) (fun j hj h => by have : w7.heap.size ≤ j := h; omega)
    have HX9 : Hid (Ext Nope W w9) := HX7.out.trans hx9 (fun _ _ h => h) (fun _ _ h => h)
    have HC9 : Hid (Cubes w9) := hcu.out.ext HX9.out (fun h => h)
    have HQ9 : Hid (Squares w9) := hq.out.ext HX9.out (fun h => h)
    have HF1e : Hid (Fed w9 bs long (l ++ l1)) := (HF1d.out.grow HZ7.out).grow hx9
    have HF2e : Hid (Fed w9 bc long (l ++ l2)) := (HF2c.out.grow HZ7.out).grow hx9
    obtain ⟨_, a9, c9, rfl, hh9⟩ := owns_shape ho9
    have HH9 := Lib.hid (hh9.mono (q := fun b => w7.heap.size ≤ b) (fun c hc => hc.1))
    have HH79 : Hid (Holds (fun b => w5.heap.size ≤ b) w9 a7 c7 (l ++ l1)) := HH7.out.ext hx9 (fun _ _ h => h)
    obtain ⟨n9, hn9⟩ : ∃ n9, (l ++ l2).length = n9 := ⟨_, rfl⟩
    have hn9b : n9 ≤ 2000 := by rw [← hn9, List.length_append]; have := hn.out; have := hn2.out; omega
    rw [hn9]
    have HN9 := Lib.hid hn9
    clear ho9 hg9 hx9 hn9 hh9 HO5 HO8
    have HNL9 := Lib.hid (Holds.nil p w9)
    go_wp2_with fail
    refine (state_any long false a7 n7 c7 (l ++ l1) none 0 0 [] w9 HQ9 HC9 HH79 HN7 (by omega) HNL9 rfl).mono ?_
    rintro e w10 ⟨bt, rfl, hbt, hf, hx⟩
    have HX10 : Hid (Ext Nope W w10) := HX9.out.trans hx (fun _ _ h => h) (fun _ _ h => h)
    have HQ10 : Hid (Squares w10) := hq.out.ext HX10.out (fun h => h)
    have HC10 : Hid (Cubes w10) := hcu.out.ext HX10.out (fun h => h)
    have HF1f : Hid (Fed w10 bs long (l ++ l1)) := HF1e.out.grow hx
    have HF2f : Hid (Fed w10 bc long (l ++ l2)) := HF2e.out.grow hx
    have HF3 := Lib.hid hf
    have HH10 : Hid (Holds (fun b => w7.heap.size ≤ b) w10 a9 c9 (l ++ l2)) := HH9.out.ext hx (fun _ _ h => h)
    have HNL10 := Lib.hid (Holds.nil p w10)
    clear hbt hf hx
    go_wp2_with fail
    refine (state_any long false a9 n9 c9 (l ++ l2) none 0 0 [] w10 HQ10 HC10 HH10 HN9 (by omega) HNL10 rfl).mono ?_
    rintro e w11 ⟨bu, rfl, hbu, hf, hx⟩
    have HX11 : Hid (Ext Nope W w11) := HX10.out.trans hx (fun _ _ h => h) (fun _ _ h => h)
    have HC11 : Hid (Cubes w11) := hcu.out.ext HX11.out (fun h => h)
    have HF1g : Hid (Fed w11 bs long (l ++ l1)) := HF1f.out.grow hx
    have HF2g : Hid (Fed w11 bc long (l ++ l2)) := HF2f.out.grow hx
    have HF3g : Hid (Fed w11 bt long (l ++ l1)) := HF3.out.grow hx
    have HF4 := Lib.hid hf
    clear hbu hf hx
    go_wp2_with fail
    refine (fed_sum bs long _ _ HF1g HC11).mono ?_
    rintro e w12 ⟨v12, rfl, a12, rfl, hh12, hl12, hx12⟩
    have HX12 : Hid (Ext Nope W w12) := HX11.out.trans hx12 (fun _ _ h => h) (fun _ _ h => h)
    have HC12 : Hid (Cubes w12) := hcu.out.ext HX12.out (fun h => h)
    have HF1h : Hid (Fed w12 bs long (l ++ l1)) := HF1g.out.grow hx12
    have HF2h : Hid (Fed w12 bc long (l ++ l2)) := HF2g.out.grow hx12
    have HF3h : Hid (Fed w12 bt long (l ++ l1)) := HF3g.out.grow hx12
    have HF4h : Hid (Fed w12 bu long (l ++ l2)) := HF4.out.grow hx12
    have HH12 := Lib.hid hh12
    have HL12 := Lib.hid hl12
    clear hh12 hl12 hx12
    go_wp2_with fail
    refine (fed_sum bs long _ _ HF1h HC12).mono ?_
    rintro e w13 ⟨v13, rfl, a13, rfl, hh13, hl13, hx13⟩
    have HX13 : Hid (Ext Nope W w13) := HX12.out.trans hx13 (fun _ _ h => h) (fun _ _ h => h)
    have HC13 : Hid (Cubes w13) := hcu.out.ext HX13.out (fun h => h)
    have HF2i : Hid (Fed w13 bc long (l ++ l2)) := HF2h.out.grow hx13
    have HF3i : Hid (Fed w13 bt long (l ++ l1)) := HF3h.out.grow hx13
    have HF4i : Hid (Fed w13 bu long (l ++ l2)) := HF4h.out.grow hx13
    have HH123 : Hid (Holds (fun c => w11.heap.size ≤ c) w13 a12 (szOf long) (hash5 (szOf long) (iniOf long) (l ++ l1))) := HH12.out.ext hx13 (fun _ _ h => h)
    have HH13 := Lib.hid hh13
    have HL13 := Lib.hid hl13
    clear hh13 hl13 hx13
    go_wp2_with fail
    refine wp_region_plan [([0, 1, 2, 3, 4], 5), ([6, 7, 8, 9, 10, 11, 12, 13, 14, 15, 16, 17, 20], 18), ([19], 21), ([22, 23, 24, 25, 26, 28, 29, 30], 27)] [31, 32, 33] (by kernel_rfl) (by kernel_rfl) ?_
    have hcv12 := fun x : WG (Ext Nope w13.drew) => holds_string (HH123.out.ext ((Ext.drew Nope w13).trans x.h (fun _ _ h => h) (fun _ _ h => h)) (fun _ _ h => h)) HL12.out
    refine wpPlan_look [_, _, _, _, _] rfl (fun K' hK' => ?_)
    simp only [List.getElem_toArray, List.getElem_cons_succ, List.getElem_cons_zero]
    repeat (go_big_quiet_step (fail))
    refine wpQuiet_nil ?_
    apply hK'
    refine wpOpIn_loud rfl (by kernel_rfl) (fun K hK => ?_)
    clear hK' hcv12
    have HF3d : Hid (Fed w13.drew bt long (l ++ l1)) := HF3i.out.grow (Ext.drew _ _)
    have HC13d : Hid (Cubes w13.drew) := HC13.out.ext (Ext.drew Nope _) (fun h => h)
    gi_wp2_with fail
    refine ⟨trivial, calls_fr (r := none) ((fed_sum bt long _ _ HF3d HC13d).mono ?_)⟩
    rintro e w14 ⟨v14, rfl, a14, rfl, hh14, hl14, hx14⟩
    have HX14 := Lib.hid hx14
    have HXd : Hid (Ext Nope w13 w14) := (Ext.drew Nope w13).trans hx14 (fun _ _ h => h) (fun _ _ h => h)
    have HC14 : Hid (Cubes w14) := HC13d.out.ext hx14 (fun h => h)
    have HF2j : Hid (Fed w14 bc long (l ++ l2)) := HF2i.out.grow HXd.out
    have HF4j : Hid (Fed w14 bu long (l ++ l2)) := HF4i.out.grow HXd.out
    have HH14 := Lib.hid hh14
    have HL14 := Lib.hid hl14
    have hcv14 := row_string HH14 HL14
    have hcv12 := fun x : WG (Ext Nope w14) => holds_string (HH123.out.ext (HXd.out.trans x.h (fun _ _ h => h) (fun _ _ h => h)) (fun _ _ h => h)) HL12.out
    have hcv13 := fun x : WG (Ext Nope w14) => holds_string (HH13.out.ext (HXd.out.trans x.h (fun _ _ h => h) (fun _ _ h => h)) (fun _ _ h => h)) HL13.out
    clear hh14 hl14 hx14
    gi_wp2_with fail
    refine ⟨HX14.out, ?_⟩
    refine wpPlan_look [_, _, _, _, _, _, _, _, _, _, _, _, _] rfl (fun K' hK' => ?_)
    simp only [List.getElem_toArray, List.getElem_cons_succ, List.getElem_cons_zero]
    repeat (go_big_quiet_step (fail))
    refine wpQuiet_nil ?_
    apply hK'
    refine wpOpIn_loud rfl (by kernel_rfl) (fun K hK => ?_)
    clear hK' hcv14 hcv12 hcv13
    gi_wp2_with fail
    refine ⟨trivial, calls_fr (r := none) ((fed_sum bc long _ _ HF2j HC14).mono ?_)⟩
    rintro e w15 ⟨v15, rfl, a15, rfl, hh15, hl15, hx15⟩
    have HX15 := Lib.hid hx15
    have HC15 : Hid (Cubes w15) := HC14.out.ext hx15 (fun h => h)
    have HF2k : Hid (Fed w15 bc long (l ++ l2)) := HF2j.out.grow hx15
    have HF4k : Hid (Fed w15 bu long (l ++ l2)) := HF4j.out.grow hx15
    have HH15 := Lib.hid hh15
    have HL15 := Lib.hid hl15
    have hcv15 := row_string HH15 HL15
    clear hh15 hl15 hx15
    gi_wp2_with fail
    refine ⟨HX15.out, ?_⟩
    refine wpPlan_look [_] rfl (fun K' hK' => ?_)
    simp only [List.getElem_toArray, List.getElem_cons_succ, List.getElem_cons_zero]
    repeat (go_big_quiet_step (fail))
    refine wpQuiet_nil ?_
    apply hK'
    refine wpOpIn_loud rfl (by kernel_rfl) (fun K hK => ?_)
    clear hK' hcv15
    gi_wp2_with fail
    refine ⟨trivial, calls_fr (r := none) ((fed_sum bu long _ _ HF4k HC15).mono ?_)⟩
    rintro e w16 ⟨v16, rfl, a16, rfl, hh16, hl16, hx16⟩
    have HX16 := Lib.hid hx16
    have HF2l : Hid (Fed w16 bc long (l ++ l2)) := HF2k.out.grow hx16
    have HH16 := Lib.hid hh16
    have HL16 := Lib.hid hl16
    have hcv16 := row_string HH16 HL16
    clear hh16 hl16 hx16
    gi_wp2_with fail
    refine ⟨HX16.out, ?_⟩
    refine wpPlan_look [_, _, _, _, _, _, _, _] rfl (fun K' hK' => ?_)
    simp only [List.getElem_toArray, List.getElem_cons_succ, List.getElem_cons_zero]
    repeat (go_big_quiet_step (fail))
    refine wpQuiet_nil ?_
    apply hK'
    refine wpOpIn_loud rfl (by kernel_rfl) (fun K hK => ?_)
    clear hK' hcv16
    gi_wp2_with fail
    refine ⟨trivial, calls_fr (r := none) ((fed_len bc long (l ++ l2) _ HF2l).mono ?_)⟩
    rintro e w17 ⟨rfl, rfl⟩
    have hw : wd (BitVec.ofNat 64 (l ++ l2).length) = ((n9 : Nat) : Int) := by rw [HN9.out]; exact wd_ofNat (by omega)
    rw [hw]
    gi_wp2_with fail
    refine ⟨Ext.rfl' _, ?_⟩
    refine wpPlan_last [_, _, _] rfl (fun K' hK' => ?_)
    simp only [List.getElem_toArray, List.getElem_cons_succ, List.getElem_cons_zero]
    repeat (go_big_quiet_step (fail))
    refine wpQuiet_nil ?_
    apply hK'
    rw [noPan_normal]
    go_wp2_with fail
    go_ret
    exact ⟨rfl, HX13.out.trans (HXd.out.trans (HX15.out.trans HX16.out (fun _ _ h => h) (fun _ _ h => h)) (fun _ _ h => h) (fun _ _ h => h)) (fun _ _ h => h) (fun _ _ h => h)⟩
  · have hbig2 : 1000 < n ∨ 1000 < n1 ∨ 1000 < n2 := by omega
    by_cases h0 : (1000 : Int) < n
    · go_wp2_with fail
      go_ret
      exact ⟨rfl, HX1.out⟩
    · by_cases h1 : (1000 : Int) < n1
      · go_wp2_with fail
        go_ret
        exact ⟨rfl, HX1.out⟩
      · have h2 : (1000 : Int) < n2 := by omega
        go_wp2_with fail
        go_ret
        exact ⟨rfl, HX1.out⟩
end Go.Proofs.YtcjcnpjedmpghaaDoor
