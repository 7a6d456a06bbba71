/- What is laid; Sha512Empty. -/
import Derived.Test.YtcjcnpjedmpghaaDoorSm
import Derived.Test.YtcjcnpjedmpghaaDoorSq
namespace Go.Proofs.YtcjcnpjedmpghaaDoor
open Go.RowKit Go.Shelf

/-- the hash's length -/
theorem hash5_length (sz : Nat) (h : H8) (l : List (BitVec 8)) (hs : sz ≤ 64) : (hash5 sz h l).length = sz := by
  unfold hash5 sum5; rw [List.length_take, hbytes_length]; omega

theorem fed_len (b : Nat) (long : Bool) (x : List (BitVec 8)) (W : World) (hs : Hid (Fed W b long x)) :
    Calls Tryd.prog 13 #[.pointer (some ⟨b, 0, none⟩)] W fun e W' => e = .returned (.int .u64 (wd (BitVec.ofNat 64 x.length))) ∧ W = W' :=
  len_any b _ _ _ _ W hs (szOf_ne long)
theorem Fed.other {W W' : World} {b b' : Nat} {long long' : Bool} {x x' : List (BitVec 8)} (hs : Fed W b long x) (hs' : Fed W b' long' x') (hne : b ≠ b') (he : Ext (Just b') W W') : Fed W' b long x := IsSt.other hs hs' hne he
theorem Fed.lt {W : World} {b : Nat} {long : Bool} {x : List (BitVec 8)} (hs : Fed W b long x) : b < W.heap.size := IsSt.lt hs

theorem row_string {V : World} {p : Nat → Prop} {a : Option Addr} {n : Nat} {l : List (BitVec 8)} (h : Hid (Holds p V a n l)) (hn : Hid (l.length = n)) :
    ∀ x : WG (Ext Nope V), (convert 23 9 (.slice a n n)).run Tryd.prog x.v = .ok (.string (strOf l)) x.v :=
  fun x => holds_string (h.out.ext x.h (fun _ _ h => h)) hn.out

set_option maxRecDepth 100000 in
set_option maxHeartbeats 4000000 in
theorem empty_law {p : Nat → Prop} (long : Bool) (a : Option Addr) (n cap : Nat) (l : List (BitVec 8)) (z : Int) (h0 : 0 ≤ z) (h1 : z < 65536) (W : World) (hq : Hid (Squares W)) (hcu : Hid (Cubes W)) (hh : Hid (Holds p W a cap l)) (hn : Hid (l.length = n)) :
    Calls Tryd.prog 7 #[.bool long, .slice a n cap, .int .u16 z] W (TrueOf W) := by
  go_enter Tryd.func7, Tryd.ntmps7
  go_wp2_with fail
  refine (alive_any W hq hcu).mono ?_
  rintro e w1 ⟨rfl, hx1⟩
  have HX1 := Lib.hid hx1
  have HQ1 : Hid (Squares w1) := hq.out.ext hx1 (fun h => h)
  have HC1 : Hid (Cubes w1) := hcu.out.ext hx1 (fun h => h)
  have HH1 : Hid (Holds p w1 a cap l) := hh.out.ext hx1 (fun _ _ h => h)
  clear hx1
  by_cases hbig : n ≤ 1000
  · have hbI : ¬ ((1000 : Int) < n) := by omega
    have HN := Lib.hid (Holds.nil p w1)
    go_wp2_with fail
    refine (state_any long false a n cap l none 0 0 [] w1 HQ1 HC1 HH1 hn (by omega) HN rfl).mono ?_
    rintro e w2 ⟨b1, rfl, hb1, hf1, hx2⟩
    have HX2 : Hid (Ext Nope W w2) := HX1.out.trans hx2 (fun _ _ h => h) (fun _ _ h => h)
    have HQ2 : Hid (Squares w2) := hq.out.ext HX2.out (fun h => h)
    have HC2 : Hid (Cubes w2) := hcu.out.ext HX2.out (fun h => h)
    have HF1 := Lib.hid hf1
    have HB1 : Hid (W.heap.size ≤ b1) := Nat.le_trans HX1.out.size hb1
    clear hx2 hf1 hb1
    have HN2 := Lib.hid (Holds.nil p w2)
    obtain ⟨m, hm, hmn⟩ : ∃ m : Nat, z % ((n : Int) + 1) = m ∧ m ≤ n := ⟨(z % ((n : Int) + 1)).toNat, by have := Int.emod_nonneg z (show (n : Int) + 1 ≠ 0 by omega); omega, by
      have := Int.emod_lt_of_pos z (show (0 : Int) < (n : Int) + 1 by omega); have := Int.emod_nonneg z (show (n : Int) + 1 ≠ 0 by omega); omega⟩
    have hcap : m ≤ cap := by have := hh.out.len; have := hn.out; omega
    have hcapn : n ≤ cap := by have := hh.out.len; have := hn.out; omega
    have HR := Lib.hid (hh.out.rest (lo := m) (by have := hn.out; omega))
    obtain ⟨a3, ha3⟩ : ∃ a3, (if cap = m then a else Option.map (fun x => x.add m) a) = a3 := ⟨_, rfl⟩
    rw [ha3] at HR
    have HLm : Hid ((l.take m).length = m) := by have := hn.out; unfold Hid; rw [List.length_take]; omega
    have HLd : Hid ((l.drop m).length = n - m) := by have := hn.out; unfold Hid; rw [List.length_drop]; omega
    go_wp2_with fail
    refine (state_any long false none 0 0 [] none 0 0 [] w2 HQ2 HC2 HN2 rfl (by omega) HN2 rfl).mono ?_
    rintro e w3 ⟨b2, rfl, hb2, hf2, hx3⟩
    have HX3 : Hid (Ext Nope W w3) := HX2.out.trans hx3 (fun _ _ h => h) (fun _ _ h => h)
    have HC3 : Hid (Cubes w3) := hcu.out.ext HX3.out (fun h => h)
    have HF2 := Lib.hid hf2
    have HF12 : Hid (Fed w3 b1 long l) := HF1.out.grow hx3
    have HNE : Hid (b1 ≠ b2) := by have := HF1.out.lt; unfold Hid; omega
    have HB2 : Hid (W.heap.size ≤ b2) := Nat.le_trans HX2.out.size hb2
    clear hx3 hf2 hb2
    go_wp2_with fail
    have HN3 := Lib.hid (Holds.nil p w3)
    refine (fed_write b2 long [] [] none 0 0 w3 HF2 HN3 rfl (by omega) HC3).mono ?_
    rintro e w4 ⟨rfl, hf, hx⟩
    have HF24 := Lib.hid hf
    have HF14 : Hid (Fed w4 b1 long l) := HF12.out.other HF2.out HNE.out hx
    have HX4 : Hid (Ext Nope W w4) := HX3.out.trans hx (fun _ _ h => h) (fun i hi h => by have : i = b2 := h; have := HB2.out; omega)
    have HC4 : Hid (Cubes w4) := hcu.out.ext HX4.out (fun h => h)
    have HH4 : Hid (Holds p w4 a cap (l.take m)) := (hh.out.upto (by have := hn.out; omega)).ext HX4.out (fun _ _ h => h)
    clear hf hx
    go_wp2_with fail
    refine (fed_write b2 long _ (l.take m) a m cap w4 HF24 HH4 HLm (by omega) HC4).mono ?_
    rintro e w5 ⟨rfl, hf, hx⟩
    have HF25 := Lib.hid hf
    have HF15 : Hid (Fed w5 b1 long l) := HF14.out.other HF24.out HNE.out hx
    have HX5 : Hid (Ext Nope W w5) := HX4.out.trans hx (fun _ _ h => h) (fun i hi h => by have : i = b2 := h; have := HB2.out; omega)
    clear hf hx
    go_wp2_with fail
    obtain ⟨w6, hw6⟩ : ∃ w6, w5.alloc (.cells #[] 5) = w6 := ⟨_, rfl⟩
    have hx : Ext Nope w5 w6 := by rw [← hw6]; exact Ext.alloc _ _ _
    rw [hw6]
    have HF26 : Hid (Fed w6 b2 long _) := HF25.out.grow hx
    have HF16 : Hid (Fed w6 b1 long l) := HF15.out.grow hx
    have HX6 : Hid (Ext Nope W w6) := HX5.out.trans hx (fun _ _ h => h) (fun _ _ h => h)
    have HC6 : Hid (Cubes w6) := hcu.out.ext HX6.out (fun h => h)
    have HE6 : Hid (Holds p w6 (some ⟨w5.heap.size, 0, none⟩) 0 []) := ⟨Nat.le_refl _, Nat.zero_le _, .inr ⟨_, 0, rfl, fun h => absurd rfl h, fun i c hi => by simp at hi⟩⟩
    clear hx hw6
    refine (fed_write b2 long _ [] _ 0 0 w6 HF26 HE6 rfl (by omega) HC6).mono ?_
    rintro e w7 ⟨rfl, hf, hx⟩
    have HF27 := Lib.hid hf
    have HF17 : Hid (Fed w7 b1 long l) := HF16.out.other HF26.out HNE.out hx
    have HX7 : Hid (Ext Nope W w7) := HX6.out.trans hx (fun _ _ h => h) (fun i hi h => by have : i = b2 := h; have := HB2.out; omega)
    have HC7 : Hid (Cubes w7) := hcu.out.ext HX7.out (fun h => h)
    have HR7 : Hid (Holds p w7 a3 (cap - m) (l.drop m)) := HR.out.ext HX7.out (fun _ _ h => h)
    clear hf hx
    go_wp2_with fail
    refine (fed_write b2 long _ (l.drop m) a3 (n - m) (cap - m) w7 HF27 HR7 HLd (by omega) HC7).mono ?_
    rintro e w8 ⟨rfl, hf, hx⟩
    have HF28 := Lib.hid hf
    have HF18 : Hid (Fed w8 b1 long l) := HF17.out.other HF27.out HNE.out hx
    have HX8 : Hid (Ext Nope W w8) := HX7.out.trans hx (fun _ _ h => h) (fun i hi h => by have : i = b2 := h; have := HB2.out; omega)
    have HC8 : Hid (Cubes w8) := hcu.out.ext HX8.out (fun h => h)
    have HN8 := Lib.hid (Holds.nil p w8)
    clear hf hx
    go_wp2_with fail
    refine (fed_write b2 long _ [] none 0 0 w8 HF28 HN8 rfl (by omega) HC8).mono ?_
    rintro e w9 ⟨rfl, hf, hx⟩
    have e9 : [] ++ [] ++ l.take m ++ [] ++ l.drop m ++ [] = l := by simp
    rw [e9] at hf
    have HF29 := Lib.hid hf
    have HF19 : Hid (Fed w9 b1 long l) := HF18.out.other HF28.out HNE.out hx
    have HX9 : Hid (Ext Nope W w9) := HX8.out.trans hx (fun _ _ h => h) (fun i hi h => by have : i = b2 := h; have := HB2.out; omega)
    have HC9 : Hid (Cubes w9) := hcu.out.ext HX9.out (fun h => h)
    clear hf hx e9
    go_wp2_with fail
    refine wp_region_plan [([0, 1, 2, 5], 3), ([4], 6), ([7, 8, 9, 10, 11, 13], 12), ([], 14)] [15, 16, 17] (by kernel_rfl) (by kernel_rfl) ?_
    refine wpPlan_look [_, _, _, _] rfl (fun K' hK' => ?_)
    simp only [List.getElem_toArray, List.getElem_cons_succ, List.getElem_cons_zero]
    repeat (go_big_quiet_step (fail))
    refine wpQuiet_nil ?_
    apply hK'
    refine wpOpIn_loud rfl (by kernel_rfl) (fun K hK => ?_)
    clear hK'
    have HF19d : Hid (Fed w9.drew b1 long l) := HF19.out.grow (Ext.drew _ _)
    have HF29d : Hid (Fed w9.drew b2 long l) := HF29.out.grow (Ext.drew _ _)
    have HC9d : Hid (Cubes w9.drew) := HC9.out.ext (Ext.drew Nope _) (fun h => h)
    gi_wp2_with fail
    refine ⟨trivial, calls_fr (r := none) ((fed_sum b1 long _ _ HF19d HC9d).mono ?_)⟩
    rintro e w10 ⟨v1, rfl, a4, rfl, hh4, hl4, hx4⟩
    have HX10 := Lib.hid hx4
    have HH4 := Lib.hid hh4
    have HL4 := Lib.hid hl4
    have HF20 : Hid (Fed w10 b2 long l) := HF29d.out.grow hx4
    have HC10 : Hid (Cubes w10) := HC9d.out.ext hx4 (fun h => h)
    have hcv1 := row_string HH4 HL4
    clear hh4 hl4 hx4
    gi_wp2_with fail
    refine ⟨HX10.out, ?_⟩
    refine wpPlan_look [_] rfl (fun K' hK' => ?_)
    simp only [List.getElem_toArray, List.getElem_cons_succ, List.getElem_cons_zero]
    repeat (go_big_quiet_step (fail))
    refine wpQuiet_nil ?_
    apply hK'
    refine wpOpIn_loud rfl (by kernel_rfl) (fun K hK => ?_)
    clear hK'
    gi_wp2_with fail
    refine ⟨trivial, calls_fr (r := none) ((fed_sum b2 long _ _ HF20 HC10).mono ?_)⟩
    rintro e w11 ⟨v2, rfl, a5, rfl, hh5, hl5, hx5⟩
    have HX11 := Lib.hid hx5
    have HH5 := Lib.hid hh5
    have HL5 := Lib.hid hl5
    have HF11 : Hid (Fed w11 b1 long l) := (HF19d.out.grow HX10.out).grow hx5
    have HF21 : Hid (Fed w11 b2 long l) := HF20.out.grow hx5
    have hcv2 := row_string HH5 HL5
    clear hh5 hl5 hx5 hcv1
    gi_wp2_with fail
    refine ⟨HX11.out, ?_⟩
    refine wpPlan_look [_, _, _, _, _, _] rfl (fun K' hK' => ?_)
    simp only [List.getElem_toArray, List.getElem_cons_succ, List.getElem_cons_zero]
    repeat (go_big_quiet_step (fail))
    refine wpQuiet_nil ?_
    apply hK'
    refine wpOpIn_loud rfl (by kernel_rfl) (fun K hK => ?_)
    clear hK' hcv2
    gi_wp2_with fail
    refine ⟨trivial, calls_fr (r := none) ((fed_len b1 long l _ HF11).mono ?_)⟩
    rintro e w12 ⟨rfl, rfl⟩
    gi_wp2_with fail
    refine ⟨Ext.rfl' _, ?_⟩
    refine wpPlan_look [] rfl (fun K' hK' => ?_)
    refine wpQuiet_nil ?_
    apply hK'
    refine wpOpIn_loud rfl (by kernel_rfl) (fun K hK => ?_)
    clear hK'
    gi_wp2_with fail
    refine ⟨trivial, calls_fr (r := none) ((fed_len b2 long l _ HF21).mono ?_)⟩
    rintro e w12 ⟨rfl, rfl⟩
    gi_wp2_with fail
    refine ⟨Ext.rfl' _, ?_⟩
    refine wpPlan_last [_, _, _] rfl (fun K' hK' => ?_)
    simp only [List.getElem_toArray, List.getElem_cons_succ, List.getElem_cons_zero]
    repeat (go_big_quiet_step (fail))
    refine wpQuiet_nil ?_
    apply hK'
    rw [noPan_normal]
    go_wp2_with fail
    go_ret
    exact ⟨rfl, HX9.out.trans ((Ext.drew Nope w9).trans (HX10.out.trans HX11.out (fun _ _ h => h) (fun _ _ h => h)) (fun _ _ h => h) (fun _ _ h => h)) (fun _ _ h => h) (fun _ _ h => h)⟩
  · have hbI : ((1000 : Int) < n) := by omega
    go_wp2_with fail
    go_ret
    exact ⟨rfl, HX1.out⟩
end Go.Proofs.YtcjcnpjedmpghaaDoor
