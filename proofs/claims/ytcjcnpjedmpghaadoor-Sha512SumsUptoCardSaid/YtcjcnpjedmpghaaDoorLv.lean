/- Sha512Sums: the law walked, SHA-512. -/
import Derived.Test.YtcjcnpjedmpghaaDoorLu
namespace Go.Proofs.YtcjcnpjedmpghaaDoor
open Go.RowKit Go.Shelf

set_option maxRecDepth 100000 in
set_option maxHeartbeats 20000000 in
theorem sums_512 (a : Option Addr) (n cap : Nat) (L : List (List (BitVec 8))) (W : World) (hq : Hid (Squares W)) (hcu : Hid (Cubes W)) (HL : Hid (HoldsL W a n cap L)) (ht : L.flatten.length ≤ 1048576) :
    Calls Tryd.prog 3 #[.int .i64 512, .slice a n cap] W (TrueOf W) := by
  obtain ⟨i0, hi0, hzi, hszi, hby⟩ := info_parts Tryd.infoB
  have hmx := HL.out.max
  have hcp := HL.out.fits
  unfold maxLen at hmx
  by_cases h20 : n ≤ 20
  · have h20I : ¬ ((20 : Int) < n) := by omega
    go_enter Tryd.func3, Tryd.ntmps3
    go_wp2_with fail
    go_loopw [5, 27] (fun vo vi V => ∃ (i m : Nat) (X : List (BitVec 8)), i ≤ n ∧ vi = .int .i64 i ∧ X = (L.take i).flatten ∧ m ≤ 1048576 ∧ V.ownsRow W.heap.size 5 1 vo m (bv X) ∧ Ext Nope W V) (fun _ i _ => n - (intOf i).toNat)
    case atStart => exact ⟨0, 0, [], by omega, rfl, by simp, by omega, ⟨rfl, .inl ⟨rfl, rfl⟩⟩, Ext.refl _ _⟩
    case round =>
      obtain ⟨i, m, X, hi, rfl, hX, hm, hown, hx⟩ := hrel
      have HX := Lib.hid hX
      have HOWN := Lib.hid hown
      have HE := Lib.hid hx
      obtain ⟨ao, co, rfl⟩ := owns_form hown
      clear hX hown hx
      by_cases hlt : i < n
      · have hltI : (i : Int) < n := by omega
        obtain ⟨b, off, li, ai, ci, rfl, hLi, hcell, hli⟩ := (HL.out.grow HE.out).at hlt
        have HN := Lib.hid (flat_next hLi)
        have HLI := Lib.hid hli
        have HTL : Hid (((L.take (i + 1)).flatten).length ≤ 1048576) := Nat.le_trans (flat_le L _) ht
        obtain ⟨k, hk⟩ : ∃ k, li.length = k := ⟨_, rfl⟩
        have HK := Lib.hid hk
        rw [hk] at hcell
        have HML : Hid (X.length = m) := by have := HOWN.out.1; rw [bv_length] at this; unfold Hid; omega
        clear hLi hli hk
        go_wp2_with (at_builtin; refine wpList_append_w rfl (.tmp 30) (.tmp 34) _ _ rfl Tryd.uB hi0 hzi hszi hby W.heap.size rfl HOWN.out rfl HLI.out HK.out ?c1 ?c2 ?_)
        case c1 => have := HTL.out; rw [HN.out, ← HX.out, List.length_append] at this; omega
        case c2 => exact HE.out.size
        intro v1 w1 ho1 hg1 _
        have HO1 := Lib.hid ho1
        have HE1 : Hid (Ext Nope W w1) := HE.out.trans (Ext.grownBy (D := fun c => W.heap.size ≤ c) hg1 (fun b hb => (HOWN.out.lt b hb).1)) (fun _ _ h => h) (fun j hj h => by have : W.heap.size ≤ j := h; omega)
        clear ho1 hg1
        go_wp2_with fail
        refine ⟨⟨i + 1, X.length + li.length, X ++ li, by omega, by congr 1, by rw [HN.out, HX.out], ?_, HO1.out, HE1.out⟩, by simp [intOf]; omega⟩
        have := HTL.out; rw [HN.out, ← HX.out, List.length_append] at this; exact this
      · obtain rfl : n = i := by omega
        have hltI : ¬ ((n : Int) < n) := by omega
        rw [List.take_of_length_le (by rw [HL.out.len]; exact Nat.le_refl _)] at HX
        obtain ⟨w0, hw0⟩ : ∃ w0, w0 = wr := ⟨_, rfl⟩
        subst hw0
        by_cases hbig : m ≤ 1500
        · have hbigI : ¬ ((1500 : Int) < m) := by omega
          have HA0 : Hid (Holds (fun c => c < w0.heap.size) w0 ao co X) := by
            obtain ⟨_, a', c', e, hh'⟩ := owns_shape HOWN.out
            simp only [Value.slice.injEq] at e
            obtain ⟨rfl, _, rfl⟩ := e
            exact hh'.mono (fun c hc => hc.2.1)
          have HML : Hid (X.length = m) := by have := HOWN.out.1; rw [bv_length] at this; unfold Hid; omega
          obtain ⟨long, hlong, hszI⟩ : ∃ long, bitsOf long = 512 ∧ ((szOf long : Nat) : Int) = 64 := ⟨true, rfl, rfl⟩
          have HQ0 : Hid (Squares w0) := hq.out.ext HE.out (fun h => h)
          have HC0 : Hid (Cubes w0) := hcu.out.ext HE.out (fun h => h)
          have HLG := Lib.hid hlong
          have HSI := Lib.hid hszI
          clear hlong hszI HOWN
          go_wp2_with fail
          refine (of_of long _ HLG.out ao m co X w0 HA0 HML (by omega) HQ0 HC0).mono ?_
          rintro e w1 ⟨v1, rfl, a1, rfl, hh1, hl1, hx1⟩
          have HE1 : Hid (Ext Nope W w1) := HE.out.trans hx1 (fun _ _ h => h) (fun _ _ h => h)
          have HH1 := Lib.hid hh1
          have HL1 := Lib.hid hl1
          have HA1 : Hid (Holds (fun c => c < w0.heap.size) w1 ao co X) := HA0.out.ext hx1 (fun _ _ h => h)
          have HS01 : Hid (w0.heap.size ≤ w1.heap.size) := hx1.size
          have HR := Lib.hid (refof_of long ao m co X w1 HA1 HML (by omega))
          rw [HLG.out] at HR
          clear hh1 hl1 hx1
          go_wp2_with fail
          refine HR.out.mono ?_
          rintro e w2 ⟨a2, c2, rfl, hh2, hl2, hx2⟩
          have HE2 : Hid (Ext Nope W w2) := HE1.out.trans hx2 (fun _ _ h => h) (fun _ _ h => h)
          have HH2 : Hid (Holds (fun c => c < w2.heap.size) w2 a2 c2 (hash5 (szOf long) (iniOf long) X)) := hh2.lt.mono (fun c hc => hc.2)
          have HH12 : Hid (Holds (fun c => c < w2.heap.size) w2 a1 (szOf long) (hash5 (szOf long) (iniOf long) X)) := (HH1.out.ext hx2 (fun _ _ h => h)).lt.mono (fun c hc => hc.2)
          have HA2 : Hid (Holds (fun c => c < w2.heap.size) w2 ao co X) := (HA1.out.ext hx2 (fun _ _ h => h)).lt.mono (fun c hc => hc.2)
          have HQ2 : Hid (Squares w2) := hq.out.ext HE2.out (fun h => h)
          have HNW := Lib.hid (new_of long w2 HQ2)
          rw [HLG.out] at HNW
          clear hh2 hl2 hx2 HR
          go_wp2_with fail
          refine HNW.out.mono ?_
          rintro e w3 ⟨rfl, hs3, hx3⟩
          have HE3 : Hid (Ext Nope W w3) := HE2.out.trans hx3 (fun _ _ h => h) (fun _ _ h => h)
          have HF3 := Lib.hid (fed_new (long := long) hs3)
          obtain ⟨bs, hbs⟩ : ∃ bs, w2.heap.size = bs := ⟨_, rfl⟩
          rw [hbs] at HH2 HH12 HA2 HF3 ⊢
          have HBS : Hid (W.heap.size ≤ bs) := by rw [← hbs]; exact HE2.out.size
          have HH23 : Hid (Holds (fun c => c < bs) w3 a2 c2 (hash5 (szOf long) (iniOf long) X)) := HH2.out.ext hx3 (fun _ _ h => h)
          have HA3 : Hid (Holds (fun c => c < bs) w3 ao co X) := HA2.out.ext hx3 (fun _ _ h => h)
          have hc4 := holds_string (HH12.out.ext hx3 (fun _ _ h => h)) HL1.out
          have hc5 := holds_string HH23.out HL1.out
          clear hs3 hx3 HNW hbs HH2 HH12 HA2
          have HAC : Hid (m ≤ co) := by have := HA3.out.len; have := HML.out; unfold Hid; omega
          have hszI := HSI.out
          go_wp2_with fail
          clear hc4 hc5
          go_loopw [13, 83] (fun vn vi V => ∃ (i k : Nat) (Y : List (BitVec 8)), i ≤ n ∧ vi = .int .i64 i ∧ vn = .int .i64 k ∧ Y = (L.take i).flatten ∧ Y.length = k ∧ Fed V bs long Y ∧ Ext (Just bs) w3 V) (fun _ vi _ => n - (intOf vi).toNat)
          case atStart => exact ⟨0, 0, [], by omega, rfl, rfl, by simp, rfl, HF3.out, Ext.refl _ _⟩
          case round =>
            obtain ⟨i2, k, Y, hi2, rfl, rfl, hY, hYk, hf, hx⟩ := hrel
            have HY := Lib.hid hY
            have HYK := Lib.hid hYk
            have HF := Lib.hid hf
            have HX3 := Lib.hid hx
            have HXW : Hid (Ext Nope W wr) := HE3.out.trans hx (fun _ _ h => h) (fun j hj h => by have := HBS.out; simp only [Just] at h; omega)
            clear hY hYk hf hx
            by_cases hlt : i2 < n
            · have hltI : (i2 : Int) < n := by omega
              obtain ⟨b, off, li, ai, ci, rfl, hLi, hcellW, hliW⟩ := HL.out.at hlt
              have HCW := Lib.hid hcellW
              have HLW := Lib.hid hliW
              have hcell := HXW.out.cell hcellW (fun h => h)
              have HN := Lib.hid (flat_next hLi)
              obtain ⟨q, hq2⟩ : ∃ q, li.length = q := ⟨_, rfl⟩
              have HQL := Lib.hid hq2
              rw [hq2] at hcell HCW
              have HTK : Hid (k + q ≤ m) := by
                have h1 := flat_le L (i2 + 1)
                have h2 := HN.out; rw [← HY.out] at h2
                rw [h2, List.length_append, HYK.out, HQL.out, ← HX.out, HML.out] at h1
                exact h1
              obtain ⟨we, hwe⟩ : ∃ we, wr.alloc (.cells #[] 5) = we := ⟨_, rfl⟩
              have HOW : Hid (we.ownsRow wr.heap.size 5 1 (.slice (some ⟨wr.heap.size, 0, none⟩) 0 0) 0 (bv [])) := by
                rw [← hwe]; exact ⟨rfl, .inr ⟨_, 0, #[], rfl, Nat.le_refl _, World.alloc_heap_new wr _, Nat.le_refl _, Nat.zero_le _, rfl, rfl⟩⟩
              have hxe : Ext Nope wr we := by rw [← hwe]; exact Ext.alloc _ _ _
              have HXE := Lib.hid hxe
              have HLE : Hid (HoldsW we ai ci li) := (hliW.ext HXW.out).ext hxe
              have hcell2 := hxe.cell hcell (fun h => h)
              have HQ2 := Lib.hid hq2
              have HBW : Hid (bs < wr.heap.size) := HF.out.lt
              clear hLi hliW hcellW hxe hq2
              go_wp2_with (at_builtin; refine wpList_append_w rfl (.tmp 86) (.tmp 90) _ _ rfl Tryd.uB hi0 hzi hszi hby wr.heap.size rfl HOW.out rfl HLE.out HQL.out ?c1 ?c2 ?_)
              case c1 => have := HTK.out; have := HQL.out; simp; omega
              case c2 => exact HXE.out.size
              intro v4 w4 ho4 hg4 hne4
              have hv4 : v4 ≠ .slice none 0 0 := fun e => by simp [e] at hne4
              have HO4 : w4.ownsRow wr.heap.size 5 1 v4 q (bv li) := by have h := ho4; simpa [HQ2.out] using h
              obtain ⟨g, co4, rfl, hco4, hg4a, hg4b, hrb4, hh4, hl4⟩ := owns_some HO4 hv4
              have HX4 : Hid (Ext Nope wr w4) := HXE.out.trans (Ext.grownBy (D := fun c => wr.heap.size ≤ c) hg4 (fun b hb => (HOW.out.lt b hb).1)) (fun _ _ h => h) (fun j hj h => by have : wr.heap.size ≤ j := h; omega)
              have HF4 : Hid (Fed w4 bs long Y) := HF.out.grow HX4.out
              have HXW4 : Hid (Ext Nope W w4) := HXW.out.trans HX4.out (fun _ _ h => h) (fun _ _ h => h)
              have HC4 : Hid (Cubes w4) := hcu.out.ext HXW4.out (fun h => h)
              have HG4 : Hid (wr.heap.size ≤ g ∧ g < w4.heap.size) := ⟨hg4a, hg4b⟩
              have HRB4 := Lib.hid hrb4
              have HH4 := Lib.hid hh4
              clear ho4 hg4 hne4 hv4 HO4 hg4a hg4b hrb4 hh4 hl4 hcell hcell2 hwe
              go_wp2_with fail
              refine (fed_write_new bs long Y li (some ⟨g, 0, none⟩) q co4 w4 HF4 HH4 HQ2 (by have := HTK.out; omega) HC4).mono ?_
              rintro e w5 ⟨rfl, hf5, hx5⟩
              have HGB : Hid (g ≠ bs) := by have := HG4.out; have := HBW.out; unfold Hid; omega
              have HFN5 := Lib.hid hf5
              have HXW5 : Hid (Ext Nope W w5) := HXW4.out.trans hx5 (fun _ _ h => h) (fun j hj h => by have := HBS.out; simp only [Just] at h; omega)
              have HX5 : Hid (Ext (Just bs) w3 w5) := (HX3.out.trans HX4.out (E := Just bs) (fun _ _ h => h) (fun _ _ h => h.elim)).trans hx5 (fun _ _ h => h) (fun _ _ h => h)
              have HRB5 : Hid (Rowb w5 g q) := HRB4.out.ext hx5 (fun h => HGB.out h)
              have HH5 : Hid (Holds (fun c => c = g) w5 (some ⟨g, 0, none⟩) co4 li) := HH4.out.ext hx5 (fun c hc h => by have : c = bs := h; have := HGB.out; omega)
              have hcell5 := HXW5.out.cell HCW.out (fun h => h)
              have hA : ∀ nq, (convert 23 9 (.slice (some ⟨g, 0, none⟩) q co4)).run Tryd.prog (w5.drewN nq) = .ok (.string (strOf li)) (w5.drewN nq) := fun nq => holds_string (HH5.out.ext (Ext.drewN Nope w5 nq) (fun _ _ h => h)) HQ2.out
              have hB : ∀ nq, (convert 23 9 (.slice ai q ci)).run Tryd.prog (w5.drewN nq) = .ok (.string (strOf li)) (w5.drewN nq) := fun nq => holds_string_w ((HLW.out.ext HXW5.out).ext (Ext.drewN Nope w5 nq)) HQ2.out
              clear hf5 hx5 HRB4 HH4 HF4
              go_wp2_with fail
              refine wp_region_quiet_lit (by kernel_rfl) (by kernel_rfl) ?_
              repeat (go_big_quiet_step (fail))
              refine wpQuiet_nil ?_
              rintro _ ⟨nq, rfl⟩
              clear hA hB hcell5
              go_wp2_with fail
              have HFN6 : Hid (Ext Nope w5 (w5.drewN nq)) := Ext.drewN Nope w5 nq
              obtain ⟨w6, hw6⟩ : ∃ w6, w5.drewN nq = w6 := ⟨_, rfl⟩
              rw [hw6] at HFN6 ⊢
              clear hw6
              have HRB6 : Hid (Rowb w6 g q) := HRB5.out.ext HFN6.out (fun h => h)
              go_loopw [105] (fun vi V => ∃ j : Nat, j ≤ q ∧ vi = .int .i64 j ∧ Rowb V g q ∧ Ext (Just g) w6 V) (fun vi _ => q - (intOf vi).toNat)
              case atStart => exact ⟨0, by omega, rfl, HRB6.out, Ext.refl _ _⟩
              case round =>
                obtain ⟨j, hj, rfl, hrb, hx⟩ := hrel
                have HRB := Lib.hid hrb
                have HXL := Lib.hid hx
                have hq15 : q ≤ 1500 := by have := HTK.out; omega
                clear hrb hx
                by_cases hlt3 : j < q
                · have hltI3 : (j : Int) < q := by omega
                  obtain ⟨c, hc⟩ := HRB.out.cell hlt3
                  have hfr := HRB.out.free
                  have hinc := u8_inc
                  have hjc : j < co4 := by omega
                  go_wp2_with fail
                  exact ⟨⟨j + 1, by omega, by congr 1, HRB.out.set j _, HXL.out.setCells _ _⟩, by simp [intOf]; omega⟩
                · obtain rfl : q = j := by omega
                  have hltI3 : ¬ ((q : Int) < q) := by omega
                  obtain ⟨w7, hw7⟩ : ∃ w7, w7 = wr := ⟨_, rfl⟩
                  subst hw7
                  have HX57 : Hid (Ext (Just g) w5 w7) := HFN6.out.trans HXL.out (fun _ _ h => h.elim) (fun _ _ h => h)
                  have HF7 : Hid (Fed w7 bs long (Y ++ li)) := HFN5.out.fed HX57.out HGB.out HG4.out.2
                  have HX7 : Hid (Ext (Just bs) w3 w7) := (HX5.out.trans HX57.out (E := fun c => c = bs ∨ c = g) (fun _ _ h => .inl h) (fun _ _ h => .inr h)).mono (fun c hc h => h.resolve_right (by have := HG4.out; have := HX3.out.size; omega))
                  have HXW7 : Hid (Ext Nope W w7) := HE3.out.trans HX7.out (fun _ _ h => h) (fun c hc h => by have := HBS.out; simp only [Just] at h; omega)
                  have HC7 : Hid (Cubes w7) := hcu.out.ext HXW7.out (fun h => h)
                  obtain ⟨kq, hkq⟩ : ∃ kq, k + q = kq := ⟨_, rfl⟩
                  have hkqI : (k : Int) + (q : Int) = (kq : Int) := by omega
                  have HKQ := Lib.hid hkq
                  have hkqm : kq ≤ m := by have := HTK.out; omega
                  clear hkq HRB HXL HFN5 HFN6 HX57
                  go_wp2_with fail
                  refine (fed_sum_row bs long _ w7 HF7 HC7).mono ?_
                  rintro e w8 ⟨g8, rfl, hg8, hg8b, hrb8, hh8, hx8⟩
                  have HG8 : Hid (w7.heap.size ≤ g8 ∧ g8 < w8.heap.size) := ⟨hg8, hg8b⟩
                  have HX78 := Lib.hid hx8
                  have HRB8 := Lib.hid hrb8
                  have HH8 := Lib.hid hh8
                  have HX8 : Hid (Ext (Just bs) w3 w8) := HX7.out.trans hx8 (fun _ _ h => h) (fun _ _ h => h.elim)
                  have HYL : Hid (X.take kq = Y ++ li) := by
                    have h1 := flat_prefix L (i2 + 1)
                    rw [HN.out, ← HY.out, List.length_append, HYK.out, HQL.out, HKQ.out, ← HX.out] at h1
                    exact h1
                  have HA8 : Hid (Holds (fun c => c < bs) w8 ao co (Y ++ li)) := by
                    have h1 := (HA3.out.upto (hi := kq) (by rw [HML.out]; exact hkqm)).ext HX8.out (fun c hc h => by have : c = bs := h; omega)
                    rw [HYL.out] at h1; exact h1
                  have HYN : Hid ((Y ++ li).length = kq) := by unfold Hid; rw [List.length_append, HYK.out, HQL.out, HKQ.out]
                  have HR := Lib.hid (refof_of long ao kq co (Y ++ li) w8 HA8 HYN (by omega))
                  rw [HLG.out] at HR
                  have hkc : kq ≤ co := by have := HAC.out; omega
                  clear hg8 hg8b hrb8 hh8 hx8
                  go_wp2_with fail
                  refine HR.out.mono ?_
                  rintro e w9 ⟨a9, c9, rfl, hh9, hl9, hx9⟩
                  have HX79 : Hid (Ext Nope w7 w9) := HX78.out.trans hx9 (fun _ _ h => h) (fun _ _ h => h)
                  have HF9 : Hid (Fed w9 bs long (Y ++ li)) := HF7.out.grow HX79.out
                  have hcx := holds_string (HH8.out.ext hx9 (fun _ _ h => h)) hl9
                  have hcy := holds_string hh9 hl9
                  have HRB9 : Hid (Rowb w9 g8 (szOf long)) := HRB8.out.ext hx9 (fun h => h)
                  clear hh9 hx9 HR HRB8 HH8
                  go_wp2_with fail
                  refine (fed_len bs long (Y ++ li) _ HF9).mono ?_
                  rintro e w10 ⟨rfl, rfl⟩
                  have hw : wd (BitVec.ofNat 64 (Y ++ li).length) = ((kq : Nat) : Int) := by rw [HYN.out]; exact wd_ofNat (by omega)
                  rw [hw]
                  clear hw
                  go_wp2_with fail
                  clear hcx hcy
                  go_loopw [154] (fun vi V => ∃ j : Nat, j ≤ szOf long ∧ vi = .int .i64 j ∧ Rowb V g8 (szOf long) ∧ Ext (Just g8) w9 V) (fun vi _ => szOf long - (intOf vi).toNat)
                  case atStart => exact ⟨0, by omega, rfl, HRB9.out, Ext.refl _ _⟩
                  case round =>
                    obtain ⟨j, hj, rfl, hrb, hx⟩ := hrel
                    have HRB := Lib.hid hrb
                    have HXL := Lib.hid hx
                    have hsz64 := szOf_hi long
                    clear hrb hx
                    by_cases hlt3 : j < szOf long
                    · have hltI3 : (j : Int) < ((szOf long : Nat) : Int) := by omega
                      rw [HSI.out] at hltI3
                      obtain ⟨c, hc⟩ := HRB.out.cell hlt3
                      have hfr := HRB.out.free
                      have hinc := u8_inc
                      have hszI := HSI.out
                      go_wp2_with fail
                      exact ⟨⟨j + 1, by omega, by congr 1, HRB.out.set j _, HXL.out.setCells _ _⟩, by simp [intOf]; omega⟩
                    · have hjz : ((szOf long : Nat) : Int) = (j : Int) := by omega
                      have hltI3 : ¬ ((j : Int) < ((szOf long : Nat) : Int)) := by omega
                      rw [HSI.out] at hltI3
                      have hszI := HSI.out
                      have HXF : Hid (Ext Nope w7 wr) := HX79.out.trans HXL.out (fun _ _ h => h) (fun c hc h => by have := HG8.out; simp only [Just] at h; omega)
                      have HFF : Hid (Fed wr bs long (Y ++ li)) := HF7.out.grow HXF.out
                      have HX3F : Hid (Ext (Just bs) w3 wr) := HX7.out.trans HXF.out (fun _ _ h => h) (fun _ _ h => h.elim)
                      have HI2 : Hid (i2 + 1 ≤ n) := by unfold Hid; omega
                      clear HXL HRB HXF hjz hj hlt3
                      go_wp2_with fail
                      exact ⟨⟨i2 + 1, kq, Y ++ li, HI2.out, by congr 1, rfl, by rw [HN.out, HY.out], HYN.out, HFF.out, HX3F.out⟩, by have := HI2.out; simp [intOf]; omega⟩
            · obtain rfl : n = i2 := by omega
              have hltI : ¬ ((n : Int) < n) := by omega
              have HYX : Hid (Y = X) := by rw [HY.out, HX.out, List.take_of_length_le (by rw [HL.out.len]; exact Nat.le_refl _)]; exact rfl
              have HCU : Hid (Cubes wr) := hcu.out.ext HXW.out (fun h => h)
              go_wp2_with fail
              refine (fed_sum bs long _ _ HF HCU).mono ?_
              rintro e w5 ⟨v5, rfl, a5, rfl, hh5, hl5, hx5⟩
              have HXW5 : Hid (Ext Nope W w5) := HXW.out.trans hx5 (fun _ _ h => h) (fun _ _ h => h)
              have hc5 := holds_string hh5 hl5
              rw [HYX.out] at hc5
              have hc4 := holds_string ((HH23.out.ext HX3.out (fun c hc h => by have : c = bs := h; omega)).ext hx5 (fun _ _ h => h)) HL1.out
              clear hh5 hl5 hx5
              go_wp2_with fail
              go_ret
              exact ⟨rfl, HXW5.out⟩
        · have hbigI : (1500 : Int) < m := by omega
          go_wp2_with fail
          go_ret
          exact ⟨rfl, HE.out⟩
  · have h20I : (20 : Int) < n := by omega
    go_enter Tryd.func3, Tryd.ntmps3
    go_wp2_with fail
    go_ret
    exact ⟨rfl, Ext.refl _ _⟩

set_option maxRecDepth 100000 in
set_option maxHeartbeats 20000000 in
theorem sums_bad (bits : Int) (hb4 : (bits == 384) = false) (hb5 : (bits == 512) = false) (a : Option Addr) (n cap : Nat) (L : List (List (BitVec 8))) (W : World) (hq : Hid (Squares W)) (hcu : Hid (Cubes W)) (HL : Hid (HoldsL W a n cap L)) (ht : L.flatten.length ≤ 1048576) :
    Calls Tryd.prog 3 #[.int .i64 bits, .slice a n cap] W (TrueOf W) := by
  obtain ⟨i0, hi0, hzi, hszi, hby⟩ := info_parts Tryd.infoB
  have hmx := HL.out.max
  have hcp := HL.out.fits
  unfold maxLen at hmx
  by_cases h20 : n ≤ 20
  · have h20I : ¬ ((20 : Int) < n) := by omega
    go_enter Tryd.func3, Tryd.ntmps3
    go_wp2_with fail
    go_loopw [5, 27] (fun vo vi V => ∃ (i m : Nat) (X : List (BitVec 8)), i ≤ n ∧ vi = .int .i64 i ∧ X = (L.take i).flatten ∧ m ≤ 1048576 ∧ V.ownsRow W.heap.size 5 1 vo m (bv X) ∧ Ext Nope W V) (fun _ i _ => n - (intOf i).toNat)
    case atStart => exact ⟨0, 0, [], by omega, rfl, by simp, by omega, ⟨rfl, .inl ⟨rfl, rfl⟩⟩, Ext.refl _ _⟩
    case round =>
      obtain ⟨i, m, X, hi, rfl, hX, hm, hown, hx⟩ := hrel
      have HX := Lib.hid hX
      have HOWN := Lib.hid hown
      have HE := Lib.hid hx
      obtain ⟨ao, co, rfl⟩ := owns_form hown
      clear hX hown hx
      by_cases hlt : i < n
      · have hltI : (i : Int) < n := by omega
        obtain ⟨b, off, li, ai, ci, rfl, hLi, hcell, hli⟩ := (HL.out.grow HE.out).at hlt
        have HN := Lib.hid (flat_next hLi)
        have HLI := Lib.hid hli
        have HTL : Hid (((L.take (i + 1)).flatten).length ≤ 1048576) := Nat.le_trans (flat_le L _) ht
        obtain ⟨k, hk⟩ : ∃ k, li.length = k := ⟨_, rfl⟩
        have HK := Lib.hid hk
        rw [hk] at hcell
        have HML : Hid (X.length = m) := by have := HOWN.out.1; rw [bv_length] at this; unfold Hid; omega
        clear hLi hli hk
        go_wp2_with (at_builtin; refine wpList_append_w rfl (.tmp 30) (.tmp 34) _ _ rfl Tryd.uB hi0 hzi hszi hby W.heap.size rfl HOWN.out rfl HLI.out HK.out ?c1 ?c2 ?_)
        case c1 => have := HTL.out; rw [HN.out, ← HX.out, List.length_append] at this; omega
        case c2 => exact HE.out.size
        intro v1 w1 ho1 hg1 _
        have HO1 := Lib.hid ho1
        have HE1 : Hid (Ext Nope W w1) := HE.out.trans (Ext.grownBy (D := fun c => W.heap.size ≤ c) hg1 (fun b hb => (HOWN.out.lt b hb).1)) (fun _ _ h => h) (fun j hj h => by have : W.heap.size ≤ j := h; omega)
        clear ho1 hg1
        go_wp2_with fail
        refine ⟨⟨i + 1, X.length + li.length, X ++ li, by omega, by congr 1, by rw [HN.out, HX.out], ?_, HO1.out, HE1.out⟩, by simp [intOf]; omega⟩
        have := HTL.out; rw [HN.out, ← HX.out, List.length_append] at this; exact this
      · obtain rfl : n = i := by omega
        have hltI : ¬ ((n : Int) < n) := by omega
        rw [List.take_of_length_le (by rw [HL.out.len]; exact Nat.le_refl _)] at HX
        obtain ⟨w0, hw0⟩ : ∃ w0, w0 = wr := ⟨_, rfl⟩
        subst hw0
        by_cases hbig : m ≤ 1500
        · have hbigI : ¬ ((1500 : Int) < m) := by omega
          have HA0 : Hid (Holds (fun c => c < w0.heap.size) w0 ao co X) := by
            obtain ⟨_, a', c', e, hh'⟩ := owns_shape HOWN.out
            simp only [Value.slice.injEq] at e
            obtain ⟨rfl, _, rfl⟩ := e
            exact hh'.mono (fun c hc => hc.2.1)
          have HML : Hid (X.length = m) := by have := HOWN.out.1; rw [bv_length] at this; unfold Hid; omega
          have hcn := holds_string (Holds.nil (fun _ => True) w0) (l := []) (n := 0) rfl
          go_wp2_with fail
          refine (of_bad bits _ w0 hb4 hb5).mono ?_
          rintro e w1 ⟨rfl, rfl⟩
          go_wp2_with fail
          refine (refof_bad bits _ w0 hb4 hb5).mono ?_
          rintro e w1 ⟨rfl, rfl⟩
          go_wp2_with fail
          refine (new_bad bits w0 hb4 hb5).mono ?_
          rintro e w1 ⟨rfl, rfl⟩
          go_wp2_with fail
          go_ret
          exact ⟨rfl, HE.out⟩
        · have hbigI : (1500 : Int) < m := by omega
          go_wp2_with fail
          go_ret
          exact ⟨rfl, HE.out⟩
  · have h20I : (20 : Int) < n := by omega
    go_enter Tryd.func3, Tryd.ntmps3
    go_wp2_with fail
    go_ret
    exact ⟨rfl, Ext.refl _ _⟩

theorem sums_law (bits : Int) (a : Option Addr) (n cap : Nat) (L : List (List (BitVec 8))) (W : World) (hq : Hid (Squares W)) (hcu : Hid (Cubes W)) (HL : Hid (HoldsL W a n cap L)) (ht : L.flatten.length ≤ 1048576) :
    Calls Tryd.prog 3 #[.int .i64 bits, .slice a n cap] W (TrueOf W) := by
  by_cases h4 : bits = 384
  · subst h4; exact sums_384 a n cap L W hq hcu HL ht
  · by_cases h5 : bits = 512
    · subst h5; exact sums_512 a n cap L W hq hcu HL ht
    · exact sums_bad bits (by simp; omega) (by simp; omega) a n cap L W hq hcu HL ht
end Go.Proofs.YtcjcnpjedmpghaaDoor
