/- The reference's hash is the hash: SHA-384. -/
import Derived.Test.YtcjcnpjedmpghaaDoorFn
namespace Go.Proofs.YtcjcnpjedmpghaaDoor
open Go.RowKit

set_option maxRecDepth 100000 in
set_option maxHeartbeats 40000000 in
theorem refof_384 {p : Nat → Prop} (a : Option Addr) (n cap : Nat) (l : List (BitVec 8)) (W : World) (hh : Hid (Holds p W a cap l)) (hn : Hid (l.length = n)) (hnb : n ≤ 100000) :
    Calls Tryd.prog 9 #[.int .i64 384, .slice a n cap] W fun e W' => ∃ v, e = .returned (.tuple #[v, .int .i64 0]) ∧ W'.ownsRow W.heap.size 5 1 v (8 * 6) (bv (hash5 (8 * 6) init384 l)) ∧ Ext Nope W W' := by
  have HINI : Hid (∀ j, j < 8 → hws init384 j = sqr (j + 8)) := hws_384
  have HOFF : Hid (8 ≤ 8) := by unfold Hid; omega
  have HWN : Hid (6 ≤ 8) := by unfold Hid; omega
  have HWE : Hid (6 = 6) := rfl
  go_enter Tryd.func9, Tryd.ntmps9
  go_wp2_with fail
  refine (first_any 80 (by omega) (by omega) W).mono ?_
  rintro e w1 ⟨v1, rfl, ho1, hx1⟩
  have HO1 := Lib.hid ho1
  have HX1 := Lib.hid hx1
  clear ho1 hx1
  have hz := zero80
  have HZ1 := Lib.hid (warr80N w1)
  go_wp2_with fail
  obtain ⟨g, cp, rfl, hg0, hcp, hg1, hgc⟩ := owns_ints HO1.out (by omega)
  obtain ⟨W2, hW2, hk2, hx2, hs2⟩ := HZ1.out
  rw [hW2]
  obtain ⟨W3, hW3, hh3, hx3, hs3⟩ := warrz8N W2
  rw [hW3]
  have HX3 : Hid (Ext Nope W W3) := (HX1.out.trans hx2 (fun _ _ h => h) (fun _ _ h => h)).trans hx3 (fun _ _ h => h) (fun _ _ h => h)
  have HK3 : Hid (WArr W3 w1.heap.size 50 80 (fun _ => 0)) := hk2.ext hx3 (fun h => h)
  rw [hs2] at hh3
  have HH3 := Lib.hid hh3
  have HS3 : Hid (W3.heap.size = w1.heap.size + 2) := by unfold Hid; omega
  clear hz HZ1 hW2 hk2 hs2 hW3 hh3 hs3
  have HBK : Hid (W.heap.size ≤ w1.heap.size) := HX1.out.size
  obtain ⟨bk, hbk⟩ : ∃ bk, w1.heap.size = bk := ⟨_, rfl⟩
  rw [hbk] at HK3 HH3 HS3 HBK ⊢
  have HG : Hid (∀ (j x : Nat), (List.take 80 primesL)[j]? = some x → W3.cell? ⟨g, j, none⟩ = some (.int .i64 (x : Int))) := fun j x hj => hx3.cell (hx2.cell (hgc j x hj) (fun h => h)) (fun h => h)
  have HGN : Hid (g ≠ bk) := by unfold Hid; omega
  have HGN2 : Hid (g ≠ bk + 1) := by unfold Hid; omega
  clear HO1 hgc hx2 hx3 hbk HX1 hg0 hg1
  go_loopw [10] (fun vi V => ∃ (t : Nat) (f : Nat → BitVec 64), t ≤ 80 ∧ vi = .int .i64 t ∧ WArr V bk 50 80 f ∧ (∀ j, j < t → f j = cube j) ∧ Ext (Just bk) W3 V) (fun i _ => 80 - (intOf i).toNat)
  case atStart => exact ⟨0, _, by omega, rfl, HK3.out, fun j hj => by omega, Ext.refl _ _⟩
  case round =>
    obtain ⟨t, f, ht, rfl, hf, hfc, hx⟩ := hrel
    have HF := Lib.hid hf
    have HFC := Lib.hid hfc
    have HX := Lib.hid hx
    clear hf hfc hx
    by_cases hlt : t < 80
    · have hltI : (t : Int) < 80 := by omega
      have hne := HGN.out
      have hc := HX.out.cell (HG.out t _ (prm_get hlt)) (fun h => hne h)
      go_wp2_with fail
      refine (frac_cube t hlt wr).mono ?_
      rintro e w2 ⟨rfl, hx2⟩
      have HF2 : Hid (WArr w2 bk 50 80 f) := HF.out.ext hx2 (fun h => h)
      have hcl := HF2.out.cell hlt
      have hfr := HF2.out.free
      have HX2 : Hid (Ext (Just bk) W3 w2) := HX.out.trans hx2 (fun _ _ h => h) (fun _ _ h => h.elim)
      clear hx2 hc
      go_wp2_with fail
      exact ⟨⟨t + 1, updw f t (cube t), by omega, by congr 1, HF2.out.set _ _, fun j hj => by
        by_cases e : j = t
        · subst e; rw [updw_at]
        · rw [updw_ne _ _ e]; exact HFC.out j (by omega), HX2.out.setCells _ _⟩, by simp [intOf]; omega⟩
    · obtain rfl : t = 80 := by omega
      obtain ⟨wk, hwk⟩ : ∃ wk, wk = wr := ⟨_, rfl⟩
      subst hwk
      have HKK : Hid (∀ V, Ext Nope wk V → ∀ j, j < 80 → V.cell? ⟨bk, j, none⟩ = some (.int .u64 (wd (cube j)))) := fun V hx j hj => by
        rw [← HFC.out j hj]; exact hx.cell (HF.out.cell hj) (fun h => h)
      have HHK : Hid (WArr wk (bk + 1) 38 8 (fun _ => 0)) := HH3.out.ext HX.out (fun h => by simp only [Just] at h; omega)
      have HXK : Hid (Ext Nope W wk) := HX3.out.trans HX.out (fun _ _ h => h) (fun j hj h => by have := HBK.out; simp only [Just] at h; omega)
      have HGK : Hid (∀ V, Ext (Just (bk + 1)) wk V → ∀ j, j < 80 → V.cell? ⟨g, j, none⟩ = some (.int .i64 (prm j : Nat))) := fun V hx j hj =>
        hx.cell (HX.out.cell (HG.out j _ (prm_get hj)) (fun h => HGN.out h)) (fun h => HGN2.out h)
      have HBK2 : Hid (W.heap.size ≤ bk + 1) := by have := HBK.out; unfold Hid; omega
      clear HFC HX HF HH3 HX3 HG
      go_wp2_with fail
      go_loopw [11] (fun vi V => ∃ (t : Nat) (f : Nat → BitVec 64), t ≤ 8 ∧ vi = .int .i64 t ∧ WArr V (bk + 1) 38 8 f ∧ (∀ j, j < t → f j = hws init384 j) ∧ Ext (Just (bk + 1)) wk V) (fun i _ => 8 - (intOf i).toNat)
      case atStart => exact ⟨0, _, by omega, rfl, HHK.out, fun j hj => by omega, Ext.refl _ _⟩
      case round =>
        obtain ⟨t, f, ht, rfl, hf, hfc, hx⟩ := hrel
        have HF := Lib.hid hf
        have HFC := Lib.hid hfc
        have HX := Lib.hid hx
        clear hf hfc hx
        by_cases hlt : t < 8
        · have hltI : (t : Int) < 8 := by omega
          have hc := HGK.out _ HX.out t (by omega)
          obtain ⟨t8, htt⟩ : ∃ t8, t + 8 = t8 := ⟨_, rfl⟩
          have hc8 := HGK.out _ HX.out t8 (by omega)
          have ht8 : (t : Int) + 8 = (t8 : Int) := by omega
          have FQ := Lib.hid (frac_square t (by omega))
          have FQ8 := Lib.hid (frac_square t8 (by omega))
          obtain ⟨pt, hpt⟩ : ∃ pt, prm t = pt := ⟨_, rfl⟩
          obtain ⟨p8, hp8⟩ : ∃ p8, prm t8 = p8 := ⟨_, rfl⟩
          rw [hpt] at hc FQ
          rw [hp8] at hc8 FQ8
          clear hpt hp8
          go_wp2_with fail
          refine (FQ8.out wr).mono ?_
          rintro e w2 ⟨rfl, hx2⟩
          have HF2 : Hid (WArr w2 (bk + 1) 38 8 f) := HF.out.ext hx2 (fun h => h)
          have hcl := HF2.out.cell hlt
          have hfr := HF2.out.free
          have HX2 : Hid (Ext (Just (bk + 1)) wk w2) := HX.out.trans hx2 (fun _ _ h => h) (fun _ _ h => h.elim)
          have HV := Lib.hid (HINI.out t hlt)
          clear hx2 hc hc8 ht8
          try subst htt
          go_wp2_with fail
          refine ⟨?_, by simp [intOf]; omega⟩
          repeat (apply Exists.intro)
          refine ⟨?_, rfl⟩
          exact ⟨t + 1, updw f t (hws init384 t), by omega, by congr 1, by rw [HV.out]; exact HF2.out.set _ _, fun j hj => by
            by_cases e : j = t
            · subst e; rw [updw_at]
            · rw [updw_ne _ _ e]; exact HFC.out j (by omega), HX2.out.setCells _ _⟩
        · obtain rfl : t = 8 := by omega
          have HS8 : Hid (WArr wr (bk + 1) 38 8 (hws init384)) := HF.out.same HFC.out
          obtain ⟨wh, hwh⟩ : ∃ wh, wh = wr := ⟨_, rfl⟩
          subst hwh
          have HXH : Hid (Ext Nope W wh) := HXK.out.trans HX.out (fun _ _ h => h) (fun j hj h => by have := HBK2.out; simp only [Just] at h; omega)
          have HKH : Hid (∀ V, Ext (Just (bk + 1)) wh V → ∀ j, j < 80 → V.cell? ⟨bk, j, none⟩ = some (.int .u64 (wd (cube j)))) := fun V hx j hj =>
            hx.cell (HX.out.cell (HKK.out wk (Ext.refl _ _) j hj) (fun h => by simp only [Just] at h; omega)) (fun h => by simp only [Just] at h; omega)
          have HHH : Hid (Holds p wh a cap l) := hh.out.ext HXH.out (fun _ _ h => h)
          have HLTH : Hid (bk + 1 < wh.heap.size) := HS8.out.lt
          clear HF HFC HX HKK HGK HHK HXK HINI
          go_wp2_with fail
          refine (fill_any 128 16 (by omega) (by omega) (by omega) a n cap l wh HHH hn (by omega)).mono ?_
          rintro e w4 ⟨vm, rfl, hom, hx4⟩
          have hll : l ++ (128 : BitVec 8) :: List.replicate (fillZ n 128 16) 0 ++ fillTail (8 * n) 16 = l ++ tail5 l.length (BitVec.ofNat 64 l.length) := by
            rw [fill_zeros, fill_size n (by omega), hn.out]; unfold tail5; simp
          rw [hll] at hom
          obtain ⟨L, hL⟩ : ∃ L, l ++ tail5 l.length (BitVec.ofNat 64 l.length) = L := ⟨_, rfl⟩
          have hmod := tail5_mod l (BitVec.ofNat 64 l.length)
          rw [hL] at hom hmod
          have hfz := fillZ_lt n 128 16 (by omega)
          obtain ⟨N, hN⟩ : ∃ N, n + 1 + fillZ n 128 16 + 16 = N := ⟨_, rfl⟩
          rw [hN] at hom
          obtain ⟨gm, cm, rfl, hLN, hgm0, hcm, hgm1, hgmc⟩ := owns_bytes hom (by omega)
          obtain ⟨q, hq⟩ : ∃ q, N = 128 * q := ⟨N / 128, by omega⟩
          have hNl : N ≤ 200000 := by omega
          have HLL := Lib.hid hL
          have HLN := Lib.hid hLN
          have HQ := Lib.hid hq
          have HGM := Lib.hid hgmc
          have HG0 := Lib.hid hgm0
          have HG1 := Lib.hid hgm1
          have HX4 : Hid (Ext Nope W w4) := HXH.out.trans hx4 (fun _ _ h => h) (fun _ _ h => h)
          have HK4 : Hid (∀ V, Ext (Just (bk + 1)) w4 V → ∀ j, j < 80 → V.cell? ⟨bk, j, none⟩ = some (.int .u64 (wd (cube j)))) := fun V hx j hj =>
            hx.cell (hx4.cell (HKH.out wh (Ext.refl _ _) j hj) (fun h => h)) (fun h => by simp only [Just] at h; omega)
          have HS4 : Hid (WArr w4 (bk + 1) 38 8 (hws init384)) := HS8.out.ext hx4 (fun h => h)
          have HT0 : Hid (turnsL init384 L (List.range 0) = init384) := rfl
          have HX4w : Hid (wh.heap.size ≤ w4.heap.size) := hx4.size
          clear hom hll hL hmod hfz hN hLN hq hgmc hgm0 hgm1 hx4 HXH HKH HHH
          go_wp2_with fail
          refine wp_code (c' := Code.loop (refLoop 2)) (by kernel_rfl) ?_
          refine blocks_loop W w4 bk gm N q cm init384 L _ _ _ _ _ _ _ _ _ _ _ _ _ _ _ _ _ _ _ _ _ _ _ _ _ _ _ _ _ _ _ _ _ _ _ _ _ _ _ _ _ _ _ _ _ _ _ _ _ _ _ _ _ _ _ _ _ _ _ _ _ _ _ _ _ _ _ _ _ _ _ _ _ _ _ _ _ _ _ _ _ _ _ _ _ _ _ _ _ _ _ _ _ _ _ _ _ _ _ _ _ _ _ _ _ _ _ _ _ _ _ _ _ _ _ _ _ _ _ _ _ _ _ _ _ _ _ _ _ _ _ _ _ _ _ _ _ _ _ _ _ _ _ _ _ _ _ _ _ _ _ _ _ _ _ _ _ _ _ _ _ _ _ _ _ _ _ _ _ _ _ _ _ _ _ _ _ _ _ _ _ _ _ _ _ _ _ _ _ _ _ _ _ _ _ _ _ _ _ _ _ _ _ _ _ _ _ _ _ _ _ _ _ _ _ _ _ _ _ _ _ _ _ _ _ _ _ _ _ _ _ _ _ _ _ _ _ _ _ _ _ _ _ _ _ _ _ _ _ _ _ _ _ _ _ _ _ _ _ _ _ _ _ _ HLN HQ hNl hcm (Lib.hid ?g0) HG1 (Lib.hid ?g2) HGM HK4 HS4 (Lib.hid ?ex)
          case g0 => have := HG0.out; have := HLTH.out; omega
          case g2 => have := HLTH.out; have := HX4w.out; omega
          intro u13 u14 u15 u16 u17 u18 u19 u20 u21 u22 u23 u24 u25 u26 u76 u77 u78 u79 u80 u81 u82 u83 u84 u85 u86 u87 u88 u89 u90 u91 u92 u93 u94 u95 u96 u97 u98 u99 u100 u101 u102 u103 u104 u105 u106 u107 u108 u109 u110 u111 u112 u113 u114 u115 u116 u117 u118 u119 u120 u121 u122 u123 u124 u125 u126 u127 u128 u129 u130 u131 u132 u133 u134 u135 u136 u137 u138 u139 u140 u141 u142 u143 u144 u145 u146 u147 u148 u149 u150 u151 u152 u153 u154 u155 u156 u157 u158 u159 u160 u161 u162 u163 u164 u165 u166 u167 u168 u169 u170 u171 u172 u173 u174 u175 u176 u177 u178 u179 u180 u181 u182 u183 u184 u185 u186 u187 u188 u189 u190 u191 u192 u193 u194 u195 u196 u197 u198 u199 u200 u201 u202 u203 u204 u205 u206 u207 u208 u209 u210 u211 u212 u213 u214 u215 u216 u217 u218 u219 u220 u221 u222 u223 u224 u225 u226 u227 u228 u229 u230 u231 u232 u233 u234 u235 u236 u237 u238 u239 u240 u241 w9 hS9 hX9
          have HS := Lib.hid hS9
          obtain ⟨S, hSE⟩ : ∃ S, turns init384 L = S := ⟨_, rfl⟩
          rw [hSE] at HS
          have HSF : Hid (S = turns init384 L) := hSE.symm
          clear hSE
          have HXF : Hid (Ext Nope W w9) := HX4.out.trans hX9 (fun _ _ h => h) (fun j hj h => by have := HBK2.out; simp only [Just] at h; omega)
          clear hS9 hX9
          go_wp2_with fail
          have HOO0 : Hid (w9.ownsRow w9.heap.size 5 1 (.slice none 0 0) 0 (bv [])) := ⟨rfl, .inl ⟨rfl, rfl⟩⟩
          obtain ⟨i0, hi0, hzi, hszi, hby⟩ := info_parts Tryd.infoB
          go_loopw [27, 28] (fun vo vi V => ∃ (i n8 : Nat) (OUT : List (BitVec 8)), i ≤ 6 ∧ n8 = 8 * i ∧ vi = .int .i64 i ∧ OUT = ((hwords S).take i).flatMap wbytes ∧ V.ownsRow w9.heap.size 5 1 vo n8 (bv OUT) ∧ Ext Nope w9 V) (fun _ vi _ => 6 - (intOf vi).toNat)
          case atStart => exact ⟨0, 0, [], by omega, rfl, rfl, rfl, HOO0.out, Ext.refl _ _⟩
          case round =>
            obtain ⟨i, n8, OUT, hi, hn8, rfl, hout, hown, hx⟩ := hrel
            have HOUT := Lib.hid hout
            have HOWN := Lib.hid hown
            have HX := Lib.hid hx
            have HN8 := Lib.hid hn8
            obtain ⟨ao, co, rfl⟩ := owns_form hown
            clear hout hown hx hn8
            have hwn := HWE.out
            by_cases hlt : i < 6
            · first
                | have hltI : (i : Int) < 6 := by omega
                | have hltI : (i : Int) < 8 := by omega
              clear hwn
              have cx : wr.cell? ⟨bk + 1, i, none⟩ = some (.int .u64 ((hws S i).toNat : Int)) := (HS.out.ext HX.out (fun h => h)).cell (by omega)
              have HXV := Lib.hid (fillTail_wbytes (hws S i))
              have HXS : Hid ((hwords S)[i]? = some (hws S i)) := by
                have : i < (hwords S).length := by show i < 8; omega
                unfold Hid hws
                rw [List.getD, List.getElem?_eq_getElem this]; rfl
              have hxl := (hws S i).isLt
              obtain ⟨m0, hm0⟩ : ∃ m0, (hws S i).toNat = m0 := ⟨_, rfl⟩
              rw [hm0] at cx HXV hxl
              clear hm0
              go_wp2_with fail
              obtain ⟨wo, hwo⟩ : ∃ wo, wo = wr := ⟨_, rfl⟩
              subst hwo
              clear cx
              have HX0 := Lib.hid (Ext.refl Nope wo)
              go_loopw [29, 30, 31] (fun vl vn vi V => ∃ (j m : Nat), j ≤ 8 ∧ vi = .int .i64 j ∧ vn = .int .u64 m ∧ m = m0 / 256 ^ j ∧ V.ownsRow W.heap.size 5 1 vl j (bv (fillTail m0 j)) ∧ Ext Nope wo V) (fun _ _ i _ => 8 - (intOf i).toNat)
              case atStart => exact ⟨0, m0, by omega, rfl, rfl, by simp, ⟨rfl, .inl ⟨rfl, rfl⟩⟩, HX0.out⟩
              case round =>
                obtain ⟨j, m, hj, rfl, rfl, hm, hown, hx⟩ := hrel
                have HOJ := Lib.hid hown
                have HXJ := Lib.hid hx
                obtain ⟨aj, cj, rfl⟩ := owns_form hown
                have HM := Lib.hid hm
                have hml : m ≤ m0 := by rw [hm]; exact Nat.div_le_self _ _
                clear hown hx hm
                by_cases hlt2 : j < 8
                · have hlt2I : (j : Int) < 8 := by omega
                  have hwd : ((m : Int) % 256) = wd (BitVec.ofNat 8 m) := by unfold wd; simp
                  have HOW : Hid ((wr.alloc (.cells #[.int .u8 ((m : Int) % 256)] 5)).ownsRow wr.heap.size 5 1 (.slice (some ⟨wr.heap.size, 0, none⟩) 1 1) 1 (bv [BitVec.ofNat 8 m])) := by
                    refine ⟨rfl, .inr ⟨_, 1, _, rfl, Nat.le_refl _, World.alloc_heap_new wr _, Nat.le_refl _, by unfold maxLen; omega, rfl, ?_⟩⟩
                    rw [hwd]; rfl
                  have HHJ : Hid (Holds (fun c => W.heap.size ≤ c) (wr.alloc (.cells #[.int .u8 ((m : Int) % 256)] 5)) aj cj (fillTail m0 j)) := by
                    obtain ⟨_, a', c', e, hh'⟩ := owns_shape HOJ.out
                    simp only [Value.slice.injEq] at e
                    obtain ⟨rfl, _, rfl⟩ := e
                    exact (hh'.mono (fun c hc => hc.1)).ext (Ext.alloc Nope _ _) (fun _ _ h => h)
                  have hfl := fillTail_length m0 j
                  clear hwd
                  go_wp2_with (at_builtin; refine wpList_append_b rfl (.tmp 258) (.tmp 259) _ _ rfl Tryd.uB hi0 hzi hszi hby wr.heap.size rfl HOW.out rfl HHJ.out hfl ?c1 ?c2 ?_)
                  case c1 => rw [hfl]; simp; omega
                  case c2 => exact (Ext.alloc Nope _ _).size
                  intro v4 w4 ho4 hg4 _
                  have HX4 : Hid (Ext Nope wr w4) := (Ext.alloc Nope _ _).trans (Ext.grownBy (D := fun c => wr.heap.size ≤ c) hg4 (fun b hb => (HOW.out.lt b hb).1)) (fun _ _ h => h) (fun j hj h => by have : wr.heap.size ≤ j := h; omega)
                  have HO4 : Hid (w4.ownsRow W.heap.size 5 1 v4 (j + 1) (bv (fillTail m0 (j + 1)))) := by
                    have e : BitVec.ofNat 8 m :: fillTail m0 j = fillTail m0 (j + 1) := by rw [HM.out]; rfl
                    have h1 := ho4
                    rw [e] at h1
                    have hsz : W.heap.size ≤ wr.heap.size := Nat.le_trans (Nat.le_trans HXF.out.size HX.out.size) HXJ.out.size
                    exact ⟨h1.1, h1.2.elim Or.inl (fun ⟨g, cap, cur, hv, hg, r⟩ => Or.inr ⟨g, cap, cur, hv, Nat.le_trans hsz hg, r⟩)⟩
                  clear ho4 hg4
                  go_wp2_with fail
                  exact ⟨⟨j + 1, m / 256, by omega, by congr 1, by congr 1, by rw [HM.out, Nat.pow_succ, Nat.div_div_eq_div_mul], HO4.out, HXJ.out.trans HX4.out (fun _ _ h => h) (fun _ _ h => h)⟩, by simp [intOf]; omega⟩
                · obtain rfl : j = 8 := by omega
                  have HOO : Hid (wr.ownsRow w9.heap.size 5 1 (.slice ao n8 co) n8 (bv OUT)) := HXJ.out.owns HOWN.out (fun _ _ h => h)
                  have HHJ : Hid (Holds (fun c => W.heap.size ≤ c) wr aj cj (fillTail m0 8)) := by
                    obtain ⟨_, a', c', e, hh'⟩ := owns_shape HOJ.out
                    simp only [Value.slice.injEq] at e
                    obtain ⟨rfl, _, rfl⟩ := e
                    exact hh'.mono (fun c hc => hc.1)
                  have hfl := fillTail_length m0 8
                  have HOL : Hid (OUT.length = n8) := by have := HOO.out.1; rw [bv_length] at this; unfold Hid; omega
                  go_wp2_with (at_builtin; refine wpList_append_b rfl (.tmp 263) (.tmp 264) _ _ rfl Tryd.uB hi0 hzi hszi hby w9.heap.size rfl HOO.out rfl HHJ.out hfl ?c1 ?c2 ?_)
                  case c1 => have := HOL.out; have := HN8.out; omega
                  case c2 => exact Nat.le_trans HX.out.size HXJ.out.size
                  intro v5 w5 ho5 hg5 _
                  have HX5 : Hid (Ext Nope w9 w5) := (HX.out.trans HXJ.out (fun _ _ h => h) (fun _ _ h => h)).trans (Ext.grownBy (D := fun c => w9.heap.size ≤ c) hg5 (fun b hb => (HOO.out.lt b hb).1)) (fun _ _ h => h) (fun j hj h => by have : w9.heap.size ≤ j := h; omega)
                  have HO5 := Lib.hid ho5
                  clear ho5 hg5
                  go_wp2_with fail
                  refine ⟨⟨i + 1, n8 + 8, OUT ++ fillTail m0 8, by omega, by have := HN8.out; omega, by congr 1, ?_, ?_, HX5.out⟩, by simp [intOf]; omega⟩
                  · rw [HOUT.out, HXV.out, ← flat_snoc _ _ _ HXS.out]
                  · have h1 := HO5.out
                    have hlen : (OUT ++ fillTail m0 8).length = n8 + 8 := by rw [List.length_append, HOL.out, hfl]
                    first
                      | exact hlen ▸ h1
                      | simpa [HOL.out] using h1
            · have hiw : i = 6 := by omega
              first
                | have hltI : ¬ ((i : Int) < 8) := by omega
                | have hltI : ¬ ((i : Int) < 6) := by omega
              clear hwn
              go_wp2_with fail
              go_ret2
              refine ⟨_, rfl, ?_, HXF.out.trans HX.out (fun _ _ h => h) (fun _ _ h => h)⟩
              have h1 := owns_weaken HOWN.out HXF.out.size
              rw [HOUT.out, flat_take _ _ (by have := HWN.out; omega), ← HN8.out, HSF.out] at h1
              unfold hash5 sum5
              rw [HLL.out]
              obtain rfl : n8 = 8 * 6 := by have := HN8.out; omega
              exact h1
end Go.Proofs.YtcjcnpjedmpghaaDoor
