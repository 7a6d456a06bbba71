/- The reference's fractions of roots. -/
import Derived.Test.YtcjcnpjedmpghaaDoorFd
namespace Go.Proofs.YtcjcnpjedmpghaaDoor
open Go.RowKit

theorem W8.lit {V : World} {B : Nat} {f : Nat → Nat} (h : W8 V B f) : V.heap[B]? = some (.cells (wcells f) 62 (0, 0)) := by
  obtain ⟨cs, h1, h2, h3⟩ := h
  have : cs = wcells f := by
    apply Array.ext_getElem?
    intro j
    by_cases hj : j < 8
    · rw [h3 j hj]
      obtain rfl | rfl | rfl | rfl | rfl | rfl | rfl | rfl : j = 0 ∨ j = 1 ∨ j = 2 ∨ j = 3 ∨ j = 4 ∨ j = 5 ∨ j = 6 ∨ j = 7 := by omega
      all_goals rfl
    · rw [Array.getElem?_eq_none (by omega), Array.getElem?_eq_none (by show 8 ≤ j; omega)]
  rw [← this]; exact h1
theorem W8.store {V : World} {B : Nat} {f : Nat → Nat} (h : W8 V B f) (g : Nat → Nat) :
    W8 ((((((((V.setCell ⟨B, 0, none⟩ (.int .u64 (g 0))).setCell ⟨B, 1, none⟩ (.int .u64 (g 1))).setCell ⟨B, 2, none⟩ (.int .u64 (g 2))).setCell ⟨B, 3, none⟩ (.int .u64 (g 3))).setCell ⟨B, 4, none⟩ (.int .u64 (g 4))).setCell ⟨B, 5, none⟩ (.int .u64 (g 5))).setCell ⟨B, 6, none⟩ (.int .u64 (g 6))).setCell ⟨B, 7, none⟩ (.int .u64 (g 7))) B g ∧
    Ext (Just B) V ((((((((V.setCell ⟨B, 0, none⟩ (.int .u64 (g 0))).setCell ⟨B, 1, none⟩ (.int .u64 (g 1))).setCell ⟨B, 2, none⟩ (.int .u64 (g 2))).setCell ⟨B, 3, none⟩ (.int .u64 (g 3))).setCell ⟨B, 4, none⟩ (.int .u64 (g 4))).setCell ⟨B, 5, none⟩ (.int .u64 (g 5))).setCell ⟨B, 6, none⟩ (.int .u64 (g 6))).setCell ⟨B, 7, none⟩ (.int .u64 (g 7))) := by
  obtain ⟨h1, h2⟩ := set8 h.lit (.int .u64 (g 0)) (.int .u64 (g 1)) (.int .u64 (g 2)) (.int .u64 (g 3)) (.int .u64 (g 4)) (.int .u64 (g 5)) (.int .u64 (g 6)) (.int .u64 (g 7))
  exact ⟨w8_new h1, h2⟩
theorem W8.storeN {V : World} {B : Nat} {f : Nat → Nat} (h : W8 V B f) (g : Nat → Nat) :
    ∃ V', ((((((((V.setCell ⟨B, 0, none⟩ (.int .u64 (g 0))).setCell ⟨B, 1, none⟩ (.int .u64 (g 1))).setCell ⟨B, 2, none⟩ (.int .u64 (g 2))).setCell ⟨B, 3, none⟩ (.int .u64 (g 3))).setCell ⟨B, 4, none⟩ (.int .u64 (g 4))).setCell ⟨B, 5, none⟩ (.int .u64 (g 5))).setCell ⟨B, 6, none⟩ (.int .u64 (g 6))).setCell ⟨B, 7, none⟩ (.int .u64 (g 7))) = V' ∧
    W8 V' B g ∧ Ext (Just B) V V' := by
  obtain ⟨h1, h2⟩ := h.store g
  exact ⟨_, rfl, h1, h2⟩
theorem W8.lt {V : World} {B : Nat} {f : Nat → Nat} (h : W8 V B f) : B < V.heap.size := (Array.getElem?_eq_some_iff.1 h.lit).1
theorem W8.all {V : World} {B : Nat} {f : Nat → Nat} (h : W8 V B f) : V.cell? ⟨B, 0, none⟩ = some (.int .u64 (f 0)) ∧ V.cell? ⟨B, 1, none⟩ = some (.int .u64 (f 1)) ∧ V.cell? ⟨B, 2, none⟩ = some (.int .u64 (f 2)) ∧ V.cell? ⟨B, 3, none⟩ = some (.int .u64 (f 3)) ∧
    V.cell? ⟨B, 4, none⟩ = some (.int .u64 (f 4)) ∧ V.cell? ⟨B, 5, none⟩ = some (.int .u64 (f 5)) ∧ V.cell? ⟨B, 6, none⟩ = some (.int .u64 (f 6)) ∧ V.cell? ⟨B, 7, none⟩ = some (.int .u64 (f 7)) :=
  ⟨h.cell (by omega), h.cell (by omega), h.cell (by omega), h.cell (by omega), h.cell (by omega), h.cell (by omega), h.cell (by omega), h.cell (by omega)⟩
theorem upd_upd (f : Nat → Nat) (j a b : Nat) : upd (upd f j a) j b = upd f j b := by
  funext i; unfold upd; split <;> simp_all
theorem upd_at (f : Nat → Nat) (j a : Nat) : upd f j a j = a := by unfold upd; simp
theorem low_zero : Low (fun _ => 0) := fun _ => by show 0 < _; omega
theorem half_odd {n i : Nat} (h : n / 2 ^ i % 2 = 1) : n % 2 ^ (i + 1) = n % 2 ^ i + 2 ^ i := by
  rw [Nat.pow_succ, Nat.mod_mul, h, Nat.mul_one]
theorem half_even {n i : Nat} (h : n / 2 ^ i % 2 = 0) : n % 2 ^ (i + 1) = n % 2 ^ i := by
  rw [Nat.pow_succ, Nat.mod_mul, h, Nat.mul_zero, Nat.add_zero]

theorem w8_allocN (V : World) (f : Nat → Nat) : ∃ V', V.alloc (.cells #[.int .u64 (f 0), .int .u64 (f 1), .int .u64 (f 2), .int .u64 (f 3), .int .u64 (f 4), .int .u64 (f 5), .int .u64 (f 6), .int .u64 (f 7)] 62) = V' ∧ W8 V' V.heap.size f ∧ Ext Nope V V' :=
  ⟨_, rfl, w8_new (World.alloc_heap_new V _), Ext.alloc _ _ _⟩

set_option maxRecDepth 100000 in
set_option maxHeartbeats 1000000 in
theorem fraction_any (P : Nat) (hP : Hid (P = 4294967296 ^ 8)) (n k bits : Nat) (hn : n < 512) (hk : k = 2 ∨ k = 3) (hb : bits = 32 ∨ bits = 64) (W : World) :
    Calls Tryd.prog 19 #[.int .i64 n, .int .i64 k, .int .i64 bits] W fun e W' => e = .returned (.int .u64 ((rootN (n * 2 ^ (k * bits)) k (bits + 6) 0 % 2 ^ bits : Nat) : Int)) ∧ Ext Nope W W' := by
  obtain ⟨w, hw, hw8⟩ : ∃ w, k * bits = 32 * w ∧ w < 7 := by
    rcases hb with rfl | rfl
    · exact ⟨k, by omega, by omega⟩
    · exact ⟨2 * k, by omega, by omega⟩
  obtain ⟨p, hp⟩ : ∃ p, k * bits = p := ⟨_, rfl⟩
  rw [hp] at hw
  have hpI : (k : Int) * (bits : Int) = (p : Int) := by rw [← hp]; simp
  have HK := Lib.hid hk
  have HBT := Lib.hid hb
  have HPP := Lib.hid hp
  have HW := Lib.hid hw
  have hpl : p ≤ 192 := by omega
  have hbl : bits ≤ 64 := by omega
  clear hk hb hp hw
  go_enter Tryd.func19, Tryd.ntmps19
  go_wp2_with fail
  obtain ⟨W1, hW1⟩ : ∃ W1, W.alloc (.cells zcells 62) = W1 := ⟨_, rfl⟩
  have hx1 : Ext Nope W W1 := by rw [← hW1]; exact Ext.alloc _ _ _
  have hz1 : W8 W1 W.heap.size (fun _ => 0) := by rw [← hW1]; exact w8_new (World.alloc_heap_new W _)
  have hs1 : W1.heap.size = W.heap.size + 1 := by rw [← hW1]; simp
  unfold zcells at hW1
  rw [hW1]
  clear hW1
  have HX1 := Lib.hid hx1
  have HZ1 := Lib.hid hz1
  have HS1 := Lib.hid hs1
  clear hx1 hz1 hs1
  go_loopw [0, 8] (fun vn vi V => ∃ (i m m0 : Nat), i ≤ 9 ∧ vi = .int .i64 i ∧ vn = .int .i64 m ∧ m = n / 2 ^ i ∧ m0 = n % 2 ^ i ∧ W8 V W.heap.size (upd (fun _ => 0) w m0) ∧ Ext (Just W.heap.size) W1 V) (fun _ i _ => 9 - (intOf i).toNat)
  case atStart => exact ⟨0, n, 0, by omega, rfl, rfl, by simp, by simp [Nat.mod_one], by
      have e : upd (fun _ => 0) w 0 = fun _ => 0 := by funext i; unfold upd; split <;> rfl
      rw [e]; exact HZ1.out, Ext.refl _ _⟩
  case round =>
    obtain ⟨i, m, m0, hi, rfl, rfl, hm, hm0, hx, hxe⟩ := hrel
    have HXW := Lib.hid hx
    have HXE := Lib.hid hxe
    have HM := Lib.hid hm
    have HM0 := Lib.hid hm0
    have hml : m ≤ 511 := by rw [hm]; exact Nat.le_trans (Nat.div_le_self _ _) (by omega)
    have hm0l : m0 ≤ 511 := by rw [hm0]; exact Nat.le_trans (Nat.mod_le _ _) (by omega)
    clear hx hxe hm hm0
    by_cases hlt : i < 9
    · have hltI : (i : Int) < 9 := by omega
      obtain ⟨c0, c1, c2, c3, c4, c5, c6, c7⟩ := HXW.out.all
      have cfr := HXW.out.free
      have HDV : Hid (m / 2 = n / 2 ^ (i + 1)) := by unfold Hid; rw [HM.out, Nat.pow_succ, Nat.div_div_eq_div_mul]
      by_cases hodd : m % 2 = 1
      · have hoI : ((m : Int) % 2 == 1) = true := by simp; omega
        have hfl : Hid (∀ j, upd (fun _ => 0) w m0 j < 4294967296) := low_upd low_zero (by omega)
        obtain ⟨pq, hpq⟩ : ∃ pq, p + i = pq := ⟨_, rfl⟩
        have hpi : (p : Int) + (i : Int) = (pq : Int) := by omega
        have HPQ := Lib.hid hpq
        clear hpq
        go_wp2_with fail
        refine (with_any (upd (fun _ => 0) w m0) pq (by have := HPQ.out; omega) hfl wr).mono ?_
        rintro e w2 ⟨rfl, hx2⟩
        have q1 : pq / 32 = w := by have := HW.out; have := HPQ.out; omega
        have q2 : pq % 32 = i := by have := HW.out; have := HPQ.out; omega
        rw [q1, q2, upd_at, upd_upd]
        clear q1 q2
        have HX2 := Lib.hid hx2
        have HW2 : Hid (W8 w2 W.heap.size (upd (fun _ => 0) w m0)) := HXW.out.ext hx2 (fun h => h)
        obtain ⟨c0, c1, c2, c3, c4, c5, c6, c7⟩ := HW2.out.all
        have cfr := HW2.out.free
        clear hx2
        simp only [wv]
        go_wp2_with fail
        obtain ⟨hst, hse⟩ := HW2.out.store (upd (fun _ => 0) w (m0 + 2 ^ i))
        exact ⟨⟨i + 1, m / 2, m0 + 2 ^ i, by omega, by congr 1, by congr 1, HDV.out, by rw [half_odd (by rw [← HM.out]; exact hodd), HM0.out], hst,
          (HXE.out.trans HX2.out (E := Just W.heap.size) (fun _ _ h => h) (fun _ _ h => h.elim)).trans hse (fun _ _ h => h) (fun _ _ h => h)⟩, by simp [intOf]; omega⟩
      · have hoI : ((m : Int) % 2 == 1) = false := by simp; omega
        go_wp2_with fail
        exact ⟨⟨i + 1, m / 2, m0, by omega, by congr 1, by congr 1, HDV.out, by rw [half_even (by rw [← HM.out]; omega), HM0.out], HXW.out, HXE.out⟩, by simp [intOf]; omega⟩
    · obtain rfl : i = 9 := by omega
      have hm9 : m0 = n := by rw [HM0.out]; exact Nat.mod_eq_of_lt (by omega)
      subst hm9
      have HXV : Hid (wval (upd (fun _ => 0) w m0) = m0 * 2 ^ p) := by
        have h1 := wval_upd (f := fun _ => 0) (j := w) (v := m0) (by omega)
        have h2 : wval (fun _ => 0) = 0 := wsum_zero 8
        rw [h2, Nat.zero_mul, Nat.add_zero, Nat.zero_add] at h1
        unfold Hid
        rw [h1, HW.out, Nat.pow_mul]
      have HXL : Hid (Low (upd (fun _ => 0) w m0)) := low_upd low_zero (by omega)
      obtain ⟨X, hX⟩ : ∃ X, upd (fun _ => 0) w m0 = X := ⟨_, rfl⟩
      rw [hX] at HXW HXV HXL
      clear hX
      go_wp2_with fail
      obtain ⟨V0, hV0⟩ : ∃ V0, wr.alloc (.cells zcells 62) = V0 := ⟨_, rfl⟩
      have hx0 : Ext Nope wr V0 := by rw [← hV0]; exact Ext.alloc _ _ _
      have hz0 : W8 V0 wr.heap.size (fun _ => 0) := by rw [← hV0]; exact w8_new (World.alloc_heap_new wr _)
      have hs0 : V0.heap.size = wr.heap.size + 1 := by rw [← hV0]; simp
      unfold zcells at hV0
      rw [hV0]
      clear hV0
      obtain ⟨wq, hwq⟩ : ∃ wq, wq = wr := ⟨_, rfl⟩
      subst hwq
      have HX0 : Hid (Ext Nope W V0) := (HX1.out.trans HXE.out (E := Nope) (fun _ _ h => h) (fun j hj h => by simp only [Just] at h; omega)).trans hx0 (fun _ _ h => h) (fun _ _ h => h)
      have HXX0 : Hid (W8 V0 W.heap.size X) := HXW.out.ext hx0 (fun h => h)
      have HBR : Hid (W.heap.size < wq.heap.size) := by have := HXE.out.size; have := HS1.out; unfold Hid; omega
      obtain ⟨br, hbr⟩ : ∃ br, wq.heap.size = br := ⟨_, rfl⟩
      rw [hbr] at hz0 hs0 HBR ⊢
      have HZ0 := Lib.hid hz0
      have HS0 := Lib.hid hs0
      obtain ⟨res, hres⟩ : ∃ res, rootN (m0 * 2 ^ p) k (bits + 6) 0 = res := ⟨_, rfl⟩
      have HRES := Lib.hid hres
      clear hbr hz0 hs0 hx0 hres
      go_loopw [10] (fun vi V => ∃ (t : Nat) (R : Nat → Nat), t ≤ bits + 6 ∧ vi = .int .i64 ((t : Int) - 1) ∧ Low R ∧ Zb R t ∧ rootN (m0 * 2 ^ p) k t (wval R) = res ∧ wval R + 2 ^ t ≤ 2 ^ (bits + 6) ∧ W8 V br R ∧ W8 V W.heap.size X ∧ Ext (Just br) V0 V) (fun i _ => ((intOf i) + 1).toNat)
      case atStart =>
        refine ⟨bits + 6, _, by omega, by congr 1; omega, low_zero, zb_zero _, ?_, ?_, HZ0.out, HXX0.out, Ext.refl _ _⟩
        · have : wval (fun _ => 0) = 0 := wsum_zero 8
          rw [this]; exact HRES.out
        · have : wval (fun _ => 0) = 0 := wsum_zero 8
          rw [this]; omega
      case round =>
        obtain ⟨t, R, ht, rfl, hlo, hzb, hrt, hbd, hr8, hx8, hex⟩ := hrel
        have HLO := Lib.hid hlo
        have HZB := Lib.hid hzb
        have HRT := Lib.hid hrt
        have HBD := Lib.hid hbd
        have HR8 := Lib.hid hr8
        have HX8 := Lib.hid hx8
        have HEX := Lib.hid hex
        clear hlo hzb hrt hbd hr8 hx8 hex
        cases t with
        | zero =>
          have hneg : ¬ ((0 : Int) ≤ ((0 : Nat) : Int) - 1) := by omega
          have r0 := HR8.out.cell (j := 0) (by omega)
          have r1 := HR8.out.cell (j := 1) (by omega)
          have hr : wval R = res := by have := HRT.out; rw [rootN_zero] at this; exact this
          have r0l := HLO.out 0
          have r1l := HLO.out 1
          have HE2 : Hid (Ext Nope W wr) := HX0.out.trans HEX.out (fun _ _ h => h) (fun j hj h => by have := HBR.out; simp only [Just] at h; omega)
          have HV := Lib.hid hr
          clear hr
          rcases HBT.out with rfl | rfl
          · go_wp2_with fail
            go_ret
            refine ⟨?_, HE2.out⟩
            have h1 := wval_one HLO.out
            rw [HV.out, ← HRES.out, ← HPP.out] at h1
            rw [h1]; simp
          · go_wp2_with fail
            go_ret
            refine ⟨?_, HE2.out⟩
            have h1 := wval_two HLO.out
            rw [HV.out, ← HRES.out, ← HPP.out] at h1
            have h2 : ((R 0 : Int) + 4294967296 * (R 1 : Int)) = ((R 0 + 4294967296 * R 1 : Nat) : Int) := by omega
            rw [h2, h1]; simp
        | succ t =>
          have e1 : (((t + 1 : Nat) : Int)) - 1 = (t : Int) := by omega
          rw [e1]
          clear e1
          obtain ⟨c0, c1, c2, c3, c4, c5, c6, c7⟩ := HR8.out.all
          have hfl : Hid (∀ j, R j < 4294967296) := HLO.out
          go_wp2_with fail
          refine (with_any R t (by omega) hfl wr).mono ?_
          rintro e w2 ⟨rfl, hx2⟩
          have HTL : Hid (Low (upd R (t / 32) (R (t / 32) + 2 ^ (t % 32)))) := low_upd HLO.out (low_with HLO.out HZB.out)
          have HTV : Hid (wval (upd R (t / 32) (R (t / 32) + 2 ^ (t % 32))) = wval R + 2 ^ t) := wval_with (by omega)
          have HTZ : Hid (Zb (upd R (t / 32) (R (t / 32) + 2 ^ (t % 32))) t) := zb_with HZB.out
          obtain ⟨T, hT⟩ : ∃ T, upd R (t / 32) (R (t / 32) + 2 ^ (t % 32)) = T := ⟨_, rfl⟩
          rw [hT] at HTL HTV HTZ ⊢
          have HR82 : Hid (W8 w2 br R) := HR8.out.ext hx2 (fun h => h)
          have HX82 : Hid (W8 w2 W.heap.size X) := HX8.out.ext hx2 (fun h => h)
          have HEX2 : Hid (Ext (Just br) V0 w2) := HEX.out.trans hx2 (fun _ _ h => h) (fun _ _ h => h.elim)
          clear hT hx2 c0 c1 c2 c3 c4 c5 c6 c7
          simp only [wv]
          have HTS := Lib.hid (w8_allocN w2 T)
          go_wp2_with fail
          obtain ⟨V3, hV3, hT3, hx3⟩ := HTS.out
          rw [hV3]
          clear hV3 HTS
          have HX23 := Lib.hid hx3
          have HT3 := Lib.hid hT3
          clear hx3 hT3
          obtain ⟨bt, hbt⟩ : ∃ bt, w2.heap.size = bt := ⟨_, rfl⟩
          rw [hbt] at HT3 ⊢
          have HBT2 := Lib.hid hbt
          clear hbt
          refine (product_any P hP T T HTL.out HTL.out V3).mono ?_
          rintro e w4 ⟨O, rfl, hol, hov, hx4⟩
          have HOL := Lib.hid hol
          have HT4 : Hid (W8 w4 bt T) := HT3.out.ext hx4 (fun h => h)
          have HX24 : Hid (Ext Nope w2 w4) := HX23.out.trans hx4 (fun _ _ h => h) (fun _ _ h => h)
          have hbd2 : wval R + 2 ^ t + 2 ^ t ≤ 2 ^ (bits + 6) := by have := HBD.out; rw [Nat.pow_succ] at this; omega
          have htl : wval T ≤ 2 ^ 70 := by
            rw [HTV.out]
            exact Nat.le_trans (Nat.le_trans (Nat.le_add_right _ _) hbd2) (Nat.pow_le_pow_right (by omega) (by omega))
          have HTLE := Lib.hid htl
          have HBD2 := Lib.hid hbd2
          have HOV : Hid (wval O = wval T * wval T) := by
            unfold Hid
            rw [hov, Nat.mod_eq_of_lt]
            rw [hP.out]
            exact sq_small htl
          clear hol hov hx4 hbd2 htl
          simp only [wv]
          have HOS := Lib.hid (w8_allocN w4 O)
          by_cases hk3 : k = 3
          · have hkI : ((k : Int) == 3) = true := by simp; omega
            obtain ⟨t0, t1, t2, t3, t4, t5, t6, t7⟩ := HT4.out.all
            have tA0 := fun o => (Ext.alloc Nope w4 o).cell t0 (fun h => h)
            have tA1 := fun o => (Ext.alloc Nope w4 o).cell t1 (fun h => h)
            have tA2 := fun o => (Ext.alloc Nope w4 o).cell t2 (fun h => h)
            have tA3 := fun o => (Ext.alloc Nope w4 o).cell t3 (fun h => h)
            have tA4 := fun o => (Ext.alloc Nope w4 o).cell t4 (fun h => h)
            have tA5 := fun o => (Ext.alloc Nope w4 o).cell t5 (fun h => h)
            have tA6 := fun o => (Ext.alloc Nope w4 o).cell t6 (fun h => h)
            have tA7 := fun o => (Ext.alloc Nope w4 o).cell t7 (fun h => h)
            clear t0 t1 t2 t3 t4 t5 t6 t7
            go_wp2_with fail
            obtain ⟨V5, hV5, hO5, hx5⟩ := HOS.out
            rw [hV5]
            have HX25 : Hid (Ext Nope w2 V5) := HX24.out.trans hx5 (fun _ _ h => h) (fun _ _ h => h)
            have HT5 : Hid (W8 V5 bt T) := HT4.out.ext hx5 (fun h => h)
            have HO5 := Lib.hid hO5
            clear hV5 hO5 hx5 HOS tA0 tA1 tA2 tA3 tA4 tA5 tA6 tA7
            obtain ⟨bp, hbp⟩ : ∃ bp, w4.heap.size = bp := ⟨_, rfl⟩
            rw [hbp] at HO5 ⊢
            have HBP := Lib.hid hbp
            clear hbp
            refine (product_any P hP O T HOL.out HTL.out V5).mono ?_
            rintro e w6 ⟨O3, rfl, hol, hov, hx6⟩
            have HOL3 := Lib.hid hol
            have HT6 : Hid (W8 w6 bt T) := HT5.out.ext hx6 (fun h => h)
            have HO6 : Hid (W8 w6 bp O) := HO5.out.ext hx6 (fun h => h)
            have HX26 : Hid (Ext Nope w2 w6) := HX25.out.trans hx6 (fun _ _ h => h) (fun _ _ h => h)
            have HOV3 : Hid (wval O3 = wval T * wval T * wval T) := by
              unfold Hid
              rw [hov, HOV.out, Nat.mod_eq_of_lt]
              rw [hP.out]
              exact cu_small HTLE.out
            clear hol hov hx6
            simp only [wv]
            obtain ⟨c0, c1, c2, c3, c4, c5, c6, c7⟩ := HO6.out.all
            have cfr := HO6.out.free
            obtain ⟨x0, x1, x2, x3, x4, x5, x6, x7⟩ := (HX82.out.ext HX26.out (fun h => h)).all
            have HNB : Hid (W.heap.size ≠ bp) := by have := HX82.out; have := HBP.out; have := HBR.out; have := HEX2.out.size; have := HX24.out.size; have := HS0.out; unfold Hid; omega
            have HST3 := Lib.hid (HO6.out.storeN O3)
            have hnb := HNB.out
            go_wp2_with fail
            obtain ⟨V7, hV7, hO7, hx7s⟩ := HST3.out
            rw [hV7]
            have HT7b : Hid (W8 V7 bt T) := HT6.out.ext hx7s (fun h => by have := HBP.out; have := HT4.out.lt; simp only [Just] at h; omega)
            have HX27b : Hid (Ext Nope w2 V7) := HX26.out.trans hx7s (fun _ _ h => h) (fun j hj h => by have := HBP.out; have := HX24.out.size; simp only [Just] at h; omega)
            have HK2 := Lib.hid hk3
            clear hV7 hO7 hx7s HST3 c0 c1 c2 c3 c4 c5 c6 c7 cfr x0 x1 x2 x3 x4 x5 x6 x7 hnb hkI hk3
            refine (more_any O3 X HOL3.out HXL.out V7).mono ?_
            rintro e w7 ⟨rfl, hx7⟩
            have HT7 : Hid (W8 w7 bt T) := HT7b.out.ext hx7 (fun h => h)
            have HX27 : Hid (Ext Nope w2 w7) := HX27b.out.trans hx7 (fun _ _ h => h) (fun _ _ h => h)
            have HR7 : Hid (W8 w7 br R) := HR82.out.ext HX27.out (fun h => h)
            have HX7 : Hid (W8 w7 W.heap.size X) := HX82.out.ext HX27.out (fun h => h)
            have HE7 : Hid (Ext (Just br) V0 w7) := HEX2.out.trans HX27.out (fun _ _ h => h) (fun _ _ h => h.elim)
            have HNEW : Hid (rootN (m0 * 2 ^ p) k t (if (wval R + 2 ^ t) ^ k ≤ m0 * 2 ^ p then wval R + 2 ^ t else wval R) = res) := by have := HRT.out; rw [rootN_succ] at this; exact this
            have HPK : Hid (wval O3 = (wval R + 2 ^ t) ^ k) := by
              unfold Hid; rw [HOV3.out, HK2.out, HTV.out, Nat.pow_succ, Nat.pow_two]
            have HXV2 := Lib.hid HXV.out
            clear hx7
            by_cases hm : wval X < wval O3
            · have hmd : decide (wval X < wval O3) = true := by simp [hm]
              rw [hmd]
              have HNX : Hid (rootN (m0 * 2 ^ p) k t (wval R) = res) := by
                have := HNEW.out
                rw [← HPK.out, ← HXV2.out, if_neg (by omega)] at this
                rw [← HXV2.out]; exact this
              clear hmd
              go_wp2_with fail
              refine ⟨?_, by simp [intOf]⟩
              repeat (apply Exists.intro)
              refine ⟨?_, rfl⟩
              refine ⟨t, R, by omega, rfl, HLO.out, zb_mono HZB.out (by omega), HNX.out, ?_, HR7.out, HX7.out, HE7.out⟩
              exact Nat.le_trans (Nat.le_add_right _ _) HBD2.out
            · have hmd : decide (wval X < wval O3) = false := by simp; omega
              rw [hmd]
              have HNX : Hid (rootN (m0 * 2 ^ p) k t (wval T) = res) := by
                have := HNEW.out
                rw [← HPK.out, ← HXV2.out, if_pos (by omega), ← HTV.out] at this
                rw [← HXV2.out]; exact this
              obtain ⟨t0, t1, t2, t3, t4, t5, t6, t7⟩ := HT7.out.all
              obtain ⟨r0, r1, r2, r3, r4, r5, r6, r7⟩ := HR7.out.all
              have rfr := HR7.out.free
              have HST := Lib.hid (HR7.out.store T)
              clear hmd
              go_wp2_with fail
              refine ⟨?_, by simp [intOf]⟩
              repeat (apply Exists.intro)
              refine ⟨?_, rfl⟩
              refine ⟨t, T, by omega, rfl, HTL.out, HTZ.out, HNX.out, ?_, HST.out.1, HX7.out.ext HST.out.2 (fun h => by have := HBR.out; simp only [Just] at h; omega), HE7.out.trans HST.out.2 (fun _ _ h => h) (fun _ _ h => h)⟩
              have := HBD2.out; have := HTV.out; omega
          · have hkI : ((k : Int) == 3) = false := by simp; omega
            obtain ⟨x0, x1, x2, x3, x4, x5, x6, x7⟩ := (HX82.out.ext HX24.out (fun h => h)).all
            have xA0 := fun o => (Ext.alloc Nope w4 o).cell x0 (fun h => h)
            have xA1 := fun o => (Ext.alloc Nope w4 o).cell x1 (fun h => h)
            have xA2 := fun o => (Ext.alloc Nope w4 o).cell x2 (fun h => h)
            have xA3 := fun o => (Ext.alloc Nope w4 o).cell x3 (fun h => h)
            have xA4 := fun o => (Ext.alloc Nope w4 o).cell x4 (fun h => h)
            have xA5 := fun o => (Ext.alloc Nope w4 o).cell x5 (fun h => h)
            have xA6 := fun o => (Ext.alloc Nope w4 o).cell x6 (fun h => h)
            have xA7 := fun o => (Ext.alloc Nope w4 o).cell x7 (fun h => h)
            clear x0 x1 x2 x3 x4 x5 x6 x7
            go_wp2_with fail
            obtain ⟨V5, hV5, hO5, hx5⟩ := HOS.out
            rw [hV5]
            have HX25 : Hid (Ext Nope w2 V5) := HX24.out.trans hx5 (fun _ _ h => h) (fun _ _ h => h)
            have HT5 : Hid (W8 V5 bt T) := HT4.out.ext hx5 (fun h => h)
            have hk2 : k = 2 := by have := HK.out; omega
            have HK2 := Lib.hid hk2
            clear hV5 hO5 hx5 HOS xA0 xA1 xA2 xA3 xA4 xA5 xA6 xA7 hkI hk2
            refine (more_any O X HOL.out HXL.out V5).mono ?_
            rintro e w7 ⟨rfl, hx7⟩
            have HT7 : Hid (W8 w7 bt T) := HT5.out.ext hx7 (fun h => h)
            have HX27 : Hid (Ext Nope w2 w7) := HX25.out.trans hx7 (fun _ _ h => h) (fun _ _ h => h)
            have HR7 : Hid (W8 w7 br R) := HR82.out.ext HX27.out (fun h => h)
            have HX7 : Hid (W8 w7 W.heap.size X) := HX82.out.ext HX27.out (fun h => h)
            have HE7 : Hid (Ext (Just br) V0 w7) := HEX2.out.trans HX27.out (fun _ _ h => h) (fun _ _ h => h.elim)
            have HNEW : Hid (rootN (m0 * 2 ^ p) k t (if (wval R + 2 ^ t) ^ k ≤ m0 * 2 ^ p then wval R + 2 ^ t else wval R) = res) := by have := HRT.out; rw [rootN_succ] at this; exact this
            have HPK : Hid (wval O = (wval R + 2 ^ t) ^ k) := by
              unfold Hid; rw [HOV.out, HK2.out, HTV.out, Nat.pow_two]
            have HXV2 := Lib.hid HXV.out
            clear hx7
            by_cases hm : wval X < wval O
            · have hmd : decide (wval X < wval O) = true := by simp [hm]
              rw [hmd]
              have HNX : Hid (rootN (m0 * 2 ^ p) k t (wval R) = res) := by
                have := HNEW.out
                rw [← HPK.out, ← HXV2.out, if_neg (by omega)] at this
                rw [← HXV2.out]; exact this
              clear hmd
              go_wp2_with fail
              refine ⟨?_, by simp [intOf]⟩
              repeat (apply Exists.intro)
              refine ⟨?_, rfl⟩
              refine ⟨t, R, by omega, rfl, HLO.out, zb_mono HZB.out (by omega), HNX.out, ?_, HR7.out, HX7.out, HE7.out⟩
              exact Nat.le_trans (Nat.le_add_right _ _) HBD2.out
            · have hmd : decide (wval X < wval O) = false := by simp; omega
              rw [hmd]
              have HNX : Hid (rootN (m0 * 2 ^ p) k t (wval T) = res) := by
                have := HNEW.out
                rw [← HPK.out, ← HXV2.out, if_pos (by omega), ← HTV.out] at this
                rw [← HXV2.out]; exact this
              obtain ⟨t0, t1, t2, t3, t4, t5, t6, t7⟩ := HT7.out.all
              obtain ⟨r0, r1, r2, r3, r4, r5, r6, r7⟩ := HR7.out.all
              have rfr := HR7.out.free
              have HST := Lib.hid (HR7.out.store T)
              clear hmd
              go_wp2_with fail
              refine ⟨?_, by simp [intOf]⟩
              repeat (apply Exists.intro)
              refine ⟨?_, rfl⟩
              refine ⟨t, T, by omega, rfl, HTL.out, HTZ.out, HNX.out, ?_, HST.out.1, HX7.out.ext HST.out.2 (fun h => by have := HBR.out; simp only [Just] at h; omega), HE7.out.trans HST.out.2 (fun _ _ h => h) (fun _ _ h => h)⟩
              have := HBD2.out; have := HTV.out; omega
end Go.Proofs.YtcjcnpjedmpghaaDoor
