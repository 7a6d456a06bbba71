/- The reference's wide numbers, multiplied. -/
import Derived.Test.YtcjcnpjedmpghaaDoorFb
namespace Go.Proofs.YtcjcnpjedmpghaaDoor
open Go.RowKit

theorem wsum_upd {f : Nat → Nat} {j v n : Nat} (hj : j < n) : wsum (upd f j v) n + f j * 4294967296 ^ j = wsum f n + v * 4294967296 ^ j := by
  induction n with
  | zero => omega
  | succ n ih =>
    have u1 : wsum f (n + 1) = wsum f n + f n * 4294967296 ^ n := rfl
    have u2 : wsum (upd f j v) (n + 1) = wsum (upd f j v) n + upd f j v n * 4294967296 ^ n := rfl
    rw [u1, u2]
    by_cases e : j = n
    · subst e
      have hs := wsum_same (f := upd f j v) (g := f) (t := 0) (m := j) (fun i _ hi => by unfold upd; rw [if_neg (by omega)]) (by omega)
      have z1 : wsum f 0 = 0 := rfl
      have z2 : wsum (upd f j v) 0 = 0 := rfl
      rw [z1, z2, Nat.add_zero, Nat.add_zero] at hs
      have hu : upd f j v j = v := by unfold upd; rw [if_pos rfl]
      rw [hs, hu]
      omega
    · have h1 := ih (by omega)
      have hu : upd f j v n = f n := by unfold upd; rw [if_neg (fun h => e h.symm)]
      rw [hu]
      generalize f n * 4294967296 ^ n = z
      omega
theorem wval_upd {f : Nat → Nat} {j v : Nat} (hj : j < 8) : wval (upd f j v) + f j * 4294967296 ^ j = wval f + v * 4294967296 ^ j := wsum_upd hj
theorem low_upd {f : Nat → Nat} (hf : Low f) {j v : Nat} (hv : v < 4294967296) : Low (upd f j v) := fun i => by
  unfold upd; split
  · exact hv
  · exact hf i
theorem wsum_split (f : Nat → Nat) (m n : Nat) (h : m ≤ n) : ∃ r, wsum f n = wsum f m + r * 4294967296 ^ m := by
  induction n with
  | zero => obtain rfl : m = 0 := by omega
            exact ⟨0, by simp⟩
  | succ n ih =>
    by_cases e : m = n + 1
    · subst e; exact ⟨0, by simp⟩
    · obtain ⟨r, hr⟩ := ih (by omega)
      refine ⟨r + f n * 4294967296 ^ (n - m), ?_⟩
      have u1 : wsum f (n + 1) = wsum f n + f n * 4294967296 ^ n := rfl
      rw [u1, hr, Nat.add_mul, Nat.mul_assoc, ← Nat.pow_add, show n - m + m = n by omega, Nat.add_assoc]

/-- one step of the inner loop -/
theorem mul_step {out : Nat → Nat} {S c ai bk j : Nat} {Bk : Nat} (hj : j < 8) (h : wval out + c * 4294967296 ^ j = S) (hS : Bk = ai * bk) :
    wval (upd out j ((out j + Bk + c) % 4294967296)) + (out j + Bk + c) / 4294967296 * 4294967296 ^ (j + 1) = S + ai * bk * 4294967296 ^ j := by
  have h1 := wval_upd (f := out) (v := (out j + Bk + c) % 4294967296) hj
  have h2 := Nat.div_add_mod (out j + Bk + c) 4294967296
  generalize (out j + Bk + c) / 4294967296 = q at *
  generalize (out j + Bk + c) % 4294967296 = r at *
  have h3 : 4294967296 * q * 4294967296 ^ j + r * 4294967296 ^ j = out j * 4294967296 ^ j + Bk * 4294967296 ^ j + c * 4294967296 ^ j := by
    rw [← Nat.add_mul, h2, Nat.add_mul, Nat.add_mul]
  have h4 : q * 4294967296 ^ (j + 1) = 4294967296 * q * 4294967296 ^ j := by
    rw [Nat.pow_succ, Nat.mul_comm (4294967296 ^ j), ← Nat.mul_assoc, Nat.mul_comm q]
  rw [h4, ← hS, ← h]
  generalize 4294967296 * q * 4294967296 ^ j = x at *
  generalize wval (upd out j r) = y at *
  generalize r * 4294967296 ^ j = z at *
  generalize out j * 4294967296 ^ j = u at *
  generalize Bk * 4294967296 ^ j = v at *
  generalize c * 4294967296 ^ j = t at *
  omega

theorem mul_round {o0 o : Nat → Nat} {f g : Nat → Nat} {c i q P : Nat} (hi : i < 8) (hP : P = 4294967296 ^ i * 4294967296 ^ (8 - i)) (h0 : wval o0 + q * P = wsum f i * wval g) (h : wval o + c * P = wval o0 + f i * 4294967296 ^ i * wsum g (8 - i)) :
    ∃ q', wval o + q' * P = wsum f (i + 1) * wval g := by
  obtain ⟨r, hr⟩ := wsum_split g (8 - i) 8 (by omega)
  refine ⟨c + q + f i * r, ?_⟩
  have u1 : wsum f (i + 1) = wsum f i + f i * 4294967296 ^ i := rfl
  have hg : wval g = wsum g (8 - i) + r * 4294967296 ^ (8 - i) := hr
  have h2 : f i * 4294967296 ^ i * wval g = f i * 4294967296 ^ i * wsum g (8 - i) + f i * r * P := by
    rw [hg, Nat.mul_add, hP]
    congr 1
    generalize 4294967296 ^ i = x
    generalize 4294967296 ^ (8 - i) = y
    simp only [Nat.mul_left_comm, Nat.mul_comm]
  have e1 : (wsum f i + f i * 4294967296 ^ i) * wval g = wsum f i * wval g + f i * 4294967296 ^ i * wval g := Nat.add_mul _ _ _
  have e2 : (c + q + f i * r) * P = c * P + q * P + f i * r * P := by rw [Nat.add_mul, Nat.add_mul]
  rw [u1, e1, h2, e2, ← h0]
  generalize f i * r * P = x at *
  generalize f i * 4294967296 ^ i * wsum g (8 - i) = y at *
  generalize c * P = z at *
  generalize q * P = t at *
  generalize wval o = o1 at *
  generalize wval o0 = o2 at *
  clear hP hr hg u1 h2 e1 e2 h0
  omega
theorem wsum_zero (n : Nat) : wsum (fun _ => 0) n = 0 := by
  induction n with
  | zero => rfl
  | succ n ih =>
    have u1 : wsum (fun _ => 0) (n + 1) = wsum (fun _ => 0) n + 0 * 4294967296 ^ n := rfl
    rw [u1, ih, Nat.zero_mul]
theorem wval_lt {f : Nat → Nat} (hf : Low f) : wval f < 4294967296 ^ 8 := wsum_lt hf 8
theorem mod_of_add {o q P m : Nat} (ho : o < P) (h : o + q * P = m) : o = m % P := by
  rw [← h, Nat.add_mul_mod_self_right, Nat.mod_eq_of_lt ho]
def zcells : Array Value := #[.int .u64 0, .int .u64 0, .int .u64 0, .int .u64 0, .int .u64 0, .int .u64 0, .int .u64 0, .int .u64 0]
theorem mul_lt {x y : Nat} (hx : x < 4294967296) (hy : y < 4294967296) : x * y ≤ 18446744065119617025 :=
  Nat.mul_le_mul (show x ≤ 4294967295 by omega) (show y ≤ 4294967295 by omega)

set_option maxRecDepth 100000 in
set_option maxHeartbeats 1000000 in
theorem product_any (P : Nat) (hP : Hid (P = 4294967296 ^ 8)) (f g : Nat → Nat) (hf : Low f) (hg : Low g) (W : World) :
    Calls Tryd.prog 30 #[wv f, wv g] W fun e W' => ∃ o, e = .returned (wv o) ∧ Low o ∧ wval o = (wval f * wval g) % P ∧ Ext Nope W W' := by
  unfold wv
  go_enter Tryd.func30, Tryd.ntmps30
  go_wp2_with fail
  obtain ⟨W1, hW1⟩ : ∃ W1, (((W.alloc (.cells (wcells f) 62)).alloc (.cells (wcells g) 62)).alloc (.cells zcells 62)).alloc (.cells zcells 62) = W1 := ⟨_, rfl⟩
  have n1 := World.alloc_heap_new W (.cells (wcells f) 62)
  have n2 := World.alloc_heap_new (W.alloc (.cells (wcells f) 62)) (.cells (wcells g) 62)
  have n3 := World.alloc_heap_new ((W.alloc (.cells (wcells f) 62)).alloc (.cells (wcells g) 62)) (.cells zcells 62)
  have n4 := World.alloc_heap_new (((W.alloc (.cells (wcells f) 62)).alloc (.cells (wcells g) 62)).alloc (.cells zcells 62)) (.cells zcells 62)
  simp only [World.size_alloc] at n2 n3 n4
  have hx1 : Ext Nope W W1 := by rw [← hW1]; exact (((Ext.alloc _ _ _).trans (Ext.alloc _ _ _) (fun _ _ h => h) (fun _ _ h => h)).trans (Ext.alloc _ _ _) (fun _ _ h => h) (fun _ _ h => h)).trans (Ext.alloc _ _ _) (fun _ _ h => h) (fun _ _ h => h)
  have hF : W8 W1 W.heap.size f := by rw [← hW1]; exact (((w8_new n1).ext (Ext.alloc Nope _ _) (fun h => h)).ext (Ext.alloc Nope _ _) (fun h => h)).ext (Ext.alloc Nope _ _) (fun h => h)
  have hG : W8 W1 (W.heap.size + 1) g := by rw [← hW1]; exact ((w8_new n2).ext (Ext.alloc Nope _ _) (fun h => h)).ext (Ext.alloc Nope _ _) (fun h => h)
  have hR : W1.heap[W.heap.size + 1 + 1]? = some (.cells (wcells fun _ => 0) 62 (0, 0)) := by rw [← hW1]; exact (Ext.alloc Nope _ _).heap n3 (fun h => h)
  have hO : W8 W1 (W.heap.size + 1 + 1 + 1) (fun _ => 0) := by rw [← hW1]; exact w8_new n4
  clear n1 n2 n3 n4
  unfold wcells zcells at hW1
  rw [hW1]
  clear hW1
  have HF := Lib.hid hF
  have HG := Lib.hid hG
  have HR := Lib.hid hR
  have HO := Lib.hid hO
  have HX := Lib.hid hx1
  have HLF := Lib.hid hf
  have HLG := Lib.hid hg
  obtain ⟨bo, hbo⟩ : ∃ bo, W.heap.size + 1 + 1 + 1 = bo := ⟨_, rfl⟩
  obtain ⟨br, hbr⟩ : ∃ br, W.heap.size + 1 + 1 = br := ⟨_, rfl⟩
  rw [hbo] at HO ⊢
  rw [hbr] at HR ⊢
  have HB : Hid (br = W.heap.size + 2 ∧ bo = W.heap.size + 3) := ⟨by omega, by omega⟩
  clear hF hG hR hO hx1 hf hg hbo hbr
  go_loopw [6] (fun vi V => ∃ (i q : Nat) (o : Nat → Nat), i ≤ 8 ∧ vi = .int .i64 i ∧ Low o ∧ W8 V bo o ∧ wval o + q * P = wsum f i * wval g ∧ Ext (Just bo) W1 V) (fun i _ => 8 - (intOf i).toNat)
  case atStart => exact ⟨0, 0, _, by omega, rfl, fun _ => by show 0 < _; omega, HO.out, by have := wsum_zero 8; unfold wval; rw [this, Nat.zero_mul]; exact (Nat.zero_mul _).symm, Ext.refl _ _⟩
  case round =>
    obtain ⟨i, q, o0, hi, rfl, hlo, hwo, hv, hx⟩ := hrel
    have HLO := Lib.hid hlo
    have HWO := Lib.hid hwo
    have HV := Lib.hid hv
    have HX2 := Lib.hid hx
    clear hlo hwo hv hx
    by_cases hlt : i < 8
    · have hltI : (i : Int) < 8 := by omega
      go_wp2_with fail
      obtain ⟨wo, hwo⟩ : ∃ wo, wo = wr := ⟨_, rfl⟩
      subst hwo
      go_loopw [7, 8] (fun vc vk V => ∃ (c k : Nat) (o : Nat → Nat), k ≤ 8 - i ∧ c < 4294967296 ∧ vc = .int .u64 c ∧ vk = .int .i64 k ∧ Low o ∧ W8 V bo o ∧ wval o + c * 4294967296 ^ (i + k) = wval o0 + f i * 4294967296 ^ i * wsum g k ∧ Ext (Just bo) W1 V) (fun _ k _ => 8 - i - (intOf k).toNat)
      case atStart => exact ⟨0, 0, o0, by omega, by omega, rfl, rfl, HLO.out, HWO.out, by rw [Nat.zero_mul]; exact congrArg _ (Nat.mul_zero _).symm, HX2.out⟩
      case round =>
        obtain ⟨c, k, o, hk, hc, rfl, rfl, hlo, hwo, hv, hx⟩ := hrel
        have HLO2 := Lib.hid hlo
        have HWO2 := Lib.hid hwo
        have HV2 := Lib.hid hv
        have HX3 := Lib.hid hx
        clear hlo hwo hv hx
        by_cases hlt2 : i + k < 8
        · have hltI2 : (i : Int) + (k : Int) < 8 := by omega
          have ca := (HF.out.ext HX3.out (fun h => by have := HB.out; simp only [Just] at h; omega)).cell hlt
          have cb := (HG.out.ext HX3.out (fun h => by have := HB.out; simp only [Just] at h; omega)).cell (show k < 8 by omega)
          have co := HWO2.out.cell hlt2
          have cfr := HWO2.out.free
          have hml := mul_lt (HLF.out i) (HLG.out k)
          obtain ⟨m, hm⟩ : ∃ m, f i * g k = m := ⟨_, rfl⟩
          rw [hm] at hml
          have hmI : (f i : Int) * (g k : Int) = (m : Int) := by rw [← hm]; simp
          have HM := Lib.hid hm
          have hol := HLO2.out (i + k)
          obtain ⟨s, hs⟩ : ∃ s, o (i + k) + m + c = s := ⟨_, rfl⟩
          have hsI : (o (i + k) : Int) + (m : Int) + (c : Int) = (s : Int) := by omega
          have hsl : s ≤ 18446744073709551615 := by omega
          have HS := Lib.hid hs
          clear hm hs
          go_wp2_with fail
          refine wp_region_quiet_lit (by kernel_rfl) (by kernel_rfl) ?_
          repeat (go_big_quiet_step (fail))
          refine wpQuiet_nil ?_
          rintro _ ⟨nq, rfl⟩
          go_wp2_with fail
          have hset := (HWO2.out.ext (Ext.drewN Nope wr nq) (fun h => h)).set (i + k) (s % 4294967296) hlt2
          rw [show ((s % 4294967296 : Nat) : Int) = (s : Int) % 4294967296 by omega] at hset
          have hstep := mul_step (Bk := m) hlt2 HV2.out HM.out.symm
          rw [HS.out] at hstep
          refine ⟨⟨s / 4294967296, k + 1, upd o (i + k) (s % 4294967296), by omega, by omega, by congr 1, by congr 1, low_upd HLO2.out (Nat.mod_lt _ (by omega)), hset, ?_, (HX3.out.trans (Ext.drewN Nope wr nq) (E := Just bo) (fun _ _ h => h) (fun _ _ h => h.elim)).trans (Ext.setCell (D := Just bo) _ ⟨bo, i + k, none⟩ _ rfl) (fun _ _ h => h) (fun _ _ h => h)⟩, by simp [intOf]; omega⟩
          rw [show i + (k + 1) = i + k + 1 by omega, hstep]
          have u1 : wsum g (k + 1) = wsum g k + g k * 4294967296 ^ k := rfl
          rw [u1, Nat.mul_add, Nat.pow_add, ← Nat.add_assoc]
          congr 1
          generalize 4294967296 ^ i = x
          generalize 4294967296 ^ k = y
          simp only [Nat.mul_left_comm, Nat.mul_comm]
        · obtain rfl : k = 8 - i := by omega
          have hnl : ¬ ((i : Int) + ((8 - i : Nat) : Int) < 8) := by omega
          have HP : Hid (P = 4294967296 ^ i * 4294967296 ^ (8 - i)) := by unfold Hid; rw [hP.out, ← Nat.pow_add, show i + (8 - i) = 8 by omega]
          have hv8 := HV2.out
          rw [show i + (8 - i) = 8 by omega, ← hP.out] at hv8
          obtain ⟨q', hq'⟩ := mul_round hlt HP.out HV.out hv8
          have HQ' := Lib.hid hq'
          clear hv8 hq'
          go_wp2_with fail
          exact ⟨⟨i + 1, q', o, by omega, by congr 1, HLO2.out, HWO2.out, HQ'.out, HX3.out⟩, by simp [intOf]; omega⟩
    · obtain rfl : i = 8 := by omega
      have e0 := HWO.out.cell (j := 0) (by omega)
      have e1 := HWO.out.cell (j := 1) (by omega)
      have e2 := HWO.out.cell (j := 2) (by omega)
      have e3 := HWO.out.cell (j := 3) (by omega)
      have e4 := HWO.out.cell (j := 4) (by omega)
      have e5 := HWO.out.cell (j := 5) (by omega)
      have e6 := HWO.out.cell (j := 6) (by omega)
      have e7 := HWO.out.cell (j := 7) (by omega)
      have hV := HX2.out.heap HR.out (fun h => by have := HB.out; simp only [Just] at h; omega)
      have hd := w8_new hV
      have d0 := hd.cell (j := 0) (by omega)
      have d1 := hd.cell (j := 1) (by omega)
      have d2 := hd.cell (j := 2) (by omega)
      have d3 := hd.cell (j := 3) (by omega)
      have d4 := hd.cell (j := 4) (by omega)
      have d5 := hd.cell (j := 5) (by omega)
      have d6 := hd.cell (j := 6) (by omega)
      have d7 := hd.cell (j := 7) (by omega)
      have dfr := hd.free
      have HVV := Lib.hid hV
      clear hV hd
      go_wp2_with fail
      obtain ⟨hfin, hxs⟩ := set8 HVV.out (.int .u64 (o0 0)) (.int .u64 (o0 1)) (.int .u64 (o0 2)) (.int .u64 (o0 3)) (.int .u64 (o0 4)) (.int .u64 (o0 5)) (.int .u64 (o0 6)) (.int .u64 (o0 7))
      refine bodyPost_ret (results_cell_row rfl _ _ br _ _ _ _ rfl hfin Tryd.underlying62 rfl (by kernel_rfl)) rfl ⟨o0, rfl, HLO.out, ?_, ?_⟩
      · refine mod_of_add (q := q) ?_ HV.out
        rw [hP.out]; exact wval_lt HLO.out
      · exact (HX.out.trans HX2.out (E := Nope) (fun _ _ h => h) (fun j hj h => by have := HB.out; simp only [Just] at h; omega)).trans hxs (fun _ _ h => h) (fun j hj h => by have := HB.out; simp only [Just] at h; omega)
end Go.Proofs.YtcjcnpjedmpghaaDoor
