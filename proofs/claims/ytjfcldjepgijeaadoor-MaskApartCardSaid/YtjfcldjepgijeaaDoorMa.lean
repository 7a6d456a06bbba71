/- The law MaskApart. -/
import Derived.Test.YtjfcldjepgijeaaDoorEl
import Derived.Test.YtjfcldjepgijeaaDoorMp
namespace Go.Proofs.YtjfcldjepgijeaaDoor
open Go.RowKit Go.Shelf Go.Sort

theorem toList_inj {s t : ByteArray} (h : s.toList = t.toList) : s = t := by
  rw [ByteArray.toList_eq, ByteArray.toList_eq] at h
  cases s; cases t; simpa using h
theorem enc_at (z : Int) (l : List (BitVec 8)) (q i : Nat) (h1 : 2 ≤ i) (h2 : i < 2 + q) : (encN z l q)[i]? = some 255 := by
  unfold encN
  rw [List.getElem?_append_right (by simpa using h1), List.getElem?_append_left (by simp; omega), List.getElem?_replicate, if_pos (by simp; omega)]
theorem enc_nought (z : Int) (l : List (BitVec 8)) (q : Nat) : (encN z l q)[2 + q]? = some 0 := by
  unfold encN
  rw [List.getElem?_append_right (by simp), List.getElem?_append_right (by simp)]
  simp
theorem enc_drop (z : Int) (l : List (BitVec 8)) (q : Nat) : (encN z l q).drop (3 + q) = headN z ++ l := by
  unfold encN
  rw [← List.append_assoc, ← List.append_assoc, List.drop_left']
  simp; omega
theorem enc_apart {z y : Int} {l m : List (BitVec 8)} {q r : Nat} (hz : sizeN z = l.length) (hy : sizeN y = m.length) (h0 : sizeN z ≠ 0) (h1 : sizeN y ≠ 0) (hq : 22 + l.length + q = 22 + m.length + r) (h : encN z l q = encN y m r) : z = y ∧ l = m := by
  have e : q = r := by
    rcases Nat.lt_trichotomy q r with h2 | h2 | h2
    · have g1 := enc_nought z l q
      rw [h, enc_at y m r (2 + q) (by omega) (by omega)] at g1
      simp at g1
    · exact h2
    · have g1 := enc_nought y m r
      rw [← h, enc_at z l q (2 + r) (by omega) (by omega)] at g1
      simp at g1
  subst e
  have g2 := enc_drop z l q
  rw [h, enc_drop] at g2
  have g3 := (List.append_inj g2 rfl).2
  have hl : l = m := g3.symm
  refine ⟨?_, hl⟩
  rw [hl] at hz
  have : sizeN z = sizeN y := by omega
  obtain rfl | rfl | rfl | rfl := sizeN_cases z h0 <;> obtain rfl | rfl | rfl | rfl := sizeN_cases y h1 <;> first | rfl | (simp [sizeN] at this)

/-- a digest that is filled up, or cut -/
def cutN (wide long : Bool) (l : List (BitVec 8)) : List (BitVec 8) := (l ++ List.replicate 64 0).take (szW wide long)
theorem cutN_length (wide long : Bool) (l : List (BitVec 8)) : (cutN wide long l).length = szW wide long := by
  unfold cutN; have := szW_hi wide long; simp; omega
theorem mod_500 (x : Nat) : ∃ r N : Nat, (x : Int) % 500 = (r : Int) ∧ 94 + (r : Int) = (N : Int) ∧ r < 500 ∧ N = 94 + r := ⟨x % 500, 94 + x % 500, by omega, by omega, by omega, rfl⟩

set_option maxHeartbeats 2000000 in
set_option maxRecDepth 100000 in
theorem apart8 {p p' : Nat → Prop} (z0 z1 : Int) (h00 : 0 ≤ z0) (h01 : z0 ≤ 255) (h10 : 0 ≤ z1) (h11 : z1 ≤ 255) (a : Option Addr) (n c : Nat) (l : List (BitVec 8)) (a' : Option Addr) (n' c' : Nat) (l' : List (BitVec 8)) (x4 : Nat) (hx4 : x4 ≤ 65535) (W : World)
    (hl : Hid (Laid8 W)) (hh : Hid (Holds p W a c l)) (hn : Hid (l.length = n)) (hnb : Hid (n ≤ 140737488351232)) (hh' : Hid (Holds p' W a' c' l')) (hn' : Hid (l'.length = n')) (hnb' : Hid (n' ≤ 140737488351232)) :
    Calls Tryd.prog 6 #[.int .u8 z0, .int .u8 z1, .slice a n c, .slice a' n' c', .int .u16 x4] W (TrueOf W) := by
  go_enter Tryd.func6, Tryd.ntmps6
  go_wp2_with fail
  refine (alive_any W hl).mono ?_
  rintro e w1 ⟨rfl, hx1⟩
  have HX1 := Lib.hid hx1
  clear hx1
  go_wp2_with fail
  refine (hash_num z0 h00 h01 _).mono ?_
  rintro e w2 ⟨wide, long, rfl, hw2⟩
  rw [hw2]
  clear hw2 w2
  go_wp2_with fail
  refine (hash_num z1 h10 h11 _).mono ?_
  rintro e w2 ⟨wide', long', rfl, hw2⟩
  rw [hw2]
  clear hw2 w2
  obtain ⟨i0, hi0, hzi, hszi, hby⟩ := info_parts Tryd.infoB
  obtain ⟨we3, hwe⟩ : ∃ we3, w1.alloc (.cells #[] 5) = we3 := ⟨_, rfl⟩
  have HOW : Hid (we3.ownsRow w1.heap.size 5 1 (.slice (some ⟨w1.heap.size, 0, none⟩) 0 0) 0 (bv [])) := by
    rw [← hwe]; exact ⟨rfl, .inr ⟨_, 0, #[], rfl, Nat.le_refl _, World.alloc_heap_new w1 _, Nat.le_refl _, Nat.zero_le _, rfl, rfl⟩⟩
  have hxe : Ext Nope w1 we3 := by rw [← hwe]; exact Ext.alloc _ _ _
  have HXE : Hid (Ext Nope w1 we3) := hxe
  have HPE := Lib.hid (hh.out.ext (HX1.out.trans hxe (E := Nope) (fun _ _ h => h) (fun _ _ h => h)) (fun _ _ h => h))
  have HSE := Lib.hid hxe.size
  obtain ⟨B3, hB⟩ : ∃ B3, w1.heap.size = B3 := ⟨_, rfl⟩
  have HBW : Hid (w1.heap.size ≤ B3) := Nat.le_of_eq hB
  rw [hB] at HOW HSE
  clear hxe
  go_wp2_with (at_builtin; refine wpList_append_b rfl (.tmp 29) (.tmp 30) _ _ rfl Tryd.uB hi0 hzi hszi hby B3 rfl HOW.out rfl HPE.out hn.out ?c1 ?c2 ?_)
  case c1 => have := hn.out; have := hnb.out; simp; omega
  case c2 => exact HSE.out
  intro v7 w7 ho7 hg7 _
  have ho7 : w7.ownsRow B3 5 1 v7 n (bv l) := by have h := ho7; simpa [hn.out] using h
  have hx7 : Ext (fun c => B3 ≤ c) we3 w7 := Ext.grownBy hg7 (fun b hb => (HOW.out.lt b hb).1)
  have HX7 : Hid (Ext Nope w1 w7) := HXE.out.trans hx7 (fun _ _ h => h) (fun j hj h => by have h1 : B3 ≤ j := h; have h2 := HBW.out; omega)
  have HO7 := Lib.hid ho7
  have HB7 : Hid (B3 ≤ w7.heap.size) := Nat.le_trans HSE.out hx7.size
  clear ho7 hg7 hwe hx7
  go_wp2_with (at_builtin; refine wpList_append_z rfl (.tmp 31) _ _ _ _ rfl Tryd.uB Tryd.underlying3 hi0 hzi hszi hby B3 64 rfl HO7.out rfl rfl ?c1 ?c2 ?_)
  case c1 => have := hn.out; have := hnb.out; omega
  case c2 => exact HB7.out
  intro v8 w3 ho8 hg8 _
  have hx8 : Ext (fun c => B3 ≤ c) w7 w3 := Ext.grownBy hg8 (fun b hb => (HO7.out.lt b hb).1)
  have HX3 : Hid (Ext Nope W w3) := (HX1.out.trans HX7.out (E := Nope) (fun _ _ h => h) (fun _ _ h => h)).trans hx8 (fun _ _ h => h) (fun j hj h => by have h1 : B3 ≤ j := h; have h2 := HBW.out; have h3 := HX1.out.size; omega)
  have HXw3 : Hid (Ext Nope w1 w3) := HX7.out.trans hx8 (fun _ _ h => h) (fun j hj h => by have h1 : B3 ≤ j := h; have h2 := HBW.out; omega)
  have ho8 : w3.ownsRow B3 5 1 v8 (l ++ List.replicate 64 0).length (bv (l ++ List.replicate 64 0)) := by rw [List.length_append, List.length_replicate]; exact ho8
  obtain ⟨_, a3, c3, rfl, hh3⟩ := owns_shape ho8
  obtain ⟨M3, hM3⟩ : ∃ M3, (l ++ List.replicate 64 0).length = M3 := ⟨_, rfl⟩
  have hmc3 : M3 ≤ c3 := by rw [← hM3]; exact hh3.len
  have hm64 : 64 ≤ M3 := by rw [← hM3]; simp
  have hsz64 := szW_hi wide long
  have hcap3 : ((szW wide long : Nat) : Int) ≤ (c3 : Int) := by omega
  have hlow3 : (0 : Int) ≤ ((szW wide long : Nat) : Int) := by omega
  have HH3 : Hid (Holds (fun _ => True) w3 a3 c3 (cutN wide long l)) := (hh3.upto (hi := szW wide long) (by omega)).mono (fun _ _ => trivial)
  have HL3 : Hid (Laid8 w3) := hl.out.ext HX3.out
  rw [hM3]
  clear ho8 hg8 hx8 hh3 hM3 hB HOW HXE HPE HSE HBW HX7 HO7 HB7 hmc3 hm64 hsz64
  go_wp2_with fail
  refine (size_W wide long _ HL3.out.1).mono ?_
  rintro e w2 ⟨rfl, hw2⟩
  rw [hw2]
  clear hw2 w2
  obtain ⟨we4, hwe⟩ : ∃ we4, w3.alloc (.cells #[] 5) = we4 := ⟨_, rfl⟩
  have HOW : Hid (we4.ownsRow w3.heap.size 5 1 (.slice (some ⟨w3.heap.size, 0, none⟩) 0 0) 0 (bv [])) := by
    rw [← hwe]; exact ⟨rfl, .inr ⟨_, 0, #[], rfl, Nat.le_refl _, World.alloc_heap_new w3 _, Nat.le_refl _, Nat.zero_le _, rfl, rfl⟩⟩
  have hxe : Ext Nope w3 we4 := by rw [← hwe]; exact Ext.alloc _ _ _
  have HXE : Hid (Ext Nope w3 we4) := hxe
  have HPE := Lib.hid (hh'.out.ext (HX3.out.trans hxe (E := Nope) (fun _ _ h => h) (fun _ _ h => h)) (fun _ _ h => h))
  have HSE := Lib.hid hxe.size
  obtain ⟨B4, hB⟩ : ∃ B4, w3.heap.size = B4 := ⟨_, rfl⟩
  have HBW : Hid (w3.heap.size ≤ B4) := Nat.le_of_eq hB
  rw [hB] at HOW HSE
  clear hxe
  go_wp2_with (at_builtin; refine wpList_append_b rfl (.tmp 36) (.tmp 37) _ _ rfl Tryd.uB hi0 hzi hszi hby B4 rfl HOW.out rfl HPE.out hn'.out ?c1 ?c2 ?_)
  case c1 => have := hn'.out; have := hnb'.out; simp; omega
  case c2 => exact HSE.out
  intro v7 w7 ho7 hg7 _
  have ho7 : w7.ownsRow B4 5 1 v7 n' (bv l') := by have h := ho7; simpa [hn'.out] using h
  have hx7 : Ext (fun c => B4 ≤ c) we4 w7 := Ext.grownBy hg7 (fun b hb => (HOW.out.lt b hb).1)
  have HX7 : Hid (Ext Nope w3 w7) := HXE.out.trans hx7 (fun _ _ h => h) (fun j hj h => by have h1 : B4 ≤ j := h; have h2 := HBW.out; omega)
  have HO7 := Lib.hid ho7
  have HB7 : Hid (B4 ≤ w7.heap.size) := Nat.le_trans HSE.out hx7.size
  clear ho7 hg7 hwe hx7
  go_wp2_with (at_builtin; refine wpList_append_z rfl (.tmp 38) _ _ _ _ rfl Tryd.uB Tryd.underlying3 hi0 hzi hszi hby B4 64 rfl HO7.out rfl rfl ?c1 ?c2 ?_)
  case c1 => have := hn'.out; have := hnb'.out; omega
  case c2 => exact HB7.out
  intro v8 w4 ho8 hg8 _
  have hx8 : Ext (fun c => B4 ≤ c) w7 w4 := Ext.grownBy hg8 (fun b hb => (HO7.out.lt b hb).1)
  have HX4 : Hid (Ext Nope W w4) := (HX3.out.trans HX7.out (E := Nope) (fun _ _ h => h) (fun _ _ h => h)).trans hx8 (fun _ _ h => h) (fun j hj h => by have h1 : B4 ≤ j := h; have h2 := HBW.out; have h3 := HX3.out.size; omega)
  have HXw4 : Hid (Ext Nope w3 w4) := HX7.out.trans hx8 (fun _ _ h => h) (fun j hj h => by have h1 : B4 ≤ j := h; have h2 := HBW.out; omega)
  have ho8 : w4.ownsRow B4 5 1 v8 (l' ++ List.replicate 64 0).length (bv (l' ++ List.replicate 64 0)) := by rw [List.length_append, List.length_replicate]; exact ho8
  obtain ⟨_, a4, c4, rfl, hh4⟩ := owns_shape ho8
  obtain ⟨M4, hM4⟩ : ∃ M4, (l' ++ List.replicate 64 0).length = M4 := ⟨_, rfl⟩
  have hmc4 : M4 ≤ c4 := by rw [← hM4]; exact hh4.len
  have hm64 : 64 ≤ M4 := by rw [← hM4]; simp
  have hsz64 := szW_hi wide' long'
  have hcap4 : ((szW wide' long' : Nat) : Int) ≤ (c4 : Int) := by omega
  have hlow4 : (0 : Int) ≤ ((szW wide' long' : Nat) : Int) := by omega
  have HH4 : Hid (Holds (fun _ => True) w4 a4 c4 (cutN wide' long' l')) := (hh4.upto (hi := szW wide' long') (by omega)).mono (fun _ _ => trivial)
  have HL4 : Hid (Laid8 w4) := hl.out.ext HX4.out
  rw [hM4]
  clear ho8 hg8 hx8 hh4 hM4 hB HOW HXE HPE HSE HBW HX7 HO7 HB7 hmc4 hm64 hsz64
  go_wp2_with fail
  refine (size_W wide' long' _ HL4.out.1).mono ?_
  rintro e w2 ⟨rfl, hw2⟩
  rw [hw2]
  clear hw2 w2
  obtain ⟨r, N, q1, q2, hr, hNr⟩ := mod_500 x4
  have HNR := Lib.hid (And.intro hr hNr)
  have HX34 := HXw4
  have HLX : Hid ((cutN wide long l).length = szW wide long) := cutN_length _ _ _
  have HLY : Hid ((cutN wide' long' l').length = szW wide' long') := cutN_length _ _ _
  have HX : Hid (Holds (fun _ => True) w4 a3 c3 (cutN wide long l)) := HH3.out.ext HX34.out (fun _ _ h => h)
  obtain ⟨x, hx⟩ : ∃ x, cutN wide long l = x := ⟨_, rfl⟩
  obtain ⟨y, hy⟩ : ∃ y, cutN wide' long' l' = y := ⟨_, rfl⟩
  rw [hx] at HX HLX
  rw [hy] at HH4 HLY
  obtain ⟨z, hz⟩ : ∃ z, numW wide long = z := ⟨_, rfl⟩
  obtain ⟨z', hz'⟩ : ∃ z', numW wide' long' = z' := ⟨_, rfl⟩
  have HZ : Hid (sizeN z = (szW wide long : Nat)) := by rw [← hz]; exact sizeN_W _ _
  have HZ' : Hid (sizeN z' = (szW wide' long' : Nat)) := by rw [← hz']; exact sizeN_W _ _
  obtain ⟨m, hm⟩ : ∃ m, szW wide long = m := ⟨_, rfl⟩
  obtain ⟨m', hm'⟩ : ∃ m', szW wide' long' = m' := ⟨_, rfl⟩
  have HM : Hid (1 ≤ m ∧ m ≤ 64) := by rw [← hm]; exact ⟨szW_lo _ _, szW_hi _ _⟩
  have HM' : Hid (1 ≤ m' ∧ m' ≤ 64) := by rw [← hm']; exact ⟨szW_lo _ _, szW_hi _ _⟩
  rw [hz, hz', hm, hm']
  rw [hm] at HZ HLX hcap3 hlow3
  rw [hm'] at HZ' HLY hcap4 hlow4
  clear hx hy hz hz' hm hm' hr hNr HH3 HX3 HL3 hcap3 hlow3
  obtain ⟨q, hq⟩ : ∃ q, N - 22 - m = q := ⟨_, rfl⟩
  obtain ⟨q', hq'⟩ : ∃ q', N - 22 - m' = q' := ⟨_, rfl⟩
  have HQ : Hid (8 ≤ q ∧ q ≤ 600 ∧ N = 22 + m + q) := by have := HM.out; have := HNR.out; unfold Hid; omega
  have HQ' : Hid (8 ≤ q' ∧ q' ≤ 600 ∧ N = 22 + m' + q') := by have := HM'.out; have := HNR.out; unfold Hid; omega
  clear hq hq'
  have HE1 := Lib.hid (encode_any z m q HZ.out (by have := HM.out; omega) a3 c3 x w4 (Lib.hid HL4.out.1) HX HLX HQ.out.1 (by have := HQ.out; omega) N HQ.out.2.2)
  go_wp2_with fail
  clear hcap4 hlow4
  refine HE1.out.mono ?_
  rintro e w5 ⟨v5, rfl, a5, c5, rfl, hh5, hx5⟩
  have HX5 : Hid (Ext Nope W w5) := HX4.out.trans hx5 (fun _ _ h => h) (fun _ _ h => h)
  have HY5 : Hid (Holds (fun _ => True) w5 a4 c4 y) := HH4.out.ext hx5 (fun _ _ h => h)
  have HXD5 : Hid (Holds (fun _ => True) w5 a3 c3 x) := HX.out.ext hx5 (fun _ _ h => h)
  have HCL : Hid ((encN z x q).length = N) := by unfold Hid; rw [encN_length, HLX.out]; have := HQ.out; omega
  have HDL : Hid ((encN z' y q').length = N) := by unfold Hid; rw [encN_length, HLY.out]; have := HQ'.out; omega
  have HC5 : Hid (Holds (fun _ => True) w5 a5 c5 (encN z x q)) := hh5.mono (fun _ _ => trivial)
  have HL5 : Hid (Laid8 w5) := hl.out.ext HX5.out
  have HE2 := Lib.hid (encode_any z' m' q' HZ'.out (by have := HM'.out; omega) a4 c4 y w5 (Lib.hid HL5.out.1) HY5 HLY HQ'.out.1 (by have := HQ'.out; omega) N HQ'.out.2.2)
  rw [HCL.out]
  clear hh5 hx5
  go_wp2_with fail
  refine HE2.out.mono ?_
  rintro e w6 ⟨v6, rfl, a6, c6, rfl, hh6, hx6⟩
  have HX6 : Hid (Ext Nope W w6) := HX5.out.trans hx6 (fun _ _ h => h) (fun _ _ h => h)
  have HY6 := Lib.hid (HY5.out.ext hx6 (fun _ _ h => h))
  have HXD6 := Lib.hid (HXD5.out.ext hx6 (fun _ _ h => h))
  have HC6 := Lib.hid (HC5.out.ext hx6 (fun _ _ h => h))
  have HD6 : Hid (Holds (fun _ => True) w6 a6 c6 (encN z' y q')) := hh6.mono (fun _ _ => trivial)
  have HL6 : Hid (Laid8 w6) := hl.out.ext HX6.out
  have HF := Lib.hid (frame_any z m HZ.out (by have := HM.out; omega) a3 c3 x w6 (Lib.hid HL6.out.1) HXD6 HLX)
  rw [HDL.out]
  clear hh6 hx6
  go_wp2_with fail
  refine HF.out.mono ?_
  rintro e w7 ⟨v7, rfl, a7, c7, rfl, hh7, hx7⟩
  have HX7 : Hid (Ext Nope W w7) := HX6.out.trans hx7 (fun _ _ h => h) (fun _ _ h => h)
  have HY7 := Lib.hid (HY6.out.ext hx7 (fun _ _ h => h))
  have HXD7 := Lib.hid (HXD6.out.ext hx7 (fun _ _ h => h))
  have HC7 := Lib.hid (HC6.out.ext hx7 (fun _ _ h => h))
  have HD7 := Lib.hid (HD6.out.ext hx7 (fun _ _ h => h))
  have HF7 : Hid (Holds (fun _ => True) w7 a7 c7 (headN z ++ x)) := hh7.mono (fun _ _ => trivial)
  have HFLN : Hid ((headN z ++ x).length = 19 + m) := by unfold Hid; rw [List.length_append, HLX.out]; rfl
  have HAT : Hid (∀ i, 2 ≤ i → i < 2 + q → (encN z x q)[i]? = some 255) := fun i h1 h2 => enc_at z x q i h1 h2
  have HNO : Hid ((encN z x q)[2 + q]? = some 0) := enc_nought z x q
  have HDR : Hid ((encN z x q).drop (3 + q) = headN z ++ x) := enc_drop z x q
  have H0 : Hid ((encN z x q)[0]? = some 0) := rfl
  have H1 : Hid ((encN z x q)[1]? = some 1) := rfl
  have HAP : Hid (encN z x q = encN z' y q' → z = z' ∧ x = y) := fun h => enc_apart (by rw [HZ.out, HLX.out]) (by rw [HZ'.out, HLY.out]) (by rw [HZ.out]; have := HM.out; omega) (by rw [HZ'.out]; have := HM'.out; omega) (by rw [HLX.out, HLY.out]; have := HQ.out; have := HQ'.out; omega) h
  have HSAME : Hid (z = z' → x = y → encN z x q = encN z' y q') := fun h1 h2 => by
    have e1 : m = m' := by have g1 := HZ.out; have g2 := HZ'.out; rw [h1] at g1; omega
    have e2 : q = q' := by have := HQ.out; have := HQ'.out; omega
    rw [h1, h2, e2]
  obtain ⟨C, hC⟩ : ∃ C, encN z x q = C := ⟨_, rfl⟩
  obtain ⟨D, hD⟩ : ∃ D, encN z' y q' = D := ⟨_, rfl⟩
  obtain ⟨R, hR⟩ : ∃ R, headN z ++ x = R := ⟨_, rfl⟩
  rw [hC] at HAT HNO HDR H0 H1 HAP HSAME HC7 HCL
  rw [hD] at HAP HSAME HD7 HDL
  rw [hR] at HDR HF7 HFLN ⊢
  rw [HFLN.out]
  clear hC hD hR hh7 hx7 HC6 HC5 HD6 HF HE1 HE2 HXD6 HXD5 HY6 HY5
  obtain ⟨b5, o5, rfl, -, -, hcell⟩ := HC7.out.cells (fun h => by have g1 := HCL.out; rw [h] at g1; have g2 := HQ.out; simp at g1; omega)
  have hc0 := hcell 0 _ H0.out
  have hc1 := hcell 1 _ H1.out
  have hcP := hcell (2 + q) _ HNO.out
  obtain ⟨F, hF⟩ : ∃ F, 19 + m = F := ⟨_, rfl⟩
  obtain ⟨P, hP⟩ : ∃ P, 2 + q = P := ⟨_, rfl⟩
  obtain ⟨Q, hQ⟩ : ∃ Q, 3 + q = Q := ⟨_, rfl⟩
  have HPQ : Hid (F = 19 + m ∧ P = 2 + q ∧ Q = 3 + q) := ⟨hF.symm, hP.symm, hQ.symm⟩
  have j1 : (N : Int) - (F : Int) = (Q : Int) := by have := HQ.out; omega
  have j2 : (Q : Int) - 1 = (P : Int) := by omega
  have j3 : (0 : Int) < N := by have := HQ.out; omega
  have j4 : (1 : Int) < N := by have := HQ.out; omega
  have j5 : (P : Int) < N := by have := HQ.out; omega
  have j6 : (Q : Int) ≤ N := by have := HQ.out; omega
  have j7 : N - Q = F := by have := HQ.out; omega
  have j8 : ¬ (c5 = Q) := by have g1 := HC7.out.len; have g2 := HCL.out; have := HQ.out; omega
  have j9 : N ≤ 594 := by have := HNR.out; omega
  have jc : (N : Int) ≤ c5 := by have g1 := HC7.out.len; have g2 := HCL.out; omega
  rw [hF]
  rw [hP] at hcP HAT
  rw [hQ] at HDR
  clear hF hP hQ hcell
  have hc0' : w7.cell? ⟨b5, o5, none⟩ = some (.int .u8 0) := by rw [Nat.add_zero] at hc0; exact hc0
  have hc1' : w7.cell? ⟨b5, o5 + 1, none⟩ = some (.int .u8 1) := hc1
  have hcP' : w7.cell? ⟨b5, o5 + P, none⟩ = some (.int .u8 0) := hcP
  clear hc0 hc1 hcP
  have HR7 : Hid (Holds (fun _ => True) w7 (some ⟨b5, o5 + Q, none⟩) (c5 - Q) R) := by
    have h1 := HC7.out.from (lo := Q) (by have := HCL.out; have := HPQ.out; have := HQ.out; omega) (by have g1 := HC7.out.len; have g2 := HCL.out; have := HPQ.out; have := HQ.out; omega)
    rw [HDR.out] at h1
    rw [Option.map_some, addr_add] at h1
    exact h1
  have hA : ∀ nq, (convert 23 9 (.slice (some ⟨b5, o5 + Q, none⟩) F (c5 - Q))).run Tryd.prog (w7.drewN nq) = .ok (.string (strOf R)) (w7.drewN nq) := fun nq =>
    holds_string (HR7.out.ext (Ext.drewN Nope w7 nq) (fun _ _ h => h)) (by have := HFLN.out; have := HPQ.out; omega)
  have hB' : ∀ nq, (convert 23 9 (.slice a7 F c7)).run Tryd.prog (w7.drewN nq) = .ok (.string (strOf R)) (w7.drewN nq) := fun nq =>
    holds_string (HF7.out.ext (Ext.drewN Nope w7 nq) (fun _ _ h => h)) (by have := HFLN.out; have := HPQ.out; omega)
  go_wp2_with fail
  refine wp_region_quiet_lit (by kernel_rfl) (by kernel_rfl) ?_
  repeat (go_big_quiet_step (fail))
  refine wpQuiet_nil ?_
  rintro _ ⟨nq2, rfl⟩
  obtain ⟨w8, hw8⟩ : ∃ w8, w7.drewN nq2 = w8 := ⟨_, rfl⟩
  have hx8 : Ext Nope w7 w8 := by rw [← hw8]; exact Ext.drewN _ _ _
  have HX8 : Hid (Ext Nope W w8) := HX7.out.trans hx8 (fun _ _ h => h) (fun _ _ h => h)
  have HCC : Hid (∀ i, 2 ≤ i → i < P → w8.cell? ⟨b5, o5 + i, none⟩ = some (.int .u8 255)) := fun i h1 h2 => by
    obtain ⟨b5', o5', e, _, _, hcell⟩ := HC7.out.cells (fun h => by have g1 := HCL.out; rw [h] at g1; have g2 := HQ.out; simp at g1; omega)
    simp only [Option.some.injEq, Addr.mk.injEq, and_true] at e
    obtain ⟨rfl, rfl⟩ := e
    exact hx8.cell (hcell i _ (HAT.out i h1 (by have := HPQ.out; omega))) (fun h => h)
  have HC8 := Lib.hid (HC7.out.ext hx8 (fun _ _ h => h))
  have HD8 := Lib.hid (HD7.out.ext hx8 (fun _ _ h => h))
  have HXD8 := Lib.hid (HXD7.out.ext hx8 (fun _ _ h => h))
  have HY8 := Lib.hid (HY7.out.ext hx8 (fun _ _ h => h))
  rw [hw8]
  clear hA hB' hc0' hc1' hcP' hw8 hx8 HC7 HD7 HXD7 HY7 HX7 HR7 HF7
  go_wp2_with fail
  go_loop [23] (fun vi => ∃ i : Nat, 2 ≤ i ∧ i ≤ P ∧ vi = .int .i64 i) (fun vi => P - (intOf vi).toNat)
  case atStart => exact ⟨2, by omega, by have := HPQ.out; omega, rfl⟩
  case round =>
    obtain ⟨i, hi2, hiP, rfl⟩ := hrel
    by_cases hlt : i < P
    · have hltI : (i : Int) < P := by omega
      have hiN : (i : Int) < N := by omega
      have hcc := HCC.out i hi2 hlt
      have HI2 := Lib.hid hi2
      clear hi2
      go_wp2_with fail
      exact ⟨⟨i + 1, by have := HI2.out; omega, by omega, by congr 1⟩, by simp [intOf]; omega⟩
    · obtain rfl : i = P := by omega
      have hltI : ¬ ((i : Int) < i) := by omega
      have hcC := holds_string HC8.out HCL.out
      have hcD := holds_string HD8.out HDL.out
      have hcX := holds_string HXD8.out HLX.out
      have hcY := holds_string HY8.out HLY.out
      by_cases hzz : z = z'
      · by_cases hxy : x = y
        · rw [← HSAME.out hzz hxy] at hcD
          rw [← hxy] at hcY
          have hzb : (z == z') = true := by simpa using hzz
          go_wp2_with fail
          go_ret
          exact ⟨rfl, HX8.out⟩
        · have hneb : ((strOf C).toList == (strOf D).toList) = false := beq_eq_false_iff_ne.2 fun h => hxy (HAP.out (strOf_inj (toList_inj h))).2
          have hneb2 : ((strOf x).toList == (strOf y).toList) = false := beq_eq_false_iff_ne.2 fun h => hxy (strOf_inj (toList_inj h))
          have hzb : (z == z') = true := by simpa using hzz
          go_wp2_with fail
          go_ret
          exact ⟨rfl, HX8.out⟩
      · have hneb : ((strOf C).toList == (strOf D).toList) = false := beq_eq_false_iff_ne.2 fun h => hzz (HAP.out (strOf_inj (toList_inj h))).1
        have hzb : (z == z') = false := by simpa using hzz
        go_wp2_with fail
        go_ret
        exact ⟨rfl, HX8.out⟩
end Go.Proofs.YtjfcldjepgijeaaDoor
