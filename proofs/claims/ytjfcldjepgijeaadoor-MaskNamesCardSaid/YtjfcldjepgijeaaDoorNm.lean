/- The law MaskNames. -/
import Derived.Test.YtjfcldjepgijeaaDoorMl
import Derived.Test.YtjfcldjepgijeaaDoorEl
import Derived.Test.YtjfcldjepgijeaaDoorHf
import Derived.Test.YtjfcldjepgijeaaDoorMn
namespace Go.Proofs.YtjfcldjepgijeaaDoor
open Go.RowKit Go.Shelf Go.Sort

theorem hex_enc : (⟨(hexOf (encN 2 (List.replicate 32 0) 8)).toArray⟩ : ByteArray) = (⟨#[48, 48, 48, 49, 102, 102, 102, 102, 102, 102, 102, 102, 102, 102, 102, 102, 102, 102, 102, 102, 48, 48, 51, 48, 51, 49, 51, 48, 48, 100, 48, 54, 48, 57, 54, 48, 56, 54, 52, 56, 48, 49, 54, 53, 48, 51, 48, 52, 48, 50, 48, 49, 48, 53, 48, 48, 48, 52, 50, 48]⟩ : ByteArray) ++ ⟨(hexOf (List.replicate 32 0)).toArray⟩ := by decide +kernel
theorem hex_head1 : (⟨(hexOf (headN 1)).toArray⟩ : ByteArray) = ⟨#[51, 48, 50, 100, 51, 48, 48, 100, 48, 54, 48, 57, 54, 48, 56, 54, 52, 56, 48, 49, 54, 53, 48, 51, 48, 52, 48, 50, 48, 52, 48, 53, 48, 48, 48, 52, 49, 99]⟩ := by decide +kernel
theorem hex_head3 : (⟨(hexOf (headN 3)).toArray⟩ : ByteArray) = ⟨#[51, 48, 52, 49, 51, 48, 48, 100, 48, 54, 48, 57, 54, 48, 56, 54, 52, 56, 48, 49, 54, 53, 48, 51, 48, 52, 48, 50, 48, 50, 48, 53, 48, 48, 48, 52, 51, 48]⟩ := by decide +kernel
theorem hex_head4 : (⟨(hexOf (headN 4)).toArray⟩ : ByteArray) = ⟨#[51, 48, 53, 49, 51, 48, 48, 100, 48, 54, 48, 57, 54, 48, 56, 54, 52, 56, 48, 49, 54, 53, 48, 51, 48, 52, 48, 50, 48, 51, 48, 53, 48, 48, 48, 52, 52, 48]⟩ := by decide +kernel
set_option maxHeartbeats 2000000 in
set_option maxRecDepth 100000 in
theorem names8 (W : World) (hl : Hid (Laid8 W)) : Calls Tryd.prog 7 #[] W (TrueOf W) := by
  have hmk32 : ∀ w : World, (Instr.makeSlice 23 (.int .i64 32) (.int .i64 32)).run Tryd.prog w = .ok (.slice (some ⟨w.heap.size, 0, none⟩) 32 32) (w.alloc (.cells (bv (List.replicate 32 0)).toArray 5)) := make_any 32 (by omega)
  obtain ⟨Z32, hZ32⟩ : ∃ Z : List (BitVec 8), List.replicate 32 0 = Z := ⟨_, rfl⟩
  have HZL : Hid (Z32.length = 32) := by rw [← hZ32]; exact List.length_replicate
  rw [hZ32] at hmk32
  have HZ := Lib.hid hZ32
  clear hZ32
  obtain ⟨W1, hW1⟩ : ∃ W1, W.alloc (.cells (bv Z32).toArray 5) = W1 := ⟨_, rfl⟩
  have hx1 : Ext Nope W W1 := by rw [← hW1]; exact Ext.alloc _ _ _
  have hb1 : W1.heap[W.heap.size]? = some (.cells (bv Z32).toArray 5 (0, 0)) := by rw [← hW1]; exact World.alloc_heap_new W _
  have HD1 : Hid (Holds (fun _ => True) W1 (some ⟨W.heap.size, 0, none⟩) 32 Z32) := by
    have h := holds_rowM hb1 (by rw [HZL.out]; omega)
    rw [HZL.out] at h
    exact h.mono (fun _ _ => trivial)
  have HX1 := Lib.hid hx1
  have HL1 : Hid (Laid8 W1) := hl.out.ext hx1
  obtain ⟨B, hB⟩ : ∃ B, W.heap.size = B := ⟨_, rfl⟩
  have HBB := Lib.hid hB
  rw [hB] at HD1
  clear hx1 hb1
  go_enter Tryd.func7, Tryd.ntmps7
  go_wp2_with fail
  clear hmk32
  refine (encode_any 2 32 8 rfl (by omega) (some ⟨B, 0, none⟩) 32 Z32 W1 (Lib.hid HL1.out.1) HD1 HZL (by omega) (by omega) 62 rfl).mono ?_
  rintro e w2 ⟨v2, rfl, a2, c2, rfl, hh2, hx2⟩
  have HX12 := Lib.hid hx2
  have HX2 : Hid (Ext Nope W w2) := HX1.out.trans hx2 (fun _ _ h => h) (fun _ _ h => h)
  have HE2 : Hid (Holds (fun _ => True) w2 a2 c2 (encN 2 Z32 8)) := hh2.mono (fun _ _ => trivial)
  have HEL : Hid ((encN 2 Z32 8).length = 62) := by unfold Hid; rw [encN_length, HZL.out]
  have HL2 : Hid (Laid8 w2) := hl.out.ext HX2.out
  have HD2 := Lib.hid (HD1.out.ext hx2 (fun _ _ h => h))
  rw [HEL.out]
  clear hh2 hx2
  go_wp2_with fail
  refine (encode_arg 2 32 rfl (by omega) (some ⟨B, 0, none⟩) 32 Z32 61 w2 (Lib.hid HL2.out.1) HD2 HZL (.inl (by omega))).mono ?_
  rintro e w3 ⟨rfl, hx3⟩
  have HX3 : Hid (Ext Nope W w3) := HX2.out.trans hx3 (fun _ _ h => h) (fun _ _ h => h)
  have HX23 := Lib.hid hx3
  have HL3 : Hid (Laid8 w3) := hl.out.ext HX3.out
  clear hx3
  go_wp2_with fail
  refine (encode_bad 2 (some ⟨B, 0, none⟩) 31 32 99 w3 (Lib.hid HL3.out.1) (.inr (by decide))).mono ?_
  rintro e w4 ⟨rfl, hw4⟩
  rw [hw4]
  clear hw4 w4
  go_wp2_with fail
  refine (mask_arg 2 (by decide) none 0 0 (-1) (.inl (by omega)) w3 (Lib.hid HL3.out.1)).mono ?_
  rintro e w4 ⟨rfl, hx4⟩
  have HX4 : Hid (Ext Nope W w4) := HX3.out.trans hx4 (fun _ _ h => h) (fun _ _ h => h)
  have HX24 : Hid (Ext Nope w2 w4) := HX23.out.trans hx4 (fun _ _ h => h) (fun _ _ h => h)
  have HL4 : Hid (Laid8 w4) := hl.out.ext HX4.out
  clear hx4
  go_wp2_with fail
  refine (mask_arg 4 (by decide) none 0 0 65537 (.inr (by omega)) w4 (Lib.hid HL4.out.1)).mono ?_
  rintro e w5 ⟨rfl, hx5⟩
  have HX5 : Hid (Ext Nope W w5) := HX4.out.trans hx5 (fun _ _ h => h) (fun _ _ h => h)
  have HX25 : Hid (Ext Nope w2 w5) := HX24.out.trans hx5 (fun _ _ h => h) (fun _ _ h => h)
  have HL5 : Hid (Laid8 w5) := hl.out.ext HX5.out
  clear hx5
  go_wp2_with fail
  refine (mask_none 0 (by decide) none 0 0 (-1) w5 (Lib.hid HL5.out.1)).mono ?_
  rintro e w6 ⟨rfl, hx6⟩
  have HX6 : Hid (Ext Nope W w6) := HX5.out.trans hx6 (fun _ _ h => h) (fun _ _ h => h)
  have HX26 : Hid (Ext Nope w2 w6) := HX25.out.trans hx6 (fun _ _ h => h) (fun _ _ h => h)
  have HL6 : Hid (Laid8 w6) := hl.out.ext HX6.out
  clear hx6
  go_wp2_with fail
  refine (sum_none 5 (by decide) none 0 0 w6 (Lib.hid HL6.out.1)).mono ?_
  rintro e w7 ⟨rfl, hx7⟩
  have HX7 : Hid (Ext Nope W w7) := HX6.out.trans hx7 (fun _ _ h => h) (fun _ _ h => h)
  have HX27 : Hid (Ext Nope w2 w7) := HX26.out.trans hx7 (fun _ _ h => h) (fun _ _ h => h)
  clear hx7
  obtain ⟨W8, hW8⟩ : ∃ W8, w7.alloc (.cells #[.slice none 0 0] 23) = W8 := ⟨_, rfl⟩
  have hx8 : Ext Nope w7 W8 := by rw [← hW8]; exact Ext.alloc _ _ _
  have HX8 : Hid (Ext Nope W W8) := HX7.out.trans hx8 (fun _ _ h => h) (fun _ _ h => h)
  have HX28 : Hid (Ext Nope w2 W8) := HX27.out.trans hx8 (fun _ _ h => h) (fun _ _ h => h)
  have HL8 : Hid (Laid8 W8) := hl.out.ext HX8.out
  clear hx8
  go_wp2_with fail
  refine (sum_none (-1) (by decide) _ 1 1 W8 (Lib.hid HL8.out.1)).mono ?_
  rintro e w9 ⟨rfl, hx9⟩
  have HX9 : Hid (Ext Nope W w9) := HX8.out.trans hx9 (fun _ _ h => h) (fun _ _ h => h)
  have HX29 : Hid (Ext Nope w2 w9) := HX28.out.trans hx9 (fun _ _ h => h) (fun _ _ h => h)
  have HL9 : Hid (Laid8 w9) := hl.out.ext HX9.out
  clear hx9
  go_wp2_with fail
  refine (frame_bad 0 none 0 0 w9 (Lib.hid HL9.out.1) (.inl (by decide))).mono ?_
  rintro e w10 ⟨rfl, hw10⟩
  rw [hw10]
  clear hw10 w10
  go_wp2_with fail
  refine (mask_any (p := fun _ => True) false false none 0 0 [] 0 w9 (Lib.hid (Holds.nil _ _)) (Lib.hid rfl) (by omega) (by omega) HL9).mono ?_
  rintro e w10 ⟨a10, rfl, _, hx10⟩
  have HX10 : Hid (Ext Nope W w10) := HX9.out.trans hx10 (fun _ _ h => h) (fun _ _ h => h)
  have HX210 : Hid (Ext Nope w2 w10) := HX29.out.trans hx10 (fun _ _ h => h) (fun _ _ h => h)
  have HL10 : Hid (Laid8 w10) := hl.out.ext HX10.out
  have HE10 : Hid (Holds (fun _ => True) w10 a2 c2 (encN 2 Z32 8)) := HE2.out.ext HX210.out (fun _ _ h => h)
  have HD10 : Hid (Holds (fun _ => True) w10 (some ⟨B, 0, none⟩) 32 Z32) := HD2.out.ext HX210.out (fun _ _ h => h)
  clear hx10
  go_wp2_with fail
  refine (hex_any a2 62 c2 (encN 2 Z32 8) w10 HE10 HEL (by omega)).mono ?_
  rintro e w11 ⟨rfl, hx11⟩
  have HX11 : Hid (Ext Nope W w11) := HX10.out.trans hx11 (fun _ _ h => h) (fun _ _ h => h)
  have HD11 : Hid (Holds (fun _ => True) w11 (some ⟨B, 0, none⟩) 32 Z32) := HD10.out.ext hx11 (fun _ _ h => h)
  rw [← HZ.out, hex_enc, HZ.out]
  clear hx11
  go_wp2_with fail
  refine (hex_any _ 32 32 Z32 w11 HD11 HZL (by omega)).mono ?_
  rintro e w12 ⟨rfl, hx12⟩
  have HX12 : Hid (Ext Nope W w12) := HX11.out.trans hx12 (fun _ _ h => h) (fun _ _ h => h)
  have HD12 : Hid (Holds (fun _ => True) w12 (some ⟨B, 0, none⟩) 32 Z32) := HD11.out.ext hx12 (fun _ _ h => h)
  have HL12 : Hid (Laid8 w12) := hl.out.ext HX12.out
  obtain ⟨S, hS⟩ : ∃ S : ByteArray, ⟨(hexOf Z32).toArray⟩ = S := ⟨_, rfl⟩
  have hSS : S.size = 64 := by rw [← hS, ← HZ.out]; decide +kernel
  rw [hS]
  clear hx12 hS
  go_wp2_with fail
  have HLN12 : Hid ((Z32.take 28).length = 28) := by unfold Hid; rw [List.length_take, HZL.out]; rfl
  have HD28 : Hid (Holds (fun _ => True) w12 (some ⟨B, 0, none⟩) 32 (Z32.take 28)) := HD12.out.upto (by rw [HZL.out]; omega)
  refine (frame_any 1 28 rfl (by omega) _ 32 (Z32.take 28) w12 (Lib.hid HL12.out.1) HD28 HLN12).mono ?_
  rintro e w13 ⟨v13, rfl, a28, c28, rfl, hh28, hx28⟩
  have HX13 : Hid (Ext Nope W w13) := HX12.out.trans hx28 (fun _ _ h => h) (fun _ _ h => h)
  have HF28 : Hid (Holds (fun _ => True) w13 a28 c28 (headN 1 ++ Z32.take 28)) := hh28.mono (fun _ _ => trivial)
  have HFL28 : Hid ((headN 1 ++ Z32.take 28).length = 47) := by unfold Hid; rw [List.length_append, HLN12.out]; rfl
  have hcap28 : (47 : Int) ≤ c28 := by have := HF28.out.len; have := HFL28.out; omega
  have hcap1928 : (19 : Int) ≤ c28 := by omega
  rw [HFL28.out]
  clear hh28 hx28
  obtain ⟨Z48, hZ48⟩ : ∃ Z : List (BitVec 8), List.replicate 48 0 = Z := ⟨_, rfl⟩
  have HZL48 : Hid (Z48.length = 48) := by rw [← hZ48]; exact List.length_replicate
  have hmk48 : ∀ w : World, (Instr.makeSlice 23 (.int .i64 48) (.int .i64 48)).run Tryd.prog w = .ok (.slice (some ⟨w.heap.size, 0, none⟩) 48 48) (w.alloc (.cells (bv Z48).toArray 5)) := by rw [← hZ48]; exact make_any 48 (by omega)
  obtain ⟨W48, hW48⟩ : ∃ W48, w13.alloc (.cells (bv Z48).toArray 5) = W48 := ⟨_, rfl⟩
  have hx48 : Ext Nope w13 W48 := by rw [← hW48]; exact Ext.alloc _ _ _
  have hb48 : W48.heap[w13.heap.size]? = some (.cells (bv Z48).toArray 5 (0, 0)) := by rw [← hW48]; exact World.alloc_heap_new w13 _
  have HD48 : Hid (Holds (fun _ => True) W48 (some ⟨w13.heap.size, 0, none⟩) 48 Z48) := by
    have h := holds_rowM hb48 (by rw [HZL48.out]; omega)
    rw [HZL48.out] at h
    exact h.mono (fun _ _ => trivial)
  have HXX48 : Hid (Ext Nope w13 W48) := hx48
  have HX48 : Hid (Ext Nope W W48) := HX13.out.trans hx48 (fun _ _ h => h) (fun _ _ h => h)
  have HL48 : Hid (Laid8 W48) := hl.out.ext HX48.out
  clear hZ48 hx48 hb48
  go_wp2_with fail
  clear hmk48 hW48
  refine (frame_any 3 48 rfl (by omega) _ 48 Z48 W48 (Lib.hid HL48.out.1) HD48 HZL48).mono ?_
  rintro e w14 ⟨v48, rfl, a48, c48, rfl, hh48, hx48⟩
  have HX14 : Hid (Ext Nope W w14) := HX48.out.trans hx48 (fun _ _ h => h) (fun _ _ h => h)
  have HXW48 : Hid (Ext Nope w13 w14) := HXX48.out.trans hx48 (fun _ _ h => h) (fun _ _ h => h)
  have HF48 : Hid (Holds (fun _ => True) w14 a48 c48 (headN 3 ++ Z48)) := hh48.mono (fun _ _ => trivial)
  have HFL48 : Hid ((headN 3 ++ Z48).length = 67) := by unfold Hid; rw [List.length_append, HZL48.out]; rfl
  have hcap48 : (67 : Int) ≤ c48 := by have := HF48.out.len; have := HFL48.out; omega
  have hcap1948 : (19 : Int) ≤ c48 := by omega
  rw [HFL48.out]
  clear hh48 hx48
  obtain ⟨Z64, hZ64⟩ : ∃ Z : List (BitVec 8), List.replicate 64 0 = Z := ⟨_, rfl⟩
  have HZL64 : Hid (Z64.length = 64) := by rw [← hZ64]; exact List.length_replicate
  have hmk64 : ∀ w : World, (Instr.makeSlice 23 (.int .i64 64) (.int .i64 64)).run Tryd.prog w = .ok (.slice (some ⟨w.heap.size, 0, none⟩) 64 64) (w.alloc (.cells (bv Z64).toArray 5)) := by rw [← hZ64]; exact make_any 64 (by omega)
  obtain ⟨W64, hW64⟩ : ∃ W64, w14.alloc (.cells (bv Z64).toArray 5) = W64 := ⟨_, rfl⟩
  have hx64 : Ext Nope w14 W64 := by rw [← hW64]; exact Ext.alloc _ _ _
  have hb64 : W64.heap[w14.heap.size]? = some (.cells (bv Z64).toArray 5 (0, 0)) := by rw [← hW64]; exact World.alloc_heap_new w14 _
  have HD64 : Hid (Holds (fun _ => True) W64 (some ⟨w14.heap.size, 0, none⟩) 64 Z64) := by
    have h := holds_rowM hb64 (by rw [HZL64.out]; omega)
    rw [HZL64.out] at h
    exact h.mono (fun _ _ => trivial)
  have HXX64 : Hid (Ext Nope w14 W64) := hx64
  have HX64 : Hid (Ext Nope W W64) := HX14.out.trans hx64 (fun _ _ h => h) (fun _ _ h => h)
  have HL64 : Hid (Laid8 W64) := hl.out.ext HX64.out
  clear hZ64 hx64 hb64
  go_wp2_with fail
  clear hmk64 hW64
  refine (frame_any 4 64 rfl (by omega) _ 64 Z64 W64 (Lib.hid HL64.out.1) HD64 HZL64).mono ?_
  rintro e w15 ⟨v64, rfl, a64, c64, rfl, hh64, hx64⟩
  have HX15 : Hid (Ext Nope W w15) := HX64.out.trans hx64 (fun _ _ h => h) (fun _ _ h => h)
  have HXW64 : Hid (Ext Nope w14 w15) := HXX64.out.trans hx64 (fun _ _ h => h) (fun _ _ h => h)
  have HF64 : Hid (Holds (fun _ => True) w15 a64 c64 (headN 4 ++ Z64)) := hh64.mono (fun _ _ => trivial)
  have HFL64 : Hid ((headN 4 ++ Z64).length = 83) := by unfold Hid; rw [List.length_append, HZL64.out]; rfl
  have hcap64 : (83 : Int) ≤ c64 := by have := HF64.out.len; have := HFL64.out; omega
  have hcap1964 : (19 : Int) ≤ c64 := by omega
  rw [HFL64.out]
  clear hh64 hx64
  have HG28 : Hid (Holds (fun _ => True) w15 a28 c28 (headN 1)) := by
    have h := ((HF28.out.ext HXW48.out (fun _ _ h => h)).ext HXW64.out (fun _ _ h => h)).upto (hi := 19) (by rw [HFL28.out]; omega)
    rwa [List.take_left' (headN_length 1)] at h
  have HG48 : Hid (Holds (fun _ => True) w15 a48 c48 (headN 3)) := by
    have h := (HF48.out.ext HXW64.out (fun _ _ h => h)).upto (hi := 19) (by rw [HFL48.out]; omega)
    rwa [List.take_left' (headN_length 3)] at h
  have HG64 : Hid (Holds (fun _ => True) w15 a64 c64 (headN 4)) := by
    have h := HF64.out.upto (hi := 19) (by rw [HFL64.out]; omega)
    rwa [List.take_left' (headN_length 4)] at h
  go_wp2_with fail
  refine (hex_any a28 19 c28 (headN 1) w15 HG28 (Lib.hid (headN_length 1)) (by omega)).mono ?_
  rintro e w16 ⟨rfl, hx16⟩
  have HX16 : Hid (Ext Nope W w16) := HX15.out.trans hx16 (fun _ _ h => h) (fun _ _ h => h)
  have HG48' : Hid (Holds (fun _ => True) w16 a48 c48 (headN 3)) := HG48.out.ext hx16 (fun _ _ h => h)
  have HG64' : Hid (Holds (fun _ => True) w16 a64 c64 (headN 4)) := HG64.out.ext hx16 (fun _ _ h => h)
  rw [hex_head1]
  clear hx16
  go_wp2_with fail
  refine (hex_any a48 19 c48 (headN 3) w16 HG48' (Lib.hid (headN_length 3)) (by omega)).mono ?_
  rintro e w17 ⟨rfl, hx17⟩
  have HX17 : Hid (Ext Nope W w17) := HX16.out.trans hx17 (fun _ _ h => h) (fun _ _ h => h)
  have HG64'' : Hid (Holds (fun _ => True) w17 a64 c64 (headN 4)) := HG64'.out.ext hx17 (fun _ _ h => h)
  rw [hex_head3]
  clear hx17
  go_wp2_with fail
  refine (hex_any a64 19 c64 (headN 4) w17 HG64'' (Lib.hid (headN_length 4)) (by omega)).mono ?_
  rintro e w18 ⟨rfl, hx18⟩
  have HX18 : Hid (Ext Nope W w18) := HX17.out.trans hx18 (fun _ _ h => h) (fun _ _ h => h)
  have HL18 : Hid (Laid8 w18) := hl.out.ext HX18.out
  rw [hex_head4]
  clear hx18
  go_wp2_with fail
  refine (size_any 0 w18 (Lib.hid HL18.out.1)).mono ?_
  rintro e w19 ⟨rfl, hw19⟩
  rw [hw19, show sizeN 0 = 0 from rfl]
  clear hw19 w19
  go_wp2_with fail
  refine (size_any (-1) w18 (Lib.hid HL18.out.1)).mono ?_
  rintro e w19 ⟨rfl, hw19⟩
  rw [hw19, show sizeN (-1) = 0 from rfl]
  clear hw19 w19
  go_wp2_with fail
  refine (size_any 4 w18 (Lib.hid HL18.out.1)).mono ?_
  rintro e w19 ⟨rfl, hw19⟩
  rw [hw19, show sizeN 4 = 64 from rfl]
  clear hw19 w19
  go_wp2_with fail
  refine (name_W false false w18 (Lib.hid HL18.out.1) (Lib.hid HL18.out.2.2)).mono ?_
  rintro e w19 ⟨rfl, hx19⟩
  have HX19 : Hid (Ext Nope W w19) := HX18.out.trans hx19 (fun _ _ h => h) (fun _ _ h => h)
  have HL19 : Hid (Laid8 w19) := hl.out.ext HX19.out
  rw [show (⟨(nameN (numW false false)).toArray⟩ : ByteArray) = ⟨#[115, 104, 97, 50, 50, 52]⟩ from rfl]
  clear hx19
  go_wp2_with fail
  refine (named_any ⟨#[115, 104, 97]⟩ w19 (Lib.hid HL19.out.1) (Lib.hid HL19.out.2.2)).mono ?_
  rintro e w20 ⟨rfl, hx20⟩
  have HX20 : Hid (Ext Nope W w20) := HX19.out.trans hx20 (fun _ _ h => h) (fun _ _ h => h)
  have HL20 : Hid (Laid8 w20) := hl.out.ext HX20.out
  rw [show namedN ⟨#[115, 104, 97]⟩ = 0 by decide +kernel]
  clear hx20
  go_wp2_with fail
  refine (named_any ⟨#[]⟩ w20 (Lib.hid HL20.out.1) (Lib.hid HL20.out.2.2)).mono ?_
  rintro e w21 ⟨rfl, hx21⟩
  have HX21 : Hid (Ext Nope W w21) := HX20.out.trans hx21 (fun _ _ h => h) (fun _ _ h => h)
  have HL21 : Hid (Laid8 w21) := hl.out.ext HX21.out
  rw [show namedN ⟨#[]⟩ = 0 by decide +kernel]
  clear hx21
  go_wp2_with fail
  refine (alive_any w21 HL21).mono ?_
  rintro e w22 ⟨rfl, hx22⟩
  have HX22 : Hid (Ext Nope W w22) := HX21.out.trans hx22 (fun _ _ h => h) (fun _ _ h => h)
  clear hx22
  go_wp2_with fail
  go_ret
  exact ⟨rfl, HX22.out⟩
end Go.Proofs.YtjfcldjepgijeaaDoor
