/- The examples. -/
import Derived.Test.YtjfcldjepgijeaaDoorHe
import Derived.Lib.SlBytesConst
namespace Go.Proofs.YtjfcldjepgijeaaDoor
open Go.RowKit Go.Shelf Go.Sort

/-- all tables -/
def Laid8 (W : World) : Prop := Sizes W ∧ Tabs W ∧ Pows W
theorem Laid8.ext {W W' : World} (h : Laid8 W) (he : Ext Nope W W') : Laid8 W' :=
  ⟨h.1.ext he (fun h => h), h.2.1.ext he (fun h => h) (fun h => h) (fun h => h) (fun h => h), h.2.2.ext he⟩
theorem namedN_512 : namedN ⟨#[115, 104, 97, 53, 49, 50]⟩ = 4 := by decide +kernel
theorem hash_W_abc : hexOf (hashW false true [97, 98, 99]) = [98, 97, 55, 56, 49, 54, 98, 102, 56, 102, 48, 49, 99, 102, 101, 97, 52, 49, 52, 49, 52, 48, 100, 101, 53, 100, 97, 101, 50, 50, 50, 51, 98, 48, 48, 51, 54, 49, 97, 51, 57, 54, 49, 55, 55, 97, 57, 99, 98, 52, 49, 48, 102, 102, 54, 49, 102, 50, 48, 48, 49, 53, 97, 100] := hash_abc_256
/-- three pieces that are laid -/
theorem rows_abc (W : World) : HoldsR (fun _ => True) (((W.alloc (.cells #[.int .u8 97] 5 (1, 2))).alloc (.cells #[.int .u8 98, .int .u8 99] 5 (2, 3))).alloc
      (.cells #[.slice (some ⟨W.heap.size, 0, none⟩) 1 1, .slice none 0 0, .slice (some ⟨W.heap.size + 1, 0, none⟩) 2 2] 23)) (some ⟨W.heap.size + 1 + 1, 0, none⟩) 3 [[97], [], [98, 99]] := by
  have h1 : Holds (fun _ => True) (W.alloc (.cells #[.int .u8 97] 5 (1, 2))) (some ⟨W.heap.size, 0, none⟩) 1 [97] :=
    ⟨by simp, by unfold maxLen; omega, .inr ⟨_, 0, rfl, fun _ => trivial, fun i d hd => by
      obtain ⟨h1, h2⟩ := List.getElem?_eq_some_iff.1 hd
      simp at h1; subst h1; simp at h2; subst h2
      rw [Nat.add_zero]; exact block_cell (World.alloc_heap_new W _) 0 rfl⟩⟩
  have e1 : (W.alloc (.cells #[.int .u8 97] 5 (1, 2))).heap.size = W.heap.size + 1 := Array.size_push _
  obtain ⟨W1, hW1⟩ : ∃ W1, W.alloc (.cells #[.int .u8 97] 5 (1, 2)) = W1 := ⟨_, rfl⟩
  rw [hW1] at h1 e1 ⊢
  have hn2 := World.alloc_heap_new W1 (.cells #[.int .u8 98, .int .u8 99] 5 (2, 3))
  rw [e1] at hn2
  have e2 : (W1.alloc (.cells #[.int .u8 98, .int .u8 99] 5 (2, 3))).heap.size = W.heap.size + 1 + 1 := by rw [← e1]; exact Array.size_push _
  have hx2 : Ext Nope W1 (W1.alloc (.cells #[.int .u8 98, .int .u8 99] 5 (2, 3))) := Ext.alloc _ _ _
  obtain ⟨W2, hW2⟩ : ∃ W2, W1.alloc (.cells #[.int .u8 98, .int .u8 99] 5 (2, 3)) = W2 := ⟨_, rfl⟩
  rw [hW2] at hn2 hx2 e2 ⊢
  have hn3 := World.alloc_heap_new W2 (.cells #[.slice (some ⟨W.heap.size, 0, none⟩) 1 1, .slice none 0 0, .slice (some ⟨W.heap.size + 1, 0, none⟩) 2 2] 23)
  rw [e2] at hn3
  have hx3 : Ext Nope W2 (W2.alloc (.cells #[.slice (some ⟨W.heap.size, 0, none⟩) 1 1, .slice none 0 0, .slice (some ⟨W.heap.size + 1, 0, none⟩) 2 2] 23)) := Ext.alloc _ _ _
  obtain ⟨W3, hW3⟩ : ∃ W3, W2.alloc (.cells #[.slice (some ⟨W.heap.size, 0, none⟩) 1 1, .slice none 0 0, .slice (some ⟨W.heap.size + 1, 0, none⟩) 2 2] 23) = W3 := ⟨_, rfl⟩
  rw [hW3] at hn3 hx3 ⊢
  have hn2' := hx3.heap hn2 (fun h => h)
  refine ⟨rfl, .inr ⟨_, 0, rfl, fun i l hi => ?_⟩⟩
  rw [Nat.zero_add]
  match i, hi with
  | 0, hi => simp at hi; subst hi; exact ⟨_, _, block_cell hn3 0 rfl, (h1.ext hx2 (fun _ _ h => h)).ext hx3 (fun _ _ h => h)⟩
  | 1, hi => simp at hi; subst hi; exact ⟨_, _, block_cell hn3 1 rfl, Holds.nil _ _⟩
  | 2, hi =>
    simp at hi; subst hi
    refine ⟨_, _, block_cell hn3 2 rfl, ⟨by simp, by unfold maxLen; omega, .inr ⟨_, 0, rfl, fun _ => trivial, fun i d hd => ?_⟩⟩⟩
    rw [Nat.zero_add]
    match i, hd with
    | 0, hd => simp at hd; subst hd; exact block_cell hn2' 0 rfl
    | 1, hd => simp at hd; subst hd; exact block_cell hn2' 1 rfl
    | i + 2, hd => simp at hd
  | i + 3, hi => simp at hi

set_option maxHeartbeats 2000000 in
set_option maxRecDepth 100000 in
theorem alive_any (W : World) (hl : Hid (Laid8 W)) : Calls Tryd.prog 18 #[] W (TrueOf W) := by
  have hcv1 := Lib.run_convert_bytes_const W 23 5 #[.int .u8 97] 1 1 Tryd.uB Tryd.underlying5
  have hcv2 := Lib.run_convert_bytes_const (W.alloc (.cells #[.int .u8 97] 5 (1, 2))) 23 5 #[.int .u8 98, .int .u8 99] 2 2 Tryd.uB Tryd.underlying5
  have e1 : (W.alloc (.cells #[.int .u8 97] 5 (1, 2))).heap.size = W.heap.size + 1 := Array.size_push _
  rw [e1] at hcv2
  simp only [List.size_toArray, List.length_cons, List.length_nil, Nat.reduceAdd] at hcv1 hcv2
  have HR := Lib.hid (rows_abc W)
  have HXA : Hid (Ext Nope W (((W.alloc (.cells #[.int .u8 97] 5 (1, 2))).alloc (.cells #[.int .u8 98, .int .u8 99] 5 (2, 3))).alloc
      (.cells #[.slice (some ⟨W.heap.size, 0, none⟩) 1 1, .slice none 0 0, .slice (some ⟨W.heap.size + 1, 0, none⟩) 2 2] 23))) :=
    ((Ext.alloc _ _ _).trans (Ext.alloc _ _ _) (fun _ _ h => h) (fun _ _ h => h)).trans (Ext.alloc _ _ _) (fun _ _ h => h) (fun _ _ h => h)
  go_enter Tryd.func18, Tryd.ntmps18
  go_wp2_with fail
  obtain ⟨W3, hW3⟩ : ∃ W3, (((W.alloc (.cells #[.int .u8 97] 5 (1, 2))).alloc (.cells #[.int .u8 98, .int .u8 99] 5 (2, 3))).alloc
      (.cells #[.slice (some ⟨W.heap.size, 0, none⟩) 1 1, .slice none 0 0, .slice (some ⟨W.heap.size + 1, 0, none⟩) 2 2] 23)) = W3 := ⟨_, rfl⟩
  rw [hW3] at HR HXA ⊢
  clear hW3 hcv1 hcv2
  have HL3 : Hid (Laid8 W3) := hl.out.ext HXA.out
  refine (sumW_any false true _ 3 3 _ W3 HR (by omega) (fun l h => by simp at h; obtain rfl | rfl | rfl := h <;> simp) HL3.out.1 HL3.out.2.1).mono ?_
  rintro e w4 ⟨v, rfl, a4, rfl, hh4, hl4, hx4⟩
  have HH4 : Hid (Holds _ w4 a4 32 (hashW false true [97, 98, 99])) := hh4
  have HLN : Hid ((hashW false true [97, 98, 99]).length = 32) := hl4
  have HX4 : Hid (Ext Nope W w4) := HXA.out.trans hx4 (fun _ _ h => h) (fun _ _ h => h)
  have HL4 : Hid (Laid8 w4) := hl.out.ext HX4.out
  clear hh4 hl4 hx4
  go_wp2_with fail
  refine (size_any 3 w4 HL4.out.1).mono ?_
  rintro e w5 ⟨rfl, rfl⟩
  rw [show sizeN 3 = 48 from rfl]
  go_wp2_with fail
  refine (name_none 5 rfl _ HL4.out.1).mono ?_
  rintro e w6 ⟨rfl, rfl⟩
  go_wp2_with fail
  refine (named_any _ _ HL4.out.1 HL4.out.2.2).mono ?_
  rintro e w7 ⟨rfl, hx7⟩
  rw [namedN_512]
  have HX7 : Hid (Ext Nope W w7) := HX4.out.trans hx7 (fun _ _ h => h) (fun _ _ h => h)
  have HH7 := Lib.hid (HH4.out.ext hx7 (fun _ _ h => h))
  clear hx7
  go_wp2_with fail
  refine (hex_any a4 32 32 _ _ HH7 HLN (by omega)).mono ?_
  rintro e w8 ⟨rfl, hx8⟩
  rw [hash_W_abc]
  have HX8 : Hid (Ext Nope W w8) := HX7.out.trans hx8 (fun _ _ h => h) (fun _ _ h => h)
  clear hx8
  go_wp2_with fail
  go_ret
  exact ⟨rfl, HX8.out⟩
end Go.Proofs.YtjfcldjepgijeaaDoor
