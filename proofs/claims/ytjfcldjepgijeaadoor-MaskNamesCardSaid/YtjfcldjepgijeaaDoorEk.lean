/- Frames and encodings. -/
import Derived.Test.YtjfcldjepgijeaaDoorHb
import Derived.Test.YtjfcldjepgijeaaDoorGe
import Derived.Test.YtjfcldjepgijeaaDoorBr
namespace Go.Proofs.YtjfcldjepgijeaaDoor
open Go.RowKit Go.Shelf

/-- a row that is new -/
def RowC (W : World) (l : List (BitVec 8)) (v : Value) (W' : World) : Prop := ∃ a cap, v = .slice a l.length cap ∧ Holds (fun k => W.heap.size ≤ k) W' a cap l ∧ Ext Nope W W'
theorem holds_row {W : World} {b : Nat} {l : List (BitVec 8)} {e : TypeId} {fz : Nat × Nat} (h : W.heap[b]? = some (.cells (bv l).toArray e fz)) (hl : l.length ≤ 1000000) : Holds (fun k => k = b) W (some ⟨b, 0, none⟩) l.length l :=
  ⟨Nat.le_refl _, by unfold maxLen; omega, .inr ⟨b, 0, rfl, fun _ => rfl, fun i c hi => by
    rw [Nat.zero_add]
    exact block_cell h i (by simp [bv, hi])⟩⟩
def arcN (z : Int) : Int := if z = 1 then 4 else z - 1
def headN (z : Int) : List (BitVec 8) := [48, BitVec.ofInt 8 (17 + sizeN z), 48, 13, 6, 9, 96, 134, 72, 1, 101, 3, 4, 2, BitVec.ofInt 8 (arcN z), 5, 0, 4, BitVec.ofInt 8 (sizeN z)]
theorem headN_length (z : Int) : (headN z).length = 19 := rfl
def FramePost (W : World) (z : Int) (l : List (BitVec 8)) (e : Ending) (W' : World) : Prop := ∃ v, e = .returned (.tuple #[v, .int .i64 0]) ∧ RowC W (headN z ++ l) v W'
theorem frame_bad (z : Int) (a : Option Addr) (n cap : Nat) (W : World) (hm : Hid (Sizes W)) (hz : sizeN z = 0 ∨ sizeN z ≠ n) :
    Calls Tryd.prog 21 #[.int .i64 z, .slice a n cap] W fun e W' => e = .returned (.tuple #[.slice none 0 0, .int .i64 80]) ∧ W' = W := by
  have HS := Lib.hid (size_any z W hm)
  by_cases h0 : sizeN z = 0
  · rw [h0] at HS
    clear hz h0
    go_enter Tryd.func21, Tryd.ntmps21
    go_wp2_with fail
    refine HS.out.mono ?_
    rintro e w ⟨rfl, rfl⟩
    go_wp2_with fail
    go_ret2
    exact ⟨rfl, rfl⟩
  · have hne : ¬ (sizeN z = n) := by
      rcases hz with h | h
      · exact absurd h h0
      · exact h
    obtain ⟨s, hs⟩ : ∃ s, sizeN z = s := ⟨_, rfl⟩
    rw [hs] at HS h0 hne
    have hne2 : ¬ ((n : Int) = s) := fun h => hne h.symm
    have hbq : ((n : Int) != s) = true := by simpa using hne2
    have hb0 : (s == 0) = false := by simpa using h0
    clear hz hs hne
    go_enter Tryd.func21, Tryd.ntmps21
    go_wp2_with fail
    refine HS.out.mono ?_
    rintro e w ⟨rfl, rfl⟩
    go_wp2_with fail
    refine HS.out.mono ?_
    rintro e w ⟨rfl, rfl⟩
    go_wp2_with fail
    go_ret2
    exact ⟨rfl, rfl⟩

theorem head_cells_1 : (bv (headN 1)).toArray = #[.int .u8 48, .int .u8 45, .int .u8 48, .int .u8 13, .int .u8 6, .int .u8 9, .int .u8 96, .int .u8 134, .int .u8 72, .int .u8 1, .int .u8 101, .int .u8 3, .int .u8 4, .int .u8 2, .int .u8 4, .int .u8 5, .int .u8 0, .int .u8 4, .int .u8 28] := by kernel_rfl
set_option maxHeartbeats 1000000 in
set_option maxRecDepth 100000 in
theorem frame_1 {p : Nat → Prop} (a : Option Addr) (cap : Nat) (l : List (BitVec 8)) (W : World) (hm : Hid (Sizes W)) (hh : Hid (Holds p W a cap l)) (hn : Hid (l.length = 28)) :
    Calls Tryd.prog 21 #[.int .i64 1, .slice a 28 cap] W (FramePost W 1 l) := by
  have hHl := headN_length 1
  have hHc := head_cells_1
  unfold FramePost
  obtain ⟨H, hH⟩ : ∃ H, headN 1 = H := ⟨_, rfl⟩
  rw [hH] at hHl hHc ⊢
  clear hH
  have HS : Hid (Calls Tryd.prog 14 #[.int .i64 1] W fun e W' => e = .returned (.int .i64 28) ∧ W' = W) := by have := size_any 1 W hm; rw [show sizeN 1 = 28 from rfl] at this; exact this
  obtain ⟨W1, hW1⟩ : ∃ W1, W.alloc (.cells #[.int .u8 48, .int .u8 45, .int .u8 48, .int .u8 13, .int .u8 6, .int .u8 9, .int .u8 96, .int .u8 134, .int .u8 72, .int .u8 1, .int .u8 101, .int .u8 3, .int .u8 4, .int .u8 2, .int .u8 4, .int .u8 5, .int .u8 0, .int .u8 4, .int .u8 28] 5) = W1 := ⟨_, rfl⟩
  obtain ⟨B, hB⟩ : ∃ B, W.heap.size = B := ⟨_, rfl⟩
  have hb1 : W1.heap[B]? = some (.cells (bv (H)).toArray 5 (0, 0)) := by rw [← hW1, ← hB, hHc]; exact World.alloc_heap_new W _
  have hx1 : Ext Nope W W1 := by rw [← hW1]; exact Ext.alloc _ _ _
  have hz1 : W1.heap.size = B + 1 := by rw [← hW1, ← hB]; exact Array.size_push _
  obtain ⟨W2, hW2⟩ : ∃ W2, W1.alloc (.cells #[.slice (some ⟨B, 0, none⟩) 19 19, .slice a 28 cap] 23) = W2 := ⟨_, rfl⟩
  have hb2 : W2.heap[B + 1]? = some (.cells #[.slice (some ⟨B, 0, none⟩) 19 19, .slice a 28 cap] 23 (0, 0)) := by rw [← hW2, ← hz1]; exact World.alloc_heap_new W1 _
  have hx2 : Ext Nope W1 W2 := by rw [← hW2]; exact Ext.alloc _ _ _
  have HX2 : Hid (Ext Nope W W2) := hx1.trans hx2 (fun _ _ h => h) (fun _ _ h => h)
  have HL : Hid (∀ (i : Nat) (li : List (BitVec 8)), [H, l][i]? = some li → ∃ ai ci, W2.cell? ⟨B + 1, i, none⟩ = some (.slice ai li.length ci) ∧ Holds (fun _ => True) W2 ai ci li) := by
    intro i li hi
    match i, hi with
    | 0, hi => simp at hi; subst hi; exact ⟨_, 19, by rw [hHl]; exact block_cell hb2 0 rfl, (show Holds (fun k => k = B) W2 _ 19 H from by have := holds_row (hx2.heap hb1 (fun h => h)) (by omega); rwa [hHl] at this).mono (fun _ _ => trivial)⟩
    | 1, hi => simp at hi; subst hi; exact ⟨_, _, by rw [hn.out]; exact block_cell hb2 1 rfl, (hh.out.ext HX2.out (fun _ _ h => h)).mono (fun _ _ => trivial)⟩
    | i + 2, hi => simp at hi
  have HC := Lib.hid (concat_any (B + 1) 2 [H, l] W2 (Lib.hid rfl) (by omega) HL (by have := hn.out; simp [hHl]; omega))
  have HHL := Lib.hid hHl
  have HZ1 := Lib.hid hz1
  clear hb1 hx1 hz1 hb2 hx2 HL hHl hHc
  go_enter Tryd.func21, Tryd.ntmps21
  go_wp2_with fail
  refine HS.out.mono ?_
  rintro e w ⟨rfl, hw⟩
  rw [hw]
  clear hw w
  go_wp2_with fail
  refine HS.out.mono ?_
  rintro e w ⟨rfl, hw⟩
  rw [hw]
  clear hw w
  go_wp2_with fail
  refine HS.out.mono ?_
  rintro e w ⟨rfl, hw⟩
  rw [hw]
  clear hw w
  go_wp2_with fail
  rw [HZ1.out]
  refine HC.out.mono ?_
  rintro e w3 ⟨v, rfl, ho, hx3⟩
  have e1 : [H, l].flatten = H ++ l := by simp
  rw [e1] at ho
  obtain ⟨hlen, a3, cap3, rfl, hh3⟩ := owns_shape ho
  have HH3 := Lib.hid hh3
  have HX3 : Hid (Ext Nope W w3) := HX2.out.trans hx3 (fun _ _ h => h) (fun _ _ h => h)
  have HSZ := HX2.out.size
  clear ho hx3 hh3 e1 hlen
  go_wp2_with fail
  go_ret2
  exact ⟨_, rfl, a3, cap3, by rw [List.length_append]; rfl, HH3.out.mono (fun k hk => Nat.le_trans HSZ hk.1), HX3.out⟩

theorem head_cells_2 : (bv (headN 2)).toArray = #[.int .u8 48, .int .u8 49, .int .u8 48, .int .u8 13, .int .u8 6, .int .u8 9, .int .u8 96, .int .u8 134, .int .u8 72, .int .u8 1, .int .u8 101, .int .u8 3, .int .u8 4, .int .u8 2, .int .u8 1, .int .u8 5, .int .u8 0, .int .u8 4, .int .u8 32] := by kernel_rfl
set_option maxHeartbeats 1000000 in
set_option maxRecDepth 100000 in
theorem frame_2 {p : Nat → Prop} (a : Option Addr) (cap : Nat) (l : List (BitVec 8)) (W : World) (hm : Hid (Sizes W)) (hh : Hid (Holds p W a cap l)) (hn : Hid (l.length = 32)) :
    Calls Tryd.prog 21 #[.int .i64 2, .slice a 32 cap] W (FramePost W 2 l) := by
  have hHl := headN_length 2
  have hHc := head_cells_2
  unfold FramePost
  obtain ⟨H, hH⟩ : ∃ H, headN 2 = H := ⟨_, rfl⟩
  rw [hH] at hHl hHc ⊢
  clear hH
  have HS : Hid (Calls Tryd.prog 14 #[.int .i64 2] W fun e W' => e = .returned (.int .i64 32) ∧ W' = W) := by have := size_any 2 W hm; rw [show sizeN 2 = 32 from rfl] at this; exact this
  obtain ⟨W1, hW1⟩ : ∃ W1, W.alloc (.cells #[.int .u8 48, .int .u8 49, .int .u8 48, .int .u8 13, .int .u8 6, .int .u8 9, .int .u8 96, .int .u8 134, .int .u8 72, .int .u8 1, .int .u8 101, .int .u8 3, .int .u8 4, .int .u8 2, .int .u8 1, .int .u8 5, .int .u8 0, .int .u8 4, .int .u8 32] 5) = W1 := ⟨_, rfl⟩
  obtain ⟨B, hB⟩ : ∃ B, W.heap.size = B := ⟨_, rfl⟩
  have hb1 : W1.heap[B]? = some (.cells (bv (H)).toArray 5 (0, 0)) := by rw [← hW1, ← hB, hHc]; exact World.alloc_heap_new W _
  have hx1 : Ext Nope W W1 := by rw [← hW1]; exact Ext.alloc _ _ _
  have hz1 : W1.heap.size = B + 1 := by rw [← hW1, ← hB]; exact Array.size_push _
  obtain ⟨W2, hW2⟩ : ∃ W2, W1.alloc (.cells #[.slice (some ⟨B, 0, none⟩) 19 19, .slice a 32 cap] 23) = W2 := ⟨_, rfl⟩
  have hb2 : W2.heap[B + 1]? = some (.cells #[.slice (some ⟨B, 0, none⟩) 19 19, .slice a 32 cap] 23 (0, 0)) := by rw [← hW2, ← hz1]; exact World.alloc_heap_new W1 _
  have hx2 : Ext Nope W1 W2 := by rw [← hW2]; exact Ext.alloc _ _ _
  have HX2 : Hid (Ext Nope W W2) := hx1.trans hx2 (fun _ _ h => h) (fun _ _ h => h)
  have HL : Hid (∀ (i : Nat) (li : List (BitVec 8)), [H, l][i]? = some li → ∃ ai ci, W2.cell? ⟨B + 1, i, none⟩ = some (.slice ai li.length ci) ∧ Holds (fun _ => True) W2 ai ci li) := by
    intro i li hi
    match i, hi with
    | 0, hi => simp at hi; subst hi; exact ⟨_, 19, by rw [hHl]; exact block_cell hb2 0 rfl, (show Holds (fun k => k = B) W2 _ 19 H from by have := holds_row (hx2.heap hb1 (fun h => h)) (by omega); rwa [hHl] at this).mono (fun _ _ => trivial)⟩
    | 1, hi => simp at hi; subst hi; exact ⟨_, _, by rw [hn.out]; exact block_cell hb2 1 rfl, (hh.out.ext HX2.out (fun _ _ h => h)).mono (fun _ _ => trivial)⟩
    | i + 2, hi => simp at hi
  have HC := Lib.hid (concat_any (B + 1) 2 [H, l] W2 (Lib.hid rfl) (by omega) HL (by have := hn.out; simp [hHl]; omega))
  have HHL := Lib.hid hHl
  have HZ1 := Lib.hid hz1
  clear hb1 hx1 hz1 hb2 hx2 HL hHl hHc
  go_enter Tryd.func21, Tryd.ntmps21
  go_wp2_with fail
  refine HS.out.mono ?_
  rintro e w ⟨rfl, hw⟩
  rw [hw]
  clear hw w
  go_wp2_with fail
  refine HS.out.mono ?_
  rintro e w ⟨rfl, hw⟩
  rw [hw]
  clear hw w
  go_wp2_with fail
  refine HS.out.mono ?_
  rintro e w ⟨rfl, hw⟩
  rw [hw]
  clear hw w
  go_wp2_with fail
  rw [HZ1.out]
  refine HC.out.mono ?_
  rintro e w3 ⟨v, rfl, ho, hx3⟩
  have e1 : [H, l].flatten = H ++ l := by simp
  rw [e1] at ho
  obtain ⟨hlen, a3, cap3, rfl, hh3⟩ := owns_shape ho
  have HH3 := Lib.hid hh3
  have HX3 : Hid (Ext Nope W w3) := HX2.out.trans hx3 (fun _ _ h => h) (fun _ _ h => h)
  have HSZ := HX2.out.size
  clear ho hx3 hh3 e1 hlen
  go_wp2_with fail
  go_ret2
  exact ⟨_, rfl, a3, cap3, by rw [List.length_append]; rfl, HH3.out.mono (fun k hk => Nat.le_trans HSZ hk.1), HX3.out⟩

theorem head_cells_3 : (bv (headN 3)).toArray = #[.int .u8 48, .int .u8 65, .int .u8 48, .int .u8 13, .int .u8 6, .int .u8 9, .int .u8 96, .int .u8 134, .int .u8 72, .int .u8 1, .int .u8 101, .int .u8 3, .int .u8 4, .int .u8 2, .int .u8 2, .int .u8 5, .int .u8 0, .int .u8 4, .int .u8 48] := by kernel_rfl
set_option maxHeartbeats 1000000 in
set_option maxRecDepth 100000 in
theorem frame_3 {p : Nat → Prop} (a : Option Addr) (cap : Nat) (l : List (BitVec 8)) (W : World) (hm : Hid (Sizes W)) (hh : Hid (Holds p W a cap l)) (hn : Hid (l.length = 48)) :
    Calls Tryd.prog 21 #[.int .i64 3, .slice a 48 cap] W (FramePost W 3 l) := by
  have hHl := headN_length 3
  have hHc := head_cells_3
  unfold FramePost
  obtain ⟨H, hH⟩ : ∃ H, headN 3 = H := ⟨_, rfl⟩
  rw [hH] at hHl hHc ⊢
  clear hH
  have HS : Hid (Calls Tryd.prog 14 #[.int .i64 3] W fun e W' => e = .returned (.int .i64 48) ∧ W' = W) := by have := size_any 3 W hm; rw [show sizeN 3 = 48 from rfl] at this; exact this
  obtain ⟨W1, hW1⟩ : ∃ W1, W.alloc (.cells #[.int .u8 48, .int .u8 65, .int .u8 48, .int .u8 13, .int .u8 6, .int .u8 9, .int .u8 96, .int .u8 134, .int .u8 72, .int .u8 1, .int .u8 101, .int .u8 3, .int .u8 4, .int .u8 2, .int .u8 2, .int .u8 5, .int .u8 0, .int .u8 4, .int .u8 48] 5) = W1 := ⟨_, rfl⟩
  obtain ⟨B, hB⟩ : ∃ B, W.heap.size = B := ⟨_, rfl⟩
  have hb1 : W1.heap[B]? = some (.cells (bv (H)).toArray 5 (0, 0)) := by rw [← hW1, ← hB, hHc]; exact World.alloc_heap_new W _
  have hx1 : Ext Nope W W1 := by rw [← hW1]; exact Ext.alloc _ _ _
  have hz1 : W1.heap.size = B + 1 := by rw [← hW1, ← hB]; exact Array.size_push _
  obtain ⟨W2, hW2⟩ : ∃ W2, W1.alloc (.cells #[.slice (some ⟨B, 0, none⟩) 19 19, .slice a 48 cap] 23) = W2 := ⟨_, rfl⟩
  have hb2 : W2.heap[B + 1]? = some (.cells #[.slice (some ⟨B, 0, none⟩) 19 19, .slice a 48 cap] 23 (0, 0)) := by rw [← hW2, ← hz1]; exact World.alloc_heap_new W1 _
  have hx2 : Ext Nope W1 W2 := by rw [← hW2]; exact Ext.alloc _ _ _
  have HX2 : Hid (Ext Nope W W2) := hx1.trans hx2 (fun _ _ h => h) (fun _ _ h => h)
  have HL : Hid (∀ (i : Nat) (li : List (BitVec 8)), [H, l][i]? = some li → ∃ ai ci, W2.cell? ⟨B + 1, i, none⟩ = some (.slice ai li.length ci) ∧ Holds (fun _ => True) W2 ai ci li) := by
    intro i li hi
    match i, hi with
    | 0, hi => simp at hi; subst hi; exact ⟨_, 19, by rw [hHl]; exact block_cell hb2 0 rfl, (show Holds (fun k => k = B) W2 _ 19 H from by have := holds_row (hx2.heap hb1 (fun h => h)) (by omega); rwa [hHl] at this).mono (fun _ _ => trivial)⟩
    | 1, hi => simp at hi; subst hi; exact ⟨_, _, by rw [hn.out]; exact block_cell hb2 1 rfl, (hh.out.ext HX2.out (fun _ _ h => h)).mono (fun _ _ => trivial)⟩
    | i + 2, hi => simp at hi
  have HC := Lib.hid (concat_any (B + 1) 2 [H, l] W2 (Lib.hid rfl) (by omega) HL (by have := hn.out; simp [hHl]; omega))
  have HHL := Lib.hid hHl
  have HZ1 := Lib.hid hz1
  clear hb1 hx1 hz1 hb2 hx2 HL hHl hHc
  go_enter Tryd.func21, Tryd.ntmps21
  go_wp2_with fail
  refine HS.out.mono ?_
  rintro e w ⟨rfl, hw⟩
  rw [hw]
  clear hw w
  go_wp2_with fail
  refine HS.out.mono ?_
  rintro e w ⟨rfl, hw⟩
  rw [hw]
  clear hw w
  go_wp2_with fail
  refine HS.out.mono ?_
  rintro e w ⟨rfl, hw⟩
  rw [hw]
  clear hw w
  go_wp2_with fail
  rw [HZ1.out]
  refine HC.out.mono ?_
  rintro e w3 ⟨v, rfl, ho, hx3⟩
  have e1 : [H, l].flatten = H ++ l := by simp
  rw [e1] at ho
  obtain ⟨hlen, a3, cap3, rfl, hh3⟩ := owns_shape ho
  have HH3 := Lib.hid hh3
  have HX3 : Hid (Ext Nope W w3) := HX2.out.trans hx3 (fun _ _ h => h) (fun _ _ h => h)
  have HSZ := HX2.out.size
  clear ho hx3 hh3 e1 hlen
  go_wp2_with fail
  go_ret2
  exact ⟨_, rfl, a3, cap3, by rw [List.length_append]; rfl, HH3.out.mono (fun k hk => Nat.le_trans HSZ hk.1), HX3.out⟩

theorem head_cells_4 : (bv (headN 4)).toArray = #[.int .u8 48, .int .u8 81, .int .u8 48, .int .u8 13, .int .u8 6, .int .u8 9, .int .u8 96, .int .u8 134, .int .u8 72, .int .u8 1, .int .u8 101, .int .u8 3, .int .u8 4, .int .u8 2, .int .u8 3, .int .u8 5, .int .u8 0, .int .u8 4, .int .u8 64] := by kernel_rfl
set_option maxHeartbeats 1000000 in
set_option maxRecDepth 100000 in
theorem frame_4 {p : Nat → Prop} (a : Option Addr) (cap : Nat) (l : List (BitVec 8)) (W : World) (hm : Hid (Sizes W)) (hh : Hid (Holds p W a cap l)) (hn : Hid (l.length = 64)) :
    Calls Tryd.prog 21 #[.int .i64 4, .slice a 64 cap] W (FramePost W 4 l) := by
  have hHl := headN_length 4
  have hHc := head_cells_4
  unfold FramePost
  obtain ⟨H, hH⟩ : ∃ H, headN 4 = H := ⟨_, rfl⟩
  rw [hH] at hHl hHc ⊢
  clear hH
  have HS : Hid (Calls Tryd.prog 14 #[.int .i64 4] W fun e W' => e = .returned (.int .i64 64) ∧ W' = W) := by have := size_any 4 W hm; rw [show sizeN 4 = 64 from rfl] at this; exact this
  obtain ⟨W1, hW1⟩ : ∃ W1, W.alloc (.cells #[.int .u8 48, .int .u8 81, .int .u8 48, .int .u8 13, .int .u8 6, .int .u8 9, .int .u8 96, .int .u8 134, .int .u8 72, .int .u8 1, .int .u8 101, .int .u8 3, .int .u8 4, .int .u8 2, .int .u8 3, .int .u8 5, .int .u8 0, .int .u8 4, .int .u8 64] 5) = W1 := ⟨_, rfl⟩
  obtain ⟨B, hB⟩ : ∃ B, W.heap.size = B := ⟨_, rfl⟩
  have hb1 : W1.heap[B]? = some (.cells (bv (H)).toArray 5 (0, 0)) := by rw [← hW1, ← hB, hHc]; exact World.alloc_heap_new W _
  have hx1 : Ext Nope W W1 := by rw [← hW1]; exact Ext.alloc _ _ _
  have hz1 : W1.heap.size = B + 1 := by rw [← hW1, ← hB]; exact Array.size_push _
  obtain ⟨W2, hW2⟩ : ∃ W2, W1.alloc (.cells #[.slice (some ⟨B, 0, none⟩) 19 19, .slice a 64 cap] 23) = W2 := ⟨_, rfl⟩
  have hb2 : W2.heap[B + 1]? = some (.cells #[.slice (some ⟨B, 0, none⟩) 19 19, .slice a 64 cap] 23 (0, 0)) := by rw [← hW2, ← hz1]; exact World.alloc_heap_new W1 _
  have hx2 : Ext Nope W1 W2 := by rw [← hW2]; exact Ext.alloc _ _ _
  have HX2 : Hid (Ext Nope W W2) := hx1.trans hx2 (fun _ _ h => h) (fun _ _ h => h)
  have HL : Hid (∀ (i : Nat) (li : List (BitVec 8)), [H, l][i]? = some li → ∃ ai ci, W2.cell? ⟨B + 1, i, none⟩ = some (.slice ai li.length ci) ∧ Holds (fun _ => True) W2 ai ci li) := by
    intro i li hi
    match i, hi with
    | 0, hi => simp at hi; subst hi; exact ⟨_, 19, by rw [hHl]; exact block_cell hb2 0 rfl, (show Holds (fun k => k = B) W2 _ 19 H from by have := holds_row (hx2.heap hb1 (fun h => h)) (by omega); rwa [hHl] at this).mono (fun _ _ => trivial)⟩
    | 1, hi => simp at hi; subst hi; exact ⟨_, _, by rw [hn.out]; exact block_cell hb2 1 rfl, (hh.out.ext HX2.out (fun _ _ h => h)).mono (fun _ _ => trivial)⟩
    | i + 2, hi => simp at hi
  have HC := Lib.hid (concat_any (B + 1) 2 [H, l] W2 (Lib.hid rfl) (by omega) HL (by have := hn.out; simp [hHl]; omega))
  have HHL := Lib.hid hHl
  have HZ1 := Lib.hid hz1
  clear hb1 hx1 hz1 hb2 hx2 HL hHl hHc
  go_enter Tryd.func21, Tryd.ntmps21
  go_wp2_with fail
  refine HS.out.mono ?_
  rintro e w ⟨rfl, hw⟩
  rw [hw]
  clear hw w
  go_wp2_with fail
  refine HS.out.mono ?_
  rintro e w ⟨rfl, hw⟩
  rw [hw]
  clear hw w
  go_wp2_with fail
  refine HS.out.mono ?_
  rintro e w ⟨rfl, hw⟩
  rw [hw]
  clear hw w
  go_wp2_with fail
  rw [HZ1.out]
  refine HC.out.mono ?_
  rintro e w3 ⟨v, rfl, ho, hx3⟩
  have e1 : [H, l].flatten = H ++ l := by simp
  rw [e1] at ho
  obtain ⟨hlen, a3, cap3, rfl, hh3⟩ := owns_shape ho
  have HH3 := Lib.hid hh3
  have HX3 : Hid (Ext Nope W w3) := HX2.out.trans hx3 (fun _ _ h => h) (fun _ _ h => h)
  have HSZ := HX2.out.size
  clear ho hx3 hh3 e1 hlen
  go_wp2_with fail
  go_ret2
  exact ⟨_, rfl, a3, cap3, by rw [List.length_append]; rfl, HH3.out.mono (fun k hk => Nat.le_trans HSZ hk.1), HX3.out⟩

theorem sizeN_cases (z : Int) (h : sizeN z ≠ 0) : z = 1 ∨ z = 2 ∨ z = 3 ∨ z = 4 := by
  unfold sizeN at h
  repeat' split at h
  all_goals omega
theorem frame_any {p : Nat → Prop} (z : Int) (m : Nat) (hz : sizeN z = m) (h1 : m ≠ 0) (a : Option Addr) (cap : Nat) (l : List (BitVec 8)) (W : World) (hm : Hid (Sizes W)) (hh : Hid (Holds p W a cap l)) (hn : Hid (l.length = m)) :
    Calls Tryd.prog 21 #[.int .i64 z, .slice a m cap] W (FramePost W z l) := by
  obtain rfl | rfl | rfl | rfl := sizeN_cases z (by omega)
  · obtain rfl : m = 28 := by have : sizeN 1 = 28 := rfl; omega
    exact frame_1 a cap l W hm hh hn
  · obtain rfl : m = 32 := by have : sizeN 2 = 32 := rfl; omega
    exact frame_2 a cap l W hm hh hn
  · obtain rfl : m = 48 := by have : sizeN 3 = 48 := rfl; omega
    exact frame_3 a cap l W hm hh hn
  · obtain rfl : m = 64 := by have : sizeN 4 = 64 := rfl; omega
    exact frame_4 a cap l W hm hh hn
end Go.Proofs.YtjfcldjepgijeaaDoor
