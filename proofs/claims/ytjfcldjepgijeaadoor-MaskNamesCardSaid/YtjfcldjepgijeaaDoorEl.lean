/- Encodings. -/
import Derived.Test.YtjfcldjepgijeaaDoorEk
namespace Go.Proofs.YtjfcldjepgijeaaDoor
open Go.RowKit Go.Shelf

theorem encode_bad (z : Int) (a : Option Addr) (n cap : Nat) (size : Int) (W : World) (hm : Hid (Sizes W)) (hz : sizeN z = 0 ∨ sizeN z ≠ n) :
    Calls Tryd.prog 20 #[.int .i64 z, .slice a n cap, .int .i64 size] W fun e W' => e = .returned (.tuple #[.slice none 0 0, .int .i64 80]) ∧ W' = W := by
  have HB := Lib.hid (frame_bad z a n cap W hm hz)
  clear hz
  go_enter Tryd.func20, Tryd.ntmps20
  go_wp2_with fail
  refine HB.out.mono ?_
  rintro e w ⟨rfl, rfl⟩
  go_wp2_with fail
  go_ret2
  exact ⟨rfl, rfl⟩
theorem encode_arg {p : Nat → Prop} (z : Int) (m : Nat) (hz : sizeN z = m) (h1 : m ≠ 0) (a : Option Addr) (cap : Nat) (l : List (BitVec 8)) (size : Int) (W : World) (hm : Hid (Sizes W)) (hh : Hid (Holds p W a cap l)) (hn : Hid (l.length = m))
    (hs : size < 30 + m ∨ 65536 < size) :
    Calls Tryd.prog 20 #[.int .i64 z, .slice a m cap, .int .i64 size] W fun e W' => e = .returned (.tuple #[.slice none 0 0, .int .i64 2]) ∧ Ext Nope W W' := by
  have hm64 : m ≤ 64 := by
    obtain rfl | rfl | rfl | rfl := sizeN_cases z (by omega) <;> (unfold sizeN at hz; simp at hz; omega)
  have HF := Lib.hid (frame_any z m hz h1 a cap l W hm hh hn)
  obtain ⟨F, hF⟩ : ∃ F, 19 + m = F := ⟨_, rfl⟩
  have HFL : Hid ((headN z ++ l).length = F) := by have := hn.out; unfold Hid; rw [List.length_append, headN_length]; omega
  have hF100 : F ≤ 100 := by omega
  have hs' : size < (F : Int) + 11 ∨ 65536 < size := by omega
  clear hs hz h1 hF
  go_enter Tryd.func20, Tryd.ntmps20
  go_wp2_with fail
  refine HF.out.mono ?_
  rintro e w ⟨v, rfl, af, capf, rfl, hh1, hx1⟩
  have HX1 := Lib.hid hx1
  rw [HFL.out]
  clear hh1 hx1
  by_cases hs1 : size < (F : Int) + 11
  · go_wp2_with fail
    go_ret2
    exact ⟨rfl, HX1.out⟩
  · have hs2 : 65536 < size := by omega
    go_wp2_with fail
    go_ret2
    exact ⟨rfl, HX1.out⟩

/-- an encoding -/
def encN (z : Int) (l : List (BitVec 8)) (q : Nat) : List (BitVec 8) := [0, 1] ++ (List.replicate q 255 ++ ([0] ++ (headN z ++ l)))
theorem encN_length (z : Int) (l : List (BitVec 8)) (q : Nat) : (encN z l q).length = 22 + l.length + q := by
  unfold encN; simp only [List.length_append, List.length_replicate, headN_length, List.length_cons, List.length_nil]; omega

set_option maxHeartbeats 1000000 in
set_option maxRecDepth 100000 in
theorem encode_any {p : Nat → Prop} (z : Int) (m q : Nat) (hz : sizeN z = m) (h1 : m ≠ 0) (a : Option Addr) (cap : Nat) (l : List (BitVec 8)) (W : World) (hm : Hid (Sizes W)) (hh : Hid (Holds p W a cap l)) (hn : Hid (l.length = m))
    (hq : 8 ≤ q) (hq2 : q ≤ 8192) (size : Nat) (hsz : size = 22 + m + q) :
    Calls Tryd.prog 20 #[.int .i64 z, .slice a m cap, .int .i64 size] W fun e W' => ∃ v, e = .returned (.tuple #[v, .int .i64 0]) ∧ RowC W (encN z l q) v W' := by
  have hm64 : m ≤ 64 := by
    obtain rfl | rfl | rfl | rfl := sizeN_cases z (by omega) <;> (unfold sizeN at hz; simp at hz; omega)
  have HF := Lib.hid (frame_any z m hz h1 a cap l W hm hh hn)
  obtain ⟨F, hF⟩ : ∃ F, 19 + m = F := ⟨_, rfl⟩
  have HFL : Hid ((headN z ++ l).length = F) := by have := hn.out; unfold Hid; rw [List.length_append, headN_length]; omega
  have HEL : Hid ((encN z l q).length = size) := by have := hn.out; unfold Hid; rw [encN_length]; omega
  have hF100 : F ≤ 100 := by omega
  have hs1 : ¬ ((size : Int) < (F : Int) + 11) := by omega
  have hs2 : ¬ (65536 < (size : Int)) := by omega
  have hs3 : wrap64 ((size : Int) - (F : Int)) = (size : Int) - F := by unfold wrap64; omega
  have hs4 : wrap64 ((size : Int) - (F : Int) - 3) = (q : Int) := by unfold wrap64; omega
  have hs5 : (size : Int) - (F : Int) - 3 = (q : Int) := by omega
  have HQ : Hid (8 ≤ q ∧ q ≤ 8192 ∧ size ≤ 10000) := ⟨hq, hq2, by omega⟩
  unfold encN at HEL ⊢
  obtain ⟨FL, hFL⟩ : ∃ FL, headN z ++ l = FL := ⟨_, rfl⟩
  unfold FramePost at HF
  rw [hFL] at HFL HEL HF ⊢
  clear hz h1 hF hFL hq hq2 hsz
  go_enter Tryd.func20, Tryd.ntmps20
  go_wp2_with fail
  refine HF.out.mono ?_
  rintro e w ⟨v, rfl, af, capf, rfl, hh1, hx1⟩
  have HX1 := Lib.hid hx1
  have HH1 := Lib.hid hh1
  rw [HFL.out]
  clear hh1 hx1
  go_wp2_with fail
  clear hs1 hs2 hs3 hs4 hs5 hF100
  have hc1 : (w.alloc (.cells #[.int .u8 255] 5)).cell? ⟨w.heap.size, 0, none⟩ = some (.int .u8 (wd (255 : BitVec 8))) := block_cell (World.alloc_heap_new w _) 0 rfl
  have hx2 : Ext Nope w (w.alloc (.cells #[.int .u8 255] 5)) := Ext.alloc _ _ _
  obtain ⟨W2, hW2⟩ : ∃ W2, w.alloc (.cells #[.int .u8 255] 5) = W2 := ⟨_, rfl⟩
  rw [hW2] at hc1 hx2 ⊢
  have HX2 : Hid (Ext Nope W W2) := HX1.out.trans hx2 (fun _ _ h => h) (fun _ _ h => h)
  have HFR2 := HH1.out.ext hx2 (fun _ _ h => h)
  have HFR2 := Lib.hid HFR2
  have HR := Lib.hid (repeat_any w.heap.size 1 q 255 W2 (by have := HQ.out.1; omega) HQ.out.2.1 hc1)
  clear hW2 hx2 hc1
  refine HR.out.mono ?_
  rintro e w3 ⟨ar, rfl, hh3, hx3⟩
  have HX3 : Hid (Ext Nope W w3) := HX2.out.trans hx3 (fun _ _ h => h) (fun _ _ h => h)
  have HFR3 := Lib.hid (HFR2.out.ext hx3 (fun _ _ h => h))
  have HH3 := Lib.hid hh3
  clear hh3 hx3
  obtain ⟨B, hB⟩ : ∃ B, w3.heap.size = B := ⟨_, rfl⟩
  obtain ⟨W4, hW4⟩ : ∃ W4, w3.alloc (.cells #[.int .u8 0, .int .u8 1] 5) = W4 := ⟨_, rfl⟩
  have hb4 : W4.heap[B]? = some (.cells (bv [0, 1]).toArray 5 (0, 0)) := by rw [← hW4, ← hB]; exact World.alloc_heap_new w3 _
  have hx4 : Ext Nope w3 W4 := by rw [← hW4]; exact Ext.alloc _ _ _
  have hz4 : W4.heap.size = B + 1 := by rw [← hW4, ← hB]; exact Array.size_push _
  obtain ⟨W5, hW5⟩ : ∃ W5, W4.alloc (.cells #[.int .u8 0] 5) = W5 := ⟨_, rfl⟩
  have hb5 : W5.heap[B + 1]? = some (.cells (bv [0]).toArray 5 (0, 0)) := by rw [← hW5, ← hz4]; exact World.alloc_heap_new W4 _
  have hx5 : Ext Nope W4 W5 := by rw [← hW5]; exact Ext.alloc _ _ _
  have hz5 : W5.heap.size = B + 2 := by rw [← hW5, World.size_alloc, hz4]
  obtain ⟨W6, hW6⟩ : ∃ W6, W5.alloc (.cells #[.slice (some ⟨B, 0, none⟩) 2 2, .slice ar q q, .slice (some ⟨B + 1, 0, none⟩) 1 1, .slice af F capf] 23) = W6 := ⟨_, rfl⟩
  have hb6 : W6.heap[B + 2]? = some (.cells #[.slice (some ⟨B, 0, none⟩) 2 2, .slice ar q q, .slice (some ⟨B + 1, 0, none⟩) 1 1, .slice af F capf] 23 (0, 0)) := by rw [← hW6, ← hz5]; exact World.alloc_heap_new W5 _
  have hx6 : Ext Nope W5 W6 := by rw [← hW6]; exact Ext.alloc _ _ _
  have hx46 : Ext Nope W4 W6 := hx5.trans hx6 (fun _ _ h => h) (fun _ _ h => h)
  have hx36 : Ext Nope w3 W6 := hx4.trans hx46 (fun _ _ h => h) (fun _ _ h => h)
  have HX6 : Hid (Ext Nope W W6) := HX3.out.trans hx36 (fun _ _ h => h) (fun _ _ h => h)
  have HL : Hid (∀ (i : Nat) (li : List (BitVec 8)), [[0, 1], List.replicate q 255, [0], FL][i]? = some li → ∃ ai ci, W6.cell? ⟨B + 2, i, none⟩ = some (.slice ai li.length ci) ∧ Holds (fun _ => True) W6 ai ci li) := by
    intro i li hi
    match i, hi with
    | 0, hi => simp at hi; subst hi; exact ⟨_, _, block_cell hb6 0 rfl, (holds_row (hx46.heap hb4 (fun h => h)) (by simp)).mono (fun _ _ => trivial)⟩
    | 1, hi => simp at hi; subst hi; exact ⟨_, _, by rw [List.length_replicate]; exact block_cell hb6 1 rfl, (HH3.out.ext hx36 (fun _ _ h => h)).mono (fun _ _ => trivial)⟩
    | 2, hi => simp at hi; subst hi; exact ⟨_, _, block_cell hb6 2 rfl, (holds_row (hx6.heap hb5 (fun h => h)) (by simp)).mono (fun _ _ => trivial)⟩
    | 3, hi => simp at hi; subst hi; exact ⟨_, _, by rw [HFL.out]; exact block_cell hb6 3 rfl, (HFR3.out.ext hx36 (fun _ _ h => h)).mono (fun _ _ => trivial)⟩
    | i + 4, hi => simp at hi
  have e1 : [[0, 1], List.replicate q 255, [0], FL].flatten = [0, 1] ++ (List.replicate q 255 ++ ([0] ++ FL)) := by simp
  have HC := Lib.hid (concat_any (B + 2) 4 [[0, 1], List.replicate q 255, [0], FL] W6 (Lib.hid rfl) (by omega) HL (by rw [e1, HEL.out]; have := HQ.out.2.2; omega))
  rw [e1] at HC
  have HZ4 := Lib.hid hz4
  have HZ5 := Lib.hid hz5
  clear hb4 hx4 hz4 hb5 hx5 hz5 hb6 hx6 hx46 hx36 HL e1
  go_wp2_with fail
  rw [HZ5.out, HZ4.out, hW6]
  refine HC.out.mono ?_
  rintro e w7 ⟨v, rfl, ho, hx7⟩
  obtain ⟨hlen, a7, cap7, rfl, hh7⟩ := owns_shape ho
  have HH7 := Lib.hid hh7
  have HX7 : Hid (Ext Nope W w7) := HX6.out.trans hx7 (fun _ _ h => h) (fun _ _ h => h)
  have HSZ := HX6.out.size
  rw [HEL.out]
  have HEL2 := HEL.out
  clear ho hx7 hh7 hlen
  go_wp2_with fail
  go_ret2
  exact ⟨_, rfl, a7, cap7, by show _ = Value.slice a7 ([0, 1] ++ (List.replicate q 255 ++ ([0] ++ FL))).length cap7; rw [HEL2]; rfl, HH7.out.mono (fun k hk => Nat.le_trans HSZ hk.1), HX7.out⟩
end Go.Proofs.YtjfcldjepgijeaaDoor
