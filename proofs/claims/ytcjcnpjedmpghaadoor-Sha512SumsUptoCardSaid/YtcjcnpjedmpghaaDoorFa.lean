/- The reference's wide numbers. -/
import Derived.Test.YtcjcnpjedmpghaaDoorProg
import Derived.Test.YtcjcnpjedmpghaaDoorMem
import Derived.WalkSpells
import Derived.WalkLawsBesides
import Derived.Lib.Hide
import Derived.RangeFuncRecord
import Derived.Laws.Rows
import Derived.Handy
import Derived.Deep.LoopGhost
namespace Go.Proofs.YtcjcnpjedmpghaaDoor
open Go.RowKit

/-- a number of eight words -/
def wv (f : Nat → Nat) : Value := .agg #[.int .u64 (f 0), .int .u64 (f 1), .int .u64 (f 2), .int .u64 (f 3), .int .u64 (f 4), .int .u64 (f 5), .int .u64 (f 6), .int .u64 (f 7)]
def wcells (f : Nat → Nat) : Array Value := #[.int .u64 (f 0), .int .u64 (f 1), .int .u64 (f 2), .int .u64 (f 3), .int .u64 (f 4), .int .u64 (f 5), .int .u64 (f 6), .int .u64 (f 7)]
def W8 (V : World) (B : Nat) (f : Nat → Nat) : Prop := ∃ cs : Array Value, V.heap[B]? = some (.cells cs 62 (0, 0)) ∧ cs.size = 8 ∧ ∀ j, j < 8 → cs[j]? = some (.int .u64 (f j))
def upd (f : Nat → Nat) (k v : Nat) : Nat → Nat := fun i => if i = k then v else f i
theorem w8_new {V : World} {B : Nat} {f : Nat → Nat} (h : V.heap[B]? = some (.cells (wcells f) 62 (0, 0))) : W8 V B f :=
  ⟨_, h, rfl, fun j hj => by
    obtain rfl | rfl | rfl | rfl | rfl | rfl | rfl | rfl : j = 0 ∨ j = 1 ∨ j = 2 ∨ j = 3 ∨ j = 4 ∨ j = 5 ∨ j = 6 ∨ j = 7 := by omega
    all_goals rfl⟩
theorem W8.cell {V : World} {B : Nat} {f : Nat → Nat} (h : W8 V B f) {j : Nat} (hj : j < 8) : V.cell? ⟨B, j, none⟩ = some (.int .u64 (f j)) := by
  obtain ⟨cs, h1, h2, h3⟩ := h
  exact block_cell h1 j (h3 j hj)
theorem W8.free {V : World} {B : Nat} {f : Nat → Nat} (h : W8 V B f) (j : Nat) : V.frozen? ⟨B, j, none⟩ = false := by
  obtain ⟨cs, h1, h2, h3⟩ := h
  exact block_free h1 j
theorem W8.set {V : World} {B : Nat} {f : Nat → Nat} (h : W8 V B f) (k v : Nat) (hk : k < 8) : W8 (V.setCell ⟨B, k, none⟩ (.int .u64 v)) B (upd f k v) := by
  obtain ⟨cs, h1, h2, h3⟩ := h
  refine ⟨_, block_set h1 k _, by simpa using h2, fun j hj => ?_⟩
  unfold upd
  by_cases e : j = k
  · subst e; rw [Array.getElem?_setIfInBounds_self_of_lt (by omega), if_pos rfl]
  · rw [Array.getElem?_setIfInBounds_ne (fun h => e h.symm), h3 j hj, if_neg e]
theorem W8.ext {D : Nat → Prop} {V V' : World} {B : Nat} {f : Nat → Nat} (h : W8 V B f) (he : Ext D V V') (hn : ¬ D B) : W8 V' B f := by
  obtain ⟨cs, h1, h2, h3⟩ := h
  exact ⟨cs, he.heap h1 hn, h2, h3⟩

set_option maxRecDepth 100000 in
theorem with_any (f : Nat → Nat) (bit : Nat) (hb : bit < 256) (hf : Hid (∀ j, f j < 4294967296)) (W : World) :
    Calls Tryd.prog 29 #[wv f, .int .i64 bit] W fun e W' => e = .returned (wv (upd f (bit / 32) (f (bit / 32) + 2 ^ (bit % 32)))) ∧ Ext Nope W W' := by
  unfold wv
  go_enter Tryd.func29, Tryd.ntmps29
  go_wp2_with fail
  obtain ⟨W1, hW1⟩ : ∃ W1, (W.alloc (.cells (wcells f) 62)).alloc (.cells #[.int .u64 0, .int .u64 0, .int .u64 0, .int .u64 0, .int .u64 0, .int .u64 0, .int .u64 0, .int .u64 0] 62) = W1 := ⟨_, rfl⟩
  have hf1 : W8 W1 W.heap.size f := by rw [← hW1]; exact W8.ext (D := Nope) (w8_new (World.alloc_heap_new W _)) (Ext.alloc _ _ _) (fun h => h)
  have hx1 : Ext Nope W W1 := by rw [← hW1]; exact (Ext.alloc _ _ _).trans (Ext.alloc _ _ _) (fun _ _ h => h) (fun _ _ h => h)
  have hs1 : W1.heap.size = W.heap.size + 2 := by rw [← hW1]; simp
  have hzl : W1.heap[W.heap.size + 1]? = some (.cells (wcells fun _ => 0) 62 (0, 0)) := by
    rw [← hW1]
    have := World.alloc_heap_new (W.alloc (.cells (wcells f) 62)) (.cells (wcells fun _ => 0) 62)
    rw [World.size_alloc] at this
    exact this
  have hz1 : W8 W1 (W.heap.size + 1) (fun _ => 0) := w8_new hzl
  have HZL := Lib.hid hzl
  clear hzl
  unfold wcells at hW1
  rw [hW1]
  clear hW1
  have HF := Lib.hid hf1
  have HX := Lib.hid hx1
  have HS := Lib.hid hs1
  have HZ := Lib.hid hz1
  clear hf1 hx1 hs1 hz1
  go_loop [5, 6] (fun p i => ∃ (k q : Nat), k ≤ bit % 32 ∧ i = .int .i64 k ∧ p = .int .u64 q ∧ q = 2 ^ k) (fun _ i => bit % 32 - (intOf i).toNat)
  case atStart => exact ⟨0, 1, by omega, rfl, rfl, rfl⟩
  case round =>
    obtain ⟨k, q, hk, rfl, rfl, hq⟩ := hrel
    have HQ := Lib.hid hq
    have hq2 : q ≤ 2147483648 := by
      rw [hq]; exact Nat.pow_le_pow_right (n := 2) (by omega) (show k ≤ 31 by omega)
    clear hq
    by_cases hlt : k < bit % 32
    · go_wp2_with fail
      go_round
      case rel => exact ⟨k + 1, 2 * q, by omega, by go_num, by go_num, by rw [HQ.out, Nat.pow_succ]; omega⟩
      case measure => simp [intOf]; omega
    · obtain rfl : k = bit % 32 := by omega
      have hc := HF.out.cell (show bit / 32 < 8 by omega)
      have hfr := HF.out.free (bit / 32)
      have hfl := hf.out (bit / 32)
      have hs := HF.out.set (bit / 32) (f (bit / 32) + q) (by omega)
      simp only [Int.natCast_add] at hs
      have e0 := hs.cell (j := 0) (by omega)
      have e1 := hs.cell (j := 1) (by omega)
      have e2 := hs.cell (j := 2) (by omega)
      have e3 := hs.cell (j := 3) (by omega)
      have e4 := hs.cell (j := 4) (by omega)
      have e5 := hs.cell (j := 5) (by omega)
      have e6 := hs.cell (j := 6) (by omega)
      have e7 := hs.cell (j := 7) (by omega)
      have d0 := HZ.out.cell (j := 0) (by omega)
      have d1 := HZ.out.cell (j := 1) (by omega)
      have d2 := HZ.out.cell (j := 2) (by omega)
      have d3 := HZ.out.cell (j := 3) (by omega)
      have d4 := HZ.out.cell (j := 4) (by omega)
      have d5 := HZ.out.cell (j := 5) (by omega)
      have d6 := HZ.out.cell (j := 6) (by omega)
      have d7 := HZ.out.cell (j := 7) (by omega)
      have dfr := HZ.out.free
      clear hs
      go_wp2_with fail
      have hV : (W1.setCell ⟨W.heap.size, bit / 32, none⟩ (.int .u64 ((f (bit / 32) : Int) + (q : Int)))).heap[W.heap.size + 1]? = some (.cells (wcells fun _ => 0) 62 (0, 0)) :=
        (Ext.setCell (D := Just W.heap.size) W1 ⟨W.heap.size, bit / 32, none⟩ _ rfl).heap HZL.out (fun h => by simp only [Just] at h; omega)
      obtain ⟨hfin, hxs⟩ := set8 hV (.int .u64 (upd f (bit / 32) (f (bit / 32) + q) 0)) (.int .u64 (upd f (bit / 32) (f (bit / 32) + q) 1)) (.int .u64 (upd f (bit / 32) (f (bit / 32) + q) 2)) (.int .u64 (upd f (bit / 32) (f (bit / 32) + q) 3))
        (.int .u64 (upd f (bit / 32) (f (bit / 32) + q) 4)) (.int .u64 (upd f (bit / 32) (f (bit / 32) + q) 5)) (.int .u64 (upd f (bit / 32) (f (bit / 32) + q) 6)) (.int .u64 (upd f (bit / 32) (f (bit / 32) + q) 7))
      refine bodyPost_ret (results_cell_row rfl _ _ (W.heap.size + 1) _ _ _ _ rfl hfin Tryd.underlying62 rfl (by kernel_rfl)) rfl ⟨?_, ?_⟩
      · rw [HQ.out]
      · exact (HX.out.trans (Ext.setCell (D := Just W.heap.size) W1 ⟨W.heap.size, bit / 32, none⟩ _ rfl) (E := Nope) (fun _ _ h => h) (fun i hi h => by simp only [Just] at h; omega)).trans hxs (fun _ _ h => h) (fun i hi h => by simp only [Just] at h; omega)
end Go.Proofs.YtcjcnpjedmpghaaDoor
