/- States of sha256: new ones, copies. -/
import Derived.Test.YtjfcldjepgijeaaDoorGc
import Derived.Test.YtjfcldjepgijeaaDoorSp
import Derived.Test.YtjfcldjepgijeaaDoorSlb
namespace Go.Proofs.YtjfcldjepgijeaaDoor
open Go.RowKit Go.Shelf

def Firsts (W : World) : Prop := ∀ i, i < 16 → W.cell? ⟨1, i, none⟩ = some (.int .u32 (wd (fst6 i)))
/-- a state in memory: its size, words, bytes that are left, and how many it took -/
def IsG (W : World) (b : Nat) (sz : Int) (h : G8) (r : List (BitVec 8)) (tk : BitVec 64) : Prop :=
  ∃ a cap, StG W b sz h (.slice a r.length cap) tk ∧ Holds (fun c => c < W.heap.size) W a cap r
/-- .. whose bytes that are left lie in memory that is new -/
def IsGN (W : World) (B : Nat) (b : Nat) (sz : Int) (h : G8) (r : List (BitVec 8)) (tk : BitVec 64) : Prop :=
  ∃ a cap, StG W b sz h (.slice a r.length cap) tk ∧ Holds (fun c => B ≤ c ∧ c < W.heap.size) W a cap r
theorem IsGN.st {W : World} {B b : Nat} {sz : Int} {h : G8} {r : List (BitVec 8)} {tk : BitVec 64} (hs : IsGN W B b sz h r tk) : IsG W b sz h r tk := by
  obtain ⟨a, cap, h1, h2⟩ := hs; exact ⟨a, cap, h1, h2.mono (fun c hc => hc.2)⟩

/-- a row of bytes lies in no state -/
theorem holds_ne_stg {W : World} {p : Nat → Prop} {a : Option Addr} {cap : Nat} {l : List (BitVec 8)} (h : Holds p W a cap l) {b : Nat} {sz : Int} {s : G8} {a' : Option Addr} {n' c' : Nat} {tk : BitVec 64}
    (hb : StG W b sz s (.slice a' n' c') tk) : Holds (fun c => p c ∧ c ≠ b) W a cap l :=
  ⟨h.len, h.max, h.lies.imp id fun ⟨c, off, e, hp, hc⟩ => ⟨c, off, e, fun hl => ⟨hp hl, by
    intro e'; subst e'
    cases l with
    | nil => exact hl rfl
    | cons x l =>
      have h0 := hc 0 x rfl
      rw [cell_of_row W c (off + 0) _ _ _ hb] at h0
      have hlt := (Array.getElem?_eq_some_iff.1 h0).1
      simp only [stgCells, Nat.add_zero] at h0 hlt
      simp at hlt
      obtain rfl | rfl | rfl | rfl | rfl | rfl | rfl | rfl | rfl | rfl | rfl : off = 0 ∨ off = 1 ∨ off = 2 ∨ off = 3 ∨ off = 4 ∨ off = 5 ∨ off = 6 ∨ off = 7 ∨ off = 8 ∨ off = 9 ∨ off = 10 := by omega
      all_goals simp at h0⟩, hc⟩⟩
theorem kubes_ne_st {W : World} (h : Kubes W) {b : Nat} {sz : Int} {s : G8} {v : Value} {tk : BitVec 64} (hb : StG W b sz s v tk) : b ≠ 4 := by
  intro e; subst e
  have h0 := h 0 (by omega)
  rw [cell_of_row W _ 0 _ _ _ hb] at h0
  simp [stgCells] at h0
theorem Kubes.ext {D : Nat → Prop} {W W' : World} (h : Kubes W) (he : Ext D W W') (hd : ¬ D 4) : Kubes W' := fun t ht => he.cell (h t ht) hd
theorem Firsts.ext {D : Nat → Prop} {W W' : World} (h : Firsts W) (he : Ext D W W') (hd : ¬ D 1) : Firsts W' := fun t ht => he.cell (h t ht) hd
theorem IsG.ext {D : Nat → Prop} {W W' : World} {b : Nat} {sz : Int} {h : G8} {r : List (BitVec 8)} {tk : BitVec 64} (hs : IsG W b sz h r tk) (he : Ext D W W') (hb : ¬ D b)
    (hd : ∀ a cap, Holds (fun c => c < W.heap.size) W a cap r → Holds (fun c => c < W.heap.size ∧ ¬ D c) W a cap r) : IsG W' b sz h r tk := by
  obtain ⟨a, cap, h1, h2⟩ := hs
  exact ⟨a, cap, he.heap h1 hb, ((hd a cap h2).ext he (fun _ h => h.2)).mono (fun c hc => Nat.lt_of_lt_of_le hc.1 he.size)⟩
theorem IsG.lt {W : World} {b : Nat} {sz : Int} {h : G8} {r : List (BitVec 8)} {tk : BitVec 64} (hs : IsG W b sz h r tk) : b < W.heap.size := by
  obtain ⟨a, cap, h1, _⟩ := hs; exact (Array.getElem?_eq_some_iff.1 h1).1
theorem IsG.grow {W W' : World} {b : Nat} {sz : Int} {h : G8} {r : List (BitVec 8)} {tk : BitVec 64} (hs : IsG W b sz h r tk) (he : Ext Nope W W') : IsG W' b sz h r tk :=
  hs.ext he (fun e => e) (fun _ _ hh => hh.mono (fun _ hc => ⟨hc, fun e => e⟩))

def NewGPost (W : World) (sz : Int) (h : G8) (e : Ending) (W' : World) : Prop :=
  e = .returned (.tuple #[.pointer (some ⟨W.heap.size, 0, none⟩), .int .i64 0]) ∧ IsG W' W.heap.size sz h [] 0 ∧ Ext Nope W W'
theorem new_224 (W : World) (hq : Hid (Firsts W)) : Calls Tryd.prog 33 #[.int .i64 224] W (NewGPost W 28 init224) := by
  have q0 := hq.out 0 (by omega)
  have q1 := hq.out 1 (by omega)
  have q2 := hq.out 2 (by omega)
  have q3 := hq.out 3 (by omega)
  have q4 := hq.out 4 (by omega)
  have q5 := hq.out 5 (by omega)
  have q6 := hq.out 6 (by omega)
  have q7 := hq.out 7 (by omega)
  go_enter Tryd.func33, Tryd.ntmps33
  go_wp2
  go_ret2
  refine ⟨rfl, ⟨none, 0, World.alloc_heap_new W _, Holds.nil _ _⟩, Ext.alloc _ _ _⟩
theorem new_256 (W : World) (hq : Hid (Firsts W)) : Calls Tryd.prog 33 #[.int .i64 256] W (NewGPost W 32 init256) := by
  have q0 := hq.out 8 (by omega)
  have q1 := hq.out 9 (by omega)
  have q2 := hq.out 10 (by omega)
  have q3 := hq.out 11 (by omega)
  have q4 := hq.out 12 (by omega)
  have q5 := hq.out 13 (by omega)
  have q6 := hq.out 14 (by omega)
  have q7 := hq.out 15 (by omega)
  go_enter Tryd.func33, Tryd.ntmps33
  go_wp2
  go_ret2
  refine ⟨rfl, ⟨none, 0, World.alloc_heap_new W _, Holds.nil _ _⟩, Ext.alloc _ _ _⟩

def CopyGPost (W : World) (sz : Int) (h : G8) (r : List (BitVec 8)) (tk : BitVec 64) (e : Ending) (W' : World) : Prop :=
  ∃ b', e = .returned (.pointer (some ⟨b', 0, none⟩)) ∧ W.heap.size ≤ b' ∧ b' < W'.heap.size ∧ IsG W' b' sz h r tk ∧ Ext Nope W W'
set_option maxHeartbeats 1000000 in
theorem copyg_any (b : Nat) (sz : Int) (h : G8) (r : List (BitVec 8)) (tk : BitVec 64) (W : World) (hs : Hid (IsG W b sz h r tk)) (hz : (sz == 0) = false) (hr : r.length ≤ 140737488355328) :
    Calls Tryd.prog 56 #[.pointer (some ⟨b, 0, none⟩)] W (CopyGPost W sz h r tk) := by
  obtain ⟨a, cap, hst, hh⟩ := hs.out
  obtain ⟨c0, c1, c2, c3, c4, c5, c6, c7, c8, c9, c10⟩ := stg_cells hst
  have HST := Lib.hid hst
  have HH := Lib.hid hh
  clear hst hh
  go_enter Tryd.func56, Tryd.ntmps56
  go_wp2_with fail
  refine (noneg_some b 0 sz _ c0 hz).mono ?_
  rintro e w' ⟨rfl, rfl⟩
  obtain ⟨W1, hW1⟩ : ∃ W1, W.alloc (.cells #[.int .i64 sz, .int .u32 (wd h.a), .int .u32 (wd h.b), .int .u32 (wd h.c), .int .u32 (wd h.d), .int .u32 (wd h.e), .int .u32 (wd h.f), .int .u32 (wd h.g), .int .u32 (wd h.h), .slice a r.length cap, .int .u64 (wd tk)] 93) = W1 := ⟨_, rfl⟩
  have hx1 : Ext Nope W W1 := by rw [← hW1]; exact Ext.alloc _ _ _
  have hnew : StG W1 W.heap.size sz h (.slice a r.length cap) tk := by rw [← hW1]; exact World.alloc_heap_new W _
  have hc9 := hx1.cell c9 (fun h => h)
  have HX1 := Lib.hid hx1
  have HNEW := Lib.hid hnew
  have HH1 : Hid (Holds (fun c => c < W.heap.size) W1 a cap r) := HH.out.ext hx1 (fun _ _ h => h)
  clear hx1 hnew
  go_wp2_with fail
  refine (clone_any a r.length cap r W1 HH1 rfl hr).mono ?_
  rintro e w2 ⟨v', rfl, hown, hE⟩
  obtain ⟨_, a2, cap2, rfl, hh2⟩ := owns_shape hown
  have hst2 : StG w2 W.heap.size sz h (.slice a r.length cap) tk := hE.heap HNEW.out (fun h => h)
  have hfr := block_free hst2
  have hc9' := (stg_cells hst2).2.2.2.2.2.2.2.2.2.1
  have HST2 := Lib.hid hst2
  have HE := Lib.hid hE
  have HH2 := Lib.hid hh2
  clear hown hE hh2 hst2 hW1
  go_wp2_with fail
  go_ret
  have hset : StG (w2.setCell ⟨W.heap.size, 9, none⟩ (.slice a2 r.length cap2)) W.heap.size sz h (.slice a2 r.length cap2) tk := by
    have := block_set HST2.out 9 (.slice a2 r.length cap2)
    unfold StG; rw [this]; simp [stgCells]
  have hlt2 : W.heap.size < w2.heap.size := (Array.getElem?_eq_some_iff.1 HST2.out).1
  have hx2 : Ext (Just W.heap.size) w2 (w2.setCell ⟨W.heap.size, 9, none⟩ (.slice a2 r.length cap2)) := Ext.setCell _ _ _ rfl
  refine ⟨W.heap.size, rfl, Nat.le_refl _, Nat.lt_of_lt_of_le hlt2 hx2.size, ⟨a2, cap2, hset, ?_⟩, ?_⟩
  · have hs1 : W.heap.size < W1.heap.size := (Array.getElem?_eq_some_iff.1 HNEW.out).1
    refine (HH2.out.ext hx2 (fun c hc e => ?_)).mono (fun c hc => Nat.lt_of_lt_of_le hc.2.1 hx2.size)
    have h1 := hc.1
    have h2 : c = W.heap.size := e
    omega
  · exact ((HX1.out.trans HE.out (fun _ _ h => h) (fun _ _ h => h)).trans hx2 (fun _ _ h => h) (fun j hj h => by simp only [Just] at h; omega))
end Go.Proofs.YtjfcldjepgijeaaDoor
