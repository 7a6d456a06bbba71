/- States: new ones, copies, how much was taken. -/
import Derived.Test.YtjfcldjepgijeaaDoorSe
import Derived.Test.YtjfcldjepgijeaaDoorSp
import Derived.Test.YtjfcldjepgijeaaDoorSlb
namespace Go.Proofs.YtjfcldjepgijeaaDoor
open Go.RowKit Go.Shelf

def Squares (W : World) : Prop := ∀ i, i < 16 → W.cell? ⟨2, i, none⟩ = some (.int .u64 (wd (sqr i)))

/-- a state in memory: its size, words, bytes that are left, and how many it took -/
def IsSt (W : World) (b : Nat) (sz : Int) (h : H8) (r : List (BitVec 8)) (tk : BitVec 64) : Prop :=
  ∃ a cap, StB W b sz h (.slice a r.length cap) tk ∧ Holds (fun c => c < W.heap.size) W a cap r

/-- a row of bytes lies in no state -/
theorem holds_ne_st {W : World} {p : Nat → Prop} {a : Option Addr} {cap : Nat} {l : List (BitVec 8)} (h : Holds p W a cap l) {b : Nat} {sz : Int} {s : H8} {a' : Option Addr} {n' c' : Nat} {tk : BitVec 64}
    (hb : StB W b sz s (.slice a' n' c') tk) : Holds (fun c => p c ∧ c ≠ b) W a cap l :=
  ⟨h.len, h.max, h.lies.imp id fun ⟨c, off, e, hp, hc⟩ => ⟨c, off, e, fun hl => ⟨hp hl, by
    intro e'; subst e'
    cases l with
    | nil => exact hl rfl
    | cons x l =>
      have h0 := hc 0 x rfl
      rw [cell_of_row W c (off + 0) _ _ _ hb] at h0
      have hlt := (Array.getElem?_eq_some_iff.1 h0).1
      simp only [stCells, Nat.add_zero] at h0 hlt
      simp at hlt
      obtain rfl | rfl | rfl | rfl | rfl | rfl | rfl | rfl | rfl | rfl | rfl : off = 0 ∨ off = 1 ∨ off = 2 ∨ off = 3 ∨ off = 4 ∨ off = 5 ∨ off = 6 ∨ off = 7 ∨ off = 8 ∨ off = 9 ∨ off = 10 := by omega
      all_goals simp at h0⟩, hc⟩⟩
theorem cubes_ne_st {W : World} (h : Cubes W) {b : Nat} {sz : Int} {s : H8} {v : Value} {tk : BitVec 64} (hb : StB W b sz s v tk) : b ≠ 5 := by
  intro e; subst e
  have h0 := h 0 (by omega)
  rw [cell_of_row W _ 0 _ _ _ hb] at h0
  simp [stCells] at h0
theorem squares_ne_st {W : World} (h : Squares W) {b : Nat} {sz : Int} {s : H8} {v : Value} {tk : BitVec 64} (hb : StB W b sz s v tk) : b ≠ 2 := by
  intro e; subst e
  have h0 := h 0 (by omega)
  rw [cell_of_row W _ 0 _ _ _ hb] at h0
  simp [stCells] at h0
theorem Cubes.ext {D : Nat → Prop} {W W' : World} (h : Cubes W) (he : Ext D W W') (hd : ¬ D 5) : Cubes W' := fun t ht => he.cell (h t ht) hd
theorem Squares.ext {D : Nat → Prop} {W W' : World} (h : Squares W) (he : Ext D W W') (hd : ¬ D 2) : Squares W' := fun t ht => he.cell (h t ht) hd
theorem IsSt.ext {D : Nat → Prop} {W W' : World} {b : Nat} {sz : Int} {h : H8} {r : List (BitVec 8)} {tk : BitVec 64} (hs : IsSt W b sz h r tk) (he : Ext D W W') (hb : ¬ D b)
    (hd : ∀ a cap, Holds (fun c => c < W.heap.size) W a cap r → Holds (fun c => c < W.heap.size ∧ ¬ D c) W a cap r) : IsSt W' b sz h r tk := by
  obtain ⟨a, cap, h1, h2⟩ := hs
  exact ⟨a, cap, he.heap h1 hb, ((hd a cap h2).ext he (fun _ h => h.2)).mono (fun c hc => Nat.lt_of_lt_of_le hc.1 he.size)⟩
theorem IsSt.lt {W : World} {b : Nat} {sz : Int} {h : H8} {r : List (BitVec 8)} {tk : BitVec 64} (hs : IsSt W b sz h r tk) : b < W.heap.size := by
  obtain ⟨a, cap, h1, _⟩ := hs; exact (Array.getElem?_eq_some_iff.1 h1).1
/-- one state's turn leaves another one -/
theorem IsSt.other {W W' : World} {b b' : Nat} {sz sz' : Int} {h h' : H8} {r r' : List (BitVec 8)} {tk tk' : BitVec 64} (hs : IsSt W b sz h r tk) (hs' : IsSt W b' sz' h' r' tk') (hne : b ≠ b') (he : Ext (Just b') W W') :
    IsSt W' b sz h r tk :=
  hs.ext he (fun e => hne e) (fun a cap hh => by obtain ⟨a', cap', h1, _⟩ := hs'; exact (holds_ne_st hh h1).mono (fun c hc => ⟨hc.1, fun e => hc.2 e⟩))
theorem IsSt.grow {W W' : World} {b : Nat} {sz : Int} {h : H8} {r : List (BitVec 8)} {tk : BitVec 64} (hs : IsSt W b sz h r tk) (he : Ext Nope W W') : IsSt W' b sz h r tk :=
  hs.ext he (fun e => e) (fun _ _ hh => hh.mono (fun _ hc => ⟨hc, fun e => e⟩))

theorem new_bad (n : Int) (W : World) (h1 : (n == 384) = false) (h2 : (n == 512) = false) : Calls Tryd.prog 36 #[.int .i64 n] W fun e W' => e = .returned (.tuple #[.pointer none, .int .i64 2]) ∧ W = W' := by
  go_enter Tryd.func36, Tryd.ntmps36
  go_wp2
  go_ret2
  exact ⟨rfl, rfl⟩

def NewPost (W : World) (sz : Int) (h : H8) (e : Ending) (W' : World) : Prop :=
  e = .returned (.tuple #[.pointer (some ⟨W.heap.size, 0, none⟩), .int .i64 0]) ∧ IsSt W' W.heap.size sz h [] 0 ∧ Ext Nope W W'

theorem new_384 (W : World) (hq : Hid (Squares W)) : Calls Tryd.prog 36 #[.int .i64 384] W (NewPost W 48 init384) := by
  have q0 := hq.out 8 (by omega)
  have q1 := hq.out 9 (by omega)
  have q2 := hq.out 10 (by omega)
  have q3 := hq.out 11 (by omega)
  have q4 := hq.out 12 (by omega)
  have q5 := hq.out 13 (by omega)
  have q6 := hq.out 14 (by omega)
  have q7 := hq.out 15 (by omega)
  go_enter Tryd.func36, Tryd.ntmps36
  go_wp2
  go_ret2
  refine ⟨rfl, ⟨none, 0, World.alloc_heap_new W _, Holds.nil _ _⟩, Ext.alloc _ _ _⟩
theorem new_512 (W : World) (hq : Hid (Squares W)) : Calls Tryd.prog 36 #[.int .i64 512] W (NewPost W 64 init512) := by
  have q0 := hq.out 0 (by omega)
  have q1 := hq.out 1 (by omega)
  have q2 := hq.out 2 (by omega)
  have q3 := hq.out 3 (by omega)
  have q4 := hq.out 4 (by omega)
  have q5 := hq.out 5 (by omega)
  have q6 := hq.out 6 (by omega)
  have q7 := hq.out 7 (by omega)
  go_enter Tryd.func36, Tryd.ntmps36
  go_wp2
  go_ret2
  refine ⟨rfl, ⟨none, 0, World.alloc_heap_new W _, Holds.nil _ _⟩, Ext.alloc _ _ _⟩

def CopyPost (W : World) (sz : Int) (h : H8) (r : List (BitVec 8)) (tk : BitVec 64) (e : Ending) (W' : World) : Prop :=
  ∃ b', e = .returned (.pointer (some ⟨b', 0, none⟩)) ∧ W.heap.size ≤ b' ∧ IsSt W' b' sz h r tk ∧ Ext Nope W W'

set_option maxHeartbeats 1000000 in
theorem copy_any (b : Nat) (sz : Int) (h : H8) (r : List (BitVec 8)) (tk : BitVec 64) (W : World) (hs : Hid (IsSt W b sz h r tk)) (hz : (sz == 0) = false) (hr : r.length ≤ 140737488355328) :
    Calls Tryd.prog 60 #[.pointer (some ⟨b, 0, none⟩)] W (CopyPost W sz h r tk) := by
  obtain ⟨a, cap, hst, hh⟩ := hs.out
  have c0 := (st_cells hst).1
  have HST := Lib.hid hst
  have HH := Lib.hid hh
  clear hst hh
  refine (callsIn_wide (n := 9)).1 (callsIn_of_wp_marks Tryd.func60 rfl trivial ?_ rfl)
  simp only [Tryd.ntmps60, List.size_toArray, List.length_cons, List.length_nil, Nat.reduceAdd, Nat.reduceSub, Array.replicate_succ, Array.replicate_zero, List.push_toArray, List.append_toArray, List.nil_append, List.cons_append]
  gi_wp2_with fail
  refine ⟨trivial, calls_fr (r := none) ((none_some b 0 sz _ c0 hz).mono ?_)⟩
  rintro e w' ⟨rfl, rfl⟩
  gi_wp2_with fail
  clear c0
  have f0 := fun x : WG (fun V => StB V b sz h (.slice a r.length cap) tk) => (st_cells x.h).1
  have f1 := fun x : WG (fun V => StB V b sz h (.slice a r.length cap) tk) => (st_cells x.h).2.1
  have f2 := fun x : WG (fun V => StB V b sz h (.slice a r.length cap) tk) => (st_cells x.h).2.2.1
  have f3 := fun x : WG (fun V => StB V b sz h (.slice a r.length cap) tk) => (st_cells x.h).2.2.2.1
  have f4 := fun x : WG (fun V => StB V b sz h (.slice a r.length cap) tk) => (st_cells x.h).2.2.2.2.1
  have f5 := fun x : WG (fun V => StB V b sz h (.slice a r.length cap) tk) => (st_cells x.h).2.2.2.2.2.1
  have f6 := fun x : WG (fun V => StB V b sz h (.slice a r.length cap) tk) => (st_cells x.h).2.2.2.2.2.2.1
  have f7 := fun x : WG (fun V => StB V b sz h (.slice a r.length cap) tk) => (st_cells x.h).2.2.2.2.2.2.2.1
  have f8 := fun x : WG (fun V => StB V b sz h (.slice a r.length cap) tk) => (st_cells x.h).2.2.2.2.2.2.2.2.1
  have f9 := fun x : WG (fun V => StB V b sz h (.slice a r.length cap) tk) => (st_cells x.h).2.2.2.2.2.2.2.2.2.1
  have f10 := fun x : WG (fun V => StB V b sz h (.slice a r.length cap) tk) => (st_cells x.h).2.2.2.2.2.2.2.2.2.2
  have hne : Nonempty (WG (fun V => StB V b sz h (.slice a r.length cap) tk)) := ⟨⟨_, HST.out⟩⟩
  refine wpIn_region_pick (r := none) (fun V => StB V b sz h (.slice a r.length cap) tk) 17 [true, true, true, true, true, true, true, true, true, true, true, true, false, true, true, true, true] [12, 17, 18, 19] (by kernel_rfl) (by kernel_rfl) HST.out ?_
  simp only [keep]
  repeat (go_big_quiet_step (fail))
  refine wpQuiet_nil ?_
  rw [fr_none]
  refine wpLeft_step (i := 12) rfl rfl (fun K hK => ?_)
  have HX : Hid (Holds (fun c => c < W.heap.size) W.drew a cap r) := HH.out.ext (Ext.drew Nope W) (fun _ _ h => h)
  clear f0 f1 f2 f3 f4 f5 f6 f7 f8 f9 f10
  gi_wp2_with fail
  refine ⟨trivial, calls_fr (r := none) ((clone_any a r.length cap r _ HX rfl hr).mono ?_)⟩
  rintro e w1 ⟨v', rfl, hown, hE⟩
  obtain ⟨_, a2, cap2, rfl, hh2⟩ := owns_shape hown
  have HE := Lib.hid hE
  have HH2 := Lib.hid hh2
  clear hown hE hh2
  gi_wp2_with fail
  refine ⟨fun _ => ⟨⟨w1, HE.out.heap HST.out (fun h => h)⟩, rfl⟩, ?_⟩
  refine wpLeft_tail [17, 18, 19] [_, _, _] rfl rfl ?_
  gi_wp2_with fail
  rw [noPan_normal]
  gi_wp2_with fail
  refine leave_none (results_tmp rfl _ _ _) ⟨_, rfl, HE.out.size, ⟨a2, cap2, World.alloc_heap_new w1 _, ?_⟩, ?_⟩
  · exact (HH2.out.ext (Ext.alloc Nope w1 _) (fun _ _ h => h)).mono (fun c hc => by have := hc.2.1; simp; omega)
  · exact ((Ext.drew Nope W).trans HE.out (fun _ _ h => h) (fun _ _ h => h)).trans (Ext.alloc Nope w1 _) (fun _ _ h => h) (fun _ _ h => h)

end Go.Proofs.YtjfcldjepgijeaaDoor
