/- A block turns the state. -/
import Derived.Test.YtjfcldjepgijeaaDoorSd
namespace Go.Proofs.YtjfcldjepgijeaaDoor
open Go.RowKit Go.Shelf
attribute [local go_sem] Oper.semAt_some

def h8cells (s : H8) : Array Value := #[.int .u64 (wd s.a), .int .u64 (wd s.b), .int .u64 (wd s.c), .int .u64 (wd s.d), .int .u64 (wd s.e), .int .u64 (wd s.f), .int .u64 (wd s.g), .int .u64 (wd s.h)]
def stCells (sz : Int) (s : H8) (rest : Value) (tk : BitVec 64) : Array Value :=
  #[.int .i64 sz, .int .u64 (wd s.a), .int .u64 (wd s.b), .int .u64 (wd s.c), .int .u64 (wd s.d), .int .u64 (wd s.e), .int .u64 (wd s.f), .int .u64 (wd s.g), .int .u64 (wd s.h), rest, .int .u64 (wd tk)]
/-- the block of a state -/
def StB (W : World) (b : Nat) (sz : Int) (s : H8) (rest : Value) (tk : BitVec 64) : Prop := W.heap[b]? = some (.cells (stCells sz s rest tk) 101 (0, 0))
def Cubes (W : World) : Prop := ∀ t, t < 80 → W.cell? ⟨5, t, none⟩ = some (.int .u64 (wd (cube t)))

theorem spread_any (a : Option Addr) (n cap : Nat) (W : World) : Calls Tryd.prog 74 #[.slice a n cap] W fun e W' =>
    e = .returned (.func (.func 81) #[] #[.pointer (some ⟨W.heap.size, 0, none⟩)]) ∧ W.alloc (.cells #[.slice a n cap] 23) = W' := by
  go_enter Tryd.func74, Tryd.ntmps74
  go_wp2
  go_ret
  exact ⟨rfl, rfl⟩

theorem st_cells {W : World} {b : Nat} {sz : Int} {s : H8} {rest : Value} {tk : BitVec 64} (h : StB W b sz s rest tk) :
    W.cell? ⟨b, 0, none⟩ = some (.int .i64 sz) ∧ W.cell? ⟨b, 1, none⟩ = some (.int .u64 (wd s.a)) ∧ W.cell? ⟨b, 2, none⟩ = some (.int .u64 (wd s.b)) ∧ W.cell? ⟨b, 3, none⟩ = some (.int .u64 (wd s.c)) ∧
    W.cell? ⟨b, 4, none⟩ = some (.int .u64 (wd s.d)) ∧ W.cell? ⟨b, 5, none⟩ = some (.int .u64 (wd s.e)) ∧ W.cell? ⟨b, 6, none⟩ = some (.int .u64 (wd s.f)) ∧ W.cell? ⟨b, 7, none⟩ = some (.int .u64 (wd s.g)) ∧
    W.cell? ⟨b, 8, none⟩ = some (.int .u64 (wd s.h)) ∧ W.cell? ⟨b, 9, none⟩ = some rest ∧ W.cell? ⟨b, 10, none⟩ = some (.int .u64 (wd tk)) :=
  ⟨block_cell h 0 rfl, block_cell h 1 rfl, block_cell h 2 rfl, block_cell h 3 rfl, block_cell h 4 rfl, block_cell h 5 rfl, block_cell h 6 rfl, block_cell h 7 rfl, block_cell h 8 rfl, block_cell h 9 rfl, block_cell h 10 rfl⟩
theorem h8_cells {W : World} {b : Nat} {s : H8} (h : W.heap[b]? = some (.cells (h8cells s) 83 (0, 0))) :
    W.cell? ⟨b, 0, none⟩ = some (.int .u64 (wd s.a)) ∧ W.cell? ⟨b, 1, none⟩ = some (.int .u64 (wd s.b)) ∧ W.cell? ⟨b, 2, none⟩ = some (.int .u64 (wd s.c)) ∧
    W.cell? ⟨b, 3, none⟩ = some (.int .u64 (wd s.d)) ∧ W.cell? ⟨b, 4, none⟩ = some (.int .u64 (wd s.e)) ∧ W.cell? ⟨b, 5, none⟩ = some (.int .u64 (wd s.f)) ∧ W.cell? ⟨b, 6, none⟩ = some (.int .u64 (wd s.g)) ∧
    W.cell? ⟨b, 7, none⟩ = some (.int .u64 (wd s.h)) :=
  ⟨block_cell h 0 rfl, block_cell h 1 rfl, block_cell h 2 rfl, block_cell h 3 rfl, block_cell h 4 rfl, block_cell h 5 rfl, block_cell h 6 rfl, block_cell h 7 rfl⟩

theorem addTo_step0 {V : World} {b : Nat} {sz : Int} {s r : H8} {rest : Value} {tk : BitVec 64} (h : StB V b sz (addTo s r 0) rest tk) :
    StB (V.setCell ⟨b, 1, none⟩ (.int .u64 (wd (s.a + r.a)))) b sz (addTo s r 1) rest tk := by
  have := block_set h 1 (.int .u64 (wd (s.a + r.a)))
  unfold StB; rw [this]; simp [stCells, addTo]
theorem addTo_step1 {V : World} {b : Nat} {sz : Int} {s r : H8} {rest : Value} {tk : BitVec 64} (h : StB V b sz (addTo s r 1) rest tk) :
    StB (V.setCell ⟨b, 2, none⟩ (.int .u64 (wd (s.b + r.b)))) b sz (addTo s r 2) rest tk := by
  have := block_set h 2 (.int .u64 (wd (s.b + r.b)))
  unfold StB; rw [this]; simp [stCells, addTo]
theorem addTo_step2 {V : World} {b : Nat} {sz : Int} {s r : H8} {rest : Value} {tk : BitVec 64} (h : StB V b sz (addTo s r 2) rest tk) :
    StB (V.setCell ⟨b, 3, none⟩ (.int .u64 (wd (s.c + r.c)))) b sz (addTo s r 3) rest tk := by
  have := block_set h 3 (.int .u64 (wd (s.c + r.c)))
  unfold StB; rw [this]; simp [stCells, addTo]
theorem addTo_step3 {V : World} {b : Nat} {sz : Int} {s r : H8} {rest : Value} {tk : BitVec 64} (h : StB V b sz (addTo s r 3) rest tk) :
    StB (V.setCell ⟨b, 4, none⟩ (.int .u64 (wd (s.d + r.d)))) b sz (addTo s r 4) rest tk := by
  have := block_set h 4 (.int .u64 (wd (s.d + r.d)))
  unfold StB; rw [this]; simp [stCells, addTo]
theorem addTo_step4 {V : World} {b : Nat} {sz : Int} {s r : H8} {rest : Value} {tk : BitVec 64} (h : StB V b sz (addTo s r 4) rest tk) :
    StB (V.setCell ⟨b, 5, none⟩ (.int .u64 (wd (s.e + r.e)))) b sz (addTo s r 5) rest tk := by
  have := block_set h 5 (.int .u64 (wd (s.e + r.e)))
  unfold StB; rw [this]; simp [stCells, addTo]
theorem addTo_step5 {V : World} {b : Nat} {sz : Int} {s r : H8} {rest : Value} {tk : BitVec 64} (h : StB V b sz (addTo s r 5) rest tk) :
    StB (V.setCell ⟨b, 6, none⟩ (.int .u64 (wd (s.f + r.f)))) b sz (addTo s r 6) rest tk := by
  have := block_set h 6 (.int .u64 (wd (s.f + r.f)))
  unfold StB; rw [this]; simp [stCells, addTo]
theorem addTo_step6 {V : World} {b : Nat} {sz : Int} {s r : H8} {rest : Value} {tk : BitVec 64} (h : StB V b sz (addTo s r 6) rest tk) :
    StB (V.setCell ⟨b, 7, none⟩ (.int .u64 (wd (s.g + r.g)))) b sz (addTo s r 7) rest tk := by
  have := block_set h 7 (.int .u64 (wd (s.g + r.g)))
  unfold StB; rw [this]; simp [stCells, addTo]
theorem addTo_step7 {V : World} {b : Nat} {sz : Int} {s r : H8} {rest : Value} {tk : BitVec 64} (h : StB V b sz (addTo s r 7) rest tk) :
    StB (V.setCell ⟨b, 8, none⟩ (.int .u64 (wd (s.h + r.h)))) b sz (addTo s r 8) rest tk := by
  have := block_set h 8 (.int .u64 (wd (s.h + r.h)))
  unfold StB; rw [this]; simp [stCells, addTo]

def TurnPost (W : World) (b : Nat) (sz : Int) (s : H8) (l : List (BitVec 8)) (rest : Value) (tk : BitVec 64) (e : Ending) (W' : World) : Prop :=
  e = .returned (.tuple #[]) ∧ StB W' b sz (turnS s l) rest tk ∧ Ext (Just b) W W'

set_option maxHeartbeats 1000000 in
theorem turn_any (p : Nat → Prop) (b : Nat) (sz : Int) (s : H8) (rest : Value) (tk : BitVec 64) (a : Option Addr) (n cap : Nat) (l : List (BitVec 8)) (W : World)
    (hst : Hid (StB W b sz s rest tk)) (hh : Hid (Holds p W a cap l)) (hn : Hid (l.length = n)) (h128 : 128 ≤ n) (hcu : Hid (Cubes W)) :
    Calls Tryd.prog 59 #[.pointer (some ⟨b, 0, none⟩), .slice a n cap] W (TurnPost W b sz s l rest tk) := by
  refine (callsIn_wide (n := 9)).1 (callsIn_of_wp_marks Tryd.func59 rfl trivial ?_ rfl)
  simp only [Tryd.ntmps59, List.size_toArray, List.length_cons, List.length_nil, Nat.reduceAdd, Nat.reduceSub, Array.replicate_succ, Array.replicate_zero, List.push_toArray, List.append_toArray, List.nil_append, List.cons_append]
  obtain ⟨c0, c1, c2, c3, c4, c5, c6, c7, c8, c9, c10⟩ := st_cells hst.out
  gi_wp2_with fail
  refine ⟨trivial, calls_fr (r := none) ((spread_any a n cap _).mono ?_)⟩
  rintro e w' ⟨rfl, rfl⟩
  simp only [World.size_alloc]
  obtain ⟨W1, hW1⟩ : ∃ W1, (W.alloc (.cells #[.int .u64 (wd s.a), .int .u64 (wd s.b), .int .u64 (wd s.c), .int .u64 (wd s.d), .int .u64 (wd s.e), .int .u64 (wd s.f), .int .u64 (wd s.g), .int .u64 (wd s.h)] 83)).alloc (.cells #[.slice a n cap] 23) = W1 := ⟨_, rfl⟩
  have hz1 : W1.heap.size = W.heap.size + 2 := by rw [← hW1]; simp
  have hBh : W1.heap[W.heap.size]? = some (.cells (h8cells s) 83 (0, 0)) := by rw [← hW1]; exact (Below.heap_alloc _ _ _ (by simp)).trans (World.alloc_heap_new W _)
  have hBb : W1.cell? ⟨W.heap.size + 1, 0, none⟩ = some (.slice a n cap) := by
    rw [← hW1]; refine block_cell (cs := #[.slice a n cap]) (e := 23) (fz := (0, 0)) ?_ 0 rfl
    have := World.alloc_heap_new (W.alloc (.cells #[.int .u64 (wd s.a), .int .u64 (wd s.b), .int .u64 (wd s.c), .int .u64 (wd s.d), .int .u64 (wd s.e), .int .u64 (wd s.f), .int .u64 (wd s.g), .int .u64 (wd s.h)] 83)) (.cells #[.slice a n cap] 23)
    rwa [World.size_alloc] at this
  have hE1 : Ext Nope W W1 := by rw [← hW1]; exact (Ext.alloc _ W _).trans (Ext.alloc _ _ _) (fun _ _ h => h) (fun _ _ h => h)
  rw [hW1]
  clear hW1 c0 c1 c2 c3 c4 c5 c6 c7 c8 c9 c10
  have HZ := Lib.hid hz1
  clear hz1
  gi_wp2_with fail
  apply rangeFunc_law (gf := 81) (lb := #[.pointer (some ⟨W.heap.size + 1, 0, none⟩)]) rfl (enters_of Tryd.func81 (by kernel_rfl) rfl) (spread1_ok p 8 (W.heap.size + 1) a n cap l) (fun _ => rfl)
    (fun pre V => V.heap[W.heap.size]? = some (.cells (h8cells (rounds5 s pre)) 83 (0, 0)) ∧ V.cell? ⟨W.heap.size + 1, 0, none⟩ = some (.slice a n cap) ∧ Ext Nope W V)
    (fun _ _ _ => False)
    (fun pre A B h he => ⟨he.heap h.1 (by have := HZ.out; omega), he.cell h.2.1 (by have := HZ.out; show ¬ (W1.heap.size ≤ W.heap.size + 1); omega), h.2.2.trans he (fun _ _ h => h) (fun i hi h => by have := HZ.out; omega)⟩)
    (fun _ _ _ _ h _ => h)
    (fun pre V h => ⟨h.2.1, hh.out.ext h.2.2 (fun _ _ h => h), hn.out, h128⟩)
    ⟨hBh, hBb, hE1⟩
  case hassign =>
    intro l x V K hK
    simp only [encW]
    gi_wp2
    exact hK
  case hbody =>
    rintro lp pre x V ⟨hb, hbb, hE⟩ hpre hsz
    have hx := told_lt hpre
    have hcube := hE.cell (hcu.out x.1 hx) (fun h => h)
    obtain ⟨d0, d1, d2, d3, d4, d5, d6, d7⟩ := h8_cells hb
    have HB := Lib.hid hb
    have HBB := Lib.hid hbb
    have HE := Lib.hid hE
    have HC := Lib.hid hcube
    clear hb hbb hE hpre
    have HR : Hid (rounds5 s (pre ++ [x]) = round5 (rounds5 s pre) (cube x.1) x.2) := rounds5_snoc _ _ _
    generalize rounds5 s pre = r at *
    gi_wp2_with fail
    refine wpIn_region_quiet (r := some lp) (by kernel_rfl) (by kernel_rfl) (by kernel_rfl) ?_
    repeat (go_big_quiet_step (fail))
    refine wpQuiet_nil ?_
    rintro _ ⟨nq, rfl⟩
    clear d0 d1 d2 d3 d4 d5 d6 d7 hcube
    obtain ⟨V1, hV1⟩ : ∃ V1, V.drewN nq = V1 := ⟨_, rfl⟩
    have hb1 : V1.heap[W.heap.size]? = some (.cells (h8cells r) 83 (0, 0)) := by rw [← hV1]; exact HB.out
    have hE1 : Ext Nope V V1 := by rw [← hV1]; exact Ext.drewN _ _ _
    rw [hV1]
    clear hV1
    have hcube := hE1.cell HC.out (fun h => h)
    obtain ⟨d0, d1, d2, d3, d4, d5, d6, d7⟩ := h8_cells hb1
    have HB1 := Lib.hid hb1
    have HE1 := Lib.hid hE1
    clear hb1 hE1
    have ua := u64_add
    have uo := u64_or
    have un := u64_and
    have ut := u64_andNot
    gi_wp2_with fail
    refine wpIn_region_quiet (r := some lp) (by kernel_rfl) (by kernel_rfl) (by kernel_rfl) ?_
    iterate 10 (go_big_quiet_step (fail))
    go_big_quiet_step (exact Calls.quiet_of_same (flip_w (rot_any r.e (-41) 41 rfl (by omega) (by omega) _)))
    go_big_quiet_step (exact Calls.quiet_of_same (flip_w (over_any r.e (r.e.rotateRight 41) 14 18 14 18 rfl rfl (by omega) (by omega) (by omega) (by omega) _)))
    repeat (go_big_quiet_step (fail))
    refine wpQuiet_nil ?_
    rintro _ ⟨nq2, rfl⟩
    clear d0 d1 d2 d3 d4 d5 d6 d7 hcube
    obtain ⟨V2, hV2⟩ : ∃ V2, V1.drewN nq2 = V2 := ⟨_, rfl⟩
    have hb2 : V2.heap[W.heap.size]? = some (.cells (h8cells r) 83 (0, 0)) := by rw [← hV2]; exact HB1.out
    have hE2 : Ext Nope V1 V2 := by rw [← hV2]; exact Ext.drewN _ _ _
    rw [hV2]
    clear hV2
    obtain ⟨d0, d1, d2, d3, d4, d5, d6, d7⟩ := h8_cells hb2
    have HB2 := Lib.hid hb2
    have HE2 := Lib.hid hE2
    clear hb2 hE2
    gi_wp2_with fail
    refine wpIn_region_quiet (r := some lp) (by kernel_rfl) (by kernel_rfl) (by kernel_rfl) ?_
    iterate 2 (go_big_quiet_step (fail))
    go_big_quiet_step (exact Calls.quiet_of_same (flip_w (rot_any r.a (-39) 39 rfl (by omega) (by omega) _)))
    go_big_quiet_step (exact Calls.quiet_of_same (flip_w (over_any r.a (r.a.rotateRight 39) 28 34 28 34 rfl rfl (by omega) (by omega) (by omega) (by omega) _)))
    repeat (go_big_quiet_step (fail))
    refine wpQuiet_nil ?_
    rintro _ ⟨nq3, rfl⟩
    clear d0 d1 d2 d3 d4 d5 d6 d7
    obtain ⟨V3, hV3⟩ : ∃ V3, V2.drewN nq3 = V3 := ⟨_, rfl⟩
    have hb3 : V3.heap[W.heap.size]? = some (.cells (h8cells r) 83 (0, 0)) := by rw [← hV3]; exact HB2.out
    have hE3 : Ext Nope V2 V3 := by rw [← hV3]; exact Ext.drewN _ _ _
    rw [hV3]
    clear hV3
    have hfz := block_free hb3
    obtain ⟨d0, d1, d2, d3, d4, d5, d6, d7⟩ := h8_cells hb3
    have HB3 := Lib.hid hb3
    have HE3 := Lib.hid hE3
    clear hb3 hE3
    gi_wp2_with fail
    obtain ⟨hset, hx3⟩ := set8 HB3.out (.int .u64 (wd (r.h + cube x.fst + x.snd + (r.e.rotateRight 41 ^^^ r.e.rotateRight 14 ^^^ r.e.rotateRight 18) + (r.e &&& r.f ||| r.g &&& ~~~r.e) +
      ((r.a.rotateRight 39 ^^^ r.a.rotateRight 28 ^^^ r.a.rotateRight 34) + (r.a &&& (r.b ||| r.c) ||| r.b &&& r.c))))) (.int .u64 (wd r.a)) (.int .u64 (wd r.b)) (.int .u64 (wd r.c))
      (.int .u64 (wd (r.d + (r.h + cube x.fst + x.snd + (r.e.rotateRight 41 ^^^ r.e.rotateRight 14 ^^^ r.e.rotateRight 18) + (r.e &&& r.f ||| r.g &&& ~~~r.e))))) (.int .u64 (wd r.e)) (.int .u64 (wd r.f)) (.int .u64 (wd r.g))
    have h3 : Ext (Just W.heap.size) V V3 := ((HE1.out.trans HE2.out (fun _ _ h => h) (fun _ _ h => h)).trans HE3.out (fun _ _ h => h) (fun _ _ h => h)).mono (fun _ _ h => h.elim)
    have hx4 := h3.trans hx3 (fun _ _ h => h) (fun _ _ h => h)
    refine ⟨hx4.mono (fun i _ h => by have := HZ.out; simp [Just] at h; omega), ?_, hx4.cell HBB.out (by simp [Just]), HE.out.trans hx4 (fun _ _ h => h) (fun i hi h => by simp [Just] at h; omega)⟩
    rw [HR.out]; exact hset
  case hstop =>
    intro D c pre V _ _ h
    exact h.elim
  case hdone =>
    rintro D V hD ⟨hb, _, hE⟩ hK
    obtain ⟨d0, d1, d2, d3, d4, d5, d6, d7⟩ := h8_cells hb
    have hst1 : StB V b sz s rest tk := hE.heap hst.out (fun h => h)
    have HST := Lib.hid hst1
    have HE := Lib.hid hE
    have HK := Lib.hid hK
    clear hb hE hK hst1
    have HT : Hid (turnS s l = addS s (rounds5 s (told (blk64 l) 80))) := rfl
    have HB1 : Hid (b < W.heap.size) := (Array.getElem?_eq_some_iff.1 hst.out).1
    generalize rounds5 s (told (blk64 l) 80) = r at *
    gi_wp2_with fail
    gi_loopw [85] (fun i wr => ∃ k : Nat, k ≤ 8 ∧ i = .int .i64 k ∧ StB wr b sz (addTo s r k) rest tk ∧ Ext (Just b) V wr) (fun i _ => 8 - (intOf i).toNat)
    case atStart => exact ⟨0, by omega, rfl, by rw [addTo_zero]; exact HST.out, Ext.refl _ _⟩
    case round =>
      obtain ⟨k, hk, rfl, hS, hX⟩ := hrel
      obtain ⟨e0, e1, e2, e3, e4, e5, e6, e7, e8, e9, e10⟩ := st_cells hS
      have hfr := block_free hS
      have HS := Lib.hid hS
      have HX := Lib.hid hX
      have ua := u64_add
      clear hS hX d0 d1 d2 d3 d4 d5 d6 d7
      obtain rfl | rfl | rfl | rfl | rfl | rfl | rfl | rfl | rfl : k = 0 ∨ k = 1 ∨ k = 2 ∨ k = 3 ∨ k = 4 ∨ k = 5 ∨ k = 6 ∨ k = 7 ∨ k = 8 := by omega
      all_goals simp [addTo] at e1 e2 e3 e4 e5 e6 e7 e8
      · have hi : ∀ w, (Instr.index 83 (.agg #[.int .u64 (wd r.a), .int .u64 (wd r.b), .int .u64 (wd r.c), .int .u64 (wd r.d), .int .u64 (wd r.e), .int .u64 (wd r.f), .int .u64 (wd r.g), .int .u64 (wd r.h)]) (.int .i64 0)).run Tryd.prog w = .ok (.int .u64 (wd r.a)) w := fun _ => by kernel_rfl
        gi_wp2_with fail
        refine wpIn_region_quiet_tail (r := none) 11 (by kernel_rfl) (by kernel_rfl) (by kernel_rfl) ?_
        simp only [List.take_succ_cons, List.take_zero, List.drop_succ_cons, List.drop_zero]
        repeat (go_big_quiet_step (fail))
        refine wpQuiet_nil ?_
        rintro _ ⟨nq, rfl⟩
        rw [fr_none]
        gi_wp2_with fail
        exact ⟨⟨1, by omega, by go_num, addTo_step0 (V := wr.drewN nq) HS.out, (HX.out.trans (Ext.drewN (Just b) _ nq) (fun _ _ h => h) (fun _ _ h => h)).setCells _ _⟩, by simp [intOf]⟩
      · have hi : ∀ w, (Instr.index 83 (.agg #[.int .u64 (wd r.a), .int .u64 (wd r.b), .int .u64 (wd r.c), .int .u64 (wd r.d), .int .u64 (wd r.e), .int .u64 (wd r.f), .int .u64 (wd r.g), .int .u64 (wd r.h)]) (.int .i64 1)).run Tryd.prog w = .ok (.int .u64 (wd r.b)) w := fun _ => by kernel_rfl
        gi_wp2_with fail
        refine wpIn_region_quiet_tail (r := none) 11 (by kernel_rfl) (by kernel_rfl) (by kernel_rfl) ?_
        simp only [List.take_succ_cons, List.take_zero, List.drop_succ_cons, List.drop_zero]
        repeat (go_big_quiet_step (fail))
        refine wpQuiet_nil ?_
        rintro _ ⟨nq, rfl⟩
        rw [fr_none]
        gi_wp2_with fail
        exact ⟨⟨2, by omega, by go_num, addTo_step1 (V := wr.drewN nq) HS.out, (HX.out.trans (Ext.drewN (Just b) _ nq) (fun _ _ h => h) (fun _ _ h => h)).setCells _ _⟩, by simp [intOf]⟩
      · have hi : ∀ w, (Instr.index 83 (.agg #[.int .u64 (wd r.a), .int .u64 (wd r.b), .int .u64 (wd r.c), .int .u64 (wd r.d), .int .u64 (wd r.e), .int .u64 (wd r.f), .int .u64 (wd r.g), .int .u64 (wd r.h)]) (.int .i64 2)).run Tryd.prog w = .ok (.int .u64 (wd r.c)) w := fun _ => by kernel_rfl
        gi_wp2_with fail
        refine wpIn_region_quiet_tail (r := none) 11 (by kernel_rfl) (by kernel_rfl) (by kernel_rfl) ?_
        simp only [List.take_succ_cons, List.take_zero, List.drop_succ_cons, List.drop_zero]
        repeat (go_big_quiet_step (fail))
        refine wpQuiet_nil ?_
        rintro _ ⟨nq, rfl⟩
        rw [fr_none]
        gi_wp2_with fail
        exact ⟨⟨3, by omega, by go_num, addTo_step2 (V := wr.drewN nq) HS.out, (HX.out.trans (Ext.drewN (Just b) _ nq) (fun _ _ h => h) (fun _ _ h => h)).setCells _ _⟩, by simp [intOf]⟩
      · have hi : ∀ w, (Instr.index 83 (.agg #[.int .u64 (wd r.a), .int .u64 (wd r.b), .int .u64 (wd r.c), .int .u64 (wd r.d), .int .u64 (wd r.e), .int .u64 (wd r.f), .int .u64 (wd r.g), .int .u64 (wd r.h)]) (.int .i64 3)).run Tryd.prog w = .ok (.int .u64 (wd r.d)) w := fun _ => by kernel_rfl
        gi_wp2_with fail
        refine wpIn_region_quiet_tail (r := none) 11 (by kernel_rfl) (by kernel_rfl) (by kernel_rfl) ?_
        simp only [List.take_succ_cons, List.take_zero, List.drop_succ_cons, List.drop_zero]
        repeat (go_big_quiet_step (fail))
        refine wpQuiet_nil ?_
        rintro _ ⟨nq, rfl⟩
        rw [fr_none]
        gi_wp2_with fail
        exact ⟨⟨4, by omega, by go_num, addTo_step3 (V := wr.drewN nq) HS.out, (HX.out.trans (Ext.drewN (Just b) _ nq) (fun _ _ h => h) (fun _ _ h => h)).setCells _ _⟩, by simp [intOf]⟩
      · have hi : ∀ w, (Instr.index 83 (.agg #[.int .u64 (wd r.a), .int .u64 (wd r.b), .int .u64 (wd r.c), .int .u64 (wd r.d), .int .u64 (wd r.e), .int .u64 (wd r.f), .int .u64 (wd r.g), .int .u64 (wd r.h)]) (.int .i64 4)).run Tryd.prog w = .ok (.int .u64 (wd r.e)) w := fun _ => by kernel_rfl
        gi_wp2_with fail
        refine wpIn_region_quiet_tail (r := none) 11 (by kernel_rfl) (by kernel_rfl) (by kernel_rfl) ?_
        simp only [List.take_succ_cons, List.take_zero, List.drop_succ_cons, List.drop_zero]
        repeat (go_big_quiet_step (fail))
        refine wpQuiet_nil ?_
        rintro _ ⟨nq, rfl⟩
        rw [fr_none]
        gi_wp2_with fail
        exact ⟨⟨5, by omega, by go_num, addTo_step4 (V := wr.drewN nq) HS.out, (HX.out.trans (Ext.drewN (Just b) _ nq) (fun _ _ h => h) (fun _ _ h => h)).setCells _ _⟩, by simp [intOf]⟩
      · have hi : ∀ w, (Instr.index 83 (.agg #[.int .u64 (wd r.a), .int .u64 (wd r.b), .int .u64 (wd r.c), .int .u64 (wd r.d), .int .u64 (wd r.e), .int .u64 (wd r.f), .int .u64 (wd r.g), .int .u64 (wd r.h)]) (.int .i64 5)).run Tryd.prog w = .ok (.int .u64 (wd r.f)) w := fun _ => by kernel_rfl
        gi_wp2_with fail
        refine wpIn_region_quiet_tail (r := none) 11 (by kernel_rfl) (by kernel_rfl) (by kernel_rfl) ?_
        simp only [List.take_succ_cons, List.take_zero, List.drop_succ_cons, List.drop_zero]
        repeat (go_big_quiet_step (fail))
        refine wpQuiet_nil ?_
        rintro _ ⟨nq, rfl⟩
        rw [fr_none]
        gi_wp2_with fail
        exact ⟨⟨6, by omega, by go_num, addTo_step5 (V := wr.drewN nq) HS.out, (HX.out.trans (Ext.drewN (Just b) _ nq) (fun _ _ h => h) (fun _ _ h => h)).setCells _ _⟩, by simp [intOf]⟩
      · have hi : ∀ w, (Instr.index 83 (.agg #[.int .u64 (wd r.a), .int .u64 (wd r.b), .int .u64 (wd r.c), .int .u64 (wd r.d), .int .u64 (wd r.e), .int .u64 (wd r.f), .int .u64 (wd r.g), .int .u64 (wd r.h)]) (.int .i64 6)).run Tryd.prog w = .ok (.int .u64 (wd r.g)) w := fun _ => by kernel_rfl
        gi_wp2_with fail
        refine wpIn_region_quiet_tail (r := none) 11 (by kernel_rfl) (by kernel_rfl) (by kernel_rfl) ?_
        simp only [List.take_succ_cons, List.take_zero, List.drop_succ_cons, List.drop_zero]
        repeat (go_big_quiet_step (fail))
        refine wpQuiet_nil ?_
        rintro _ ⟨nq, rfl⟩
        rw [fr_none]
        gi_wp2_with fail
        exact ⟨⟨7, by omega, by go_num, addTo_step6 (V := wr.drewN nq) HS.out, (HX.out.trans (Ext.drewN (Just b) _ nq) (fun _ _ h => h) (fun _ _ h => h)).setCells _ _⟩, by simp [intOf]⟩
      · have hi : ∀ w, (Instr.index 83 (.agg #[.int .u64 (wd r.a), .int .u64 (wd r.b), .int .u64 (wd r.c), .int .u64 (wd r.d), .int .u64 (wd r.e), .int .u64 (wd r.f), .int .u64 (wd r.g), .int .u64 (wd r.h)]) (.int .i64 7)).run Tryd.prog w = .ok (.int .u64 (wd r.h)) w := fun _ => by kernel_rfl
        gi_wp2_with fail
        refine wpIn_region_quiet_tail (r := none) 11 (by kernel_rfl) (by kernel_rfl) (by kernel_rfl) ?_
        simp only [List.take_succ_cons, List.take_zero, List.drop_succ_cons, List.drop_zero]
        repeat (go_big_quiet_step (fail))
        refine wpQuiet_nil ?_
        rintro _ ⟨nq, rfl⟩
        rw [fr_none]
        gi_wp2_with fail
        exact ⟨⟨8, by omega, by go_num, addTo_step7 (V := wr.drewN nq) HS.out, (HX.out.trans (Ext.drewN (Just b) _ nq) (fun _ _ h => h) (fun _ _ h => h)).setCells _ _⟩, by simp [intOf]⟩
      · gi_wp2_with fail
        refine leave_one (HX.out.heap HK.out (fun h => ?_)) (fun w' => results_none rfl _ _ w') ⟨rfl, ?_, ?_⟩
        · simp only [Just] at h; have := HB1.out; have := HZ.out; omega
        · rw [HT.out, ← addTo_all]; exact (Ext.putObj (D := Just D) _ D _ rfl).heap HS.out (fun h => by simp only [Just] at h; have := HB1.out; have := HZ.out; omega)
        · exact (HE.out.trans HX.out (E := Just b) (fun _ _ h => h.elim) (fun _ _ h => h)).trans (Ext.putObj (D := Just D) _ D _ rfl) (fun _ _ h => h) (fun i hi h => by simp only [Just] at h; have := HZ.out; omega)
end Go.Proofs.YtjfcldjepgijeaaDoor
