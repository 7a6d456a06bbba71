/- The words of a block, told one by one. -/
import Derived.Test.YtjfcldjepgijeaaDoorSc
import Derived.Test.YtjfcldjepgijeaaDoorRf
import Derived.StillTailTactics
import Derived.WalkMore
namespace Go.Proofs.YtjfcldjepgijeaaDoor
open Go.RowKit
attribute [local go_sem] Oper.semAt_some

def encW (x : Nat × BitVec 64) : Array Value := #[.int .i64 x.1, .int .u64 (wd x.2)]
/-- the sixteen words that are kept, behind t rounds -/
def Kept (W : World) (B : Nat) (m : Nat → BitVec 64) (t : Nat) : Prop :=
  ∃ cs : Array Value, W.heap[B]? = some (.cells cs 130 (0, 0)) ∧ cs.size = 16 ∧ ∀ i, i < t → t ≤ i + 16 → cs[i % 16]? = some (.int .u64 (wd (wordAt m i)))

theorem kept_step {W : World} {B t : Nat} {m : Nat → BitVec 64} {cs : Array Value} (hsz : cs.size = 16) (hw : ∀ i, i < t → t ≤ i + 16 → cs[i % 16]? = some (.int .u64 (wd (wordAt m i))))
    (h : W.heap[B]? = some (.cells (cs.setIfInBounds (t % 16) (.int .u64 (wd (wordAt m t)))) 130 (0, 0))) : Kept W B m (t + 1) := by
  refine ⟨_, h, by simpa using hsz, fun i h1 h2 => ?_⟩
  by_cases e : i = t
  · subst e; rw [Array.getElem?_setIfInBounds_self_of_lt (by omega)]
  · rw [Array.getElem?_setIfInBounds_ne (by omega)]; exact hw i (by omega) (by omega)

def SpreadRd (p : Nat → Prop) (Bb : Nat) (a : Option Addr) (n cap : Nat) (l : List (BitVec 8)) (W : World) : Prop :=
  W.cell? ⟨Bb, 0, none⟩ = some (.slice a n cap) ∧ Holds p W a cap l ∧ l.length = n ∧ 128 ≤ n

set_option maxHeartbeats 1000000 in
theorem spread1_ok (p : Nat → Prop) (k Bb : Nat) (a : Option Addr) (n cap : Nat) (l : List (BitVec 8)) :
    IterOK Tryd.prog k 81 #[.pointer (some ⟨Bb, 0, none⟩)] encW (told (blk64 l) 80) (SpreadRd p Bb a n cap l) := by
  intro lp J Jx W hJ hJx hRd hY h0
  have HJ := Lib.hid hJ
  have HR := Lib.hid hRd
  have HY := Lib.hid hY
  clear hJ hJx hRd hY
  refine callsIn_of_wp Tryd.func81 rfl trivial ?_ rfl
  simp only [Tryd.ntmps81, List.size_toArray, List.length_cons, List.length_nil, Nat.reduceAdd, Nat.reduceSub, Array.replicate_succ, Array.replicate_zero, List.push_toArray, List.append_toArray, List.nil_append, List.cons_append]
  refine wpIn_wide.2 ?_
  go_step3
  go_wp2_with fail
  go_step3
  go_wp2_with fail
  refine (wpIn_wide (n := k)).1 ?_
  gi_loopw [8] (fun i wr => ∃ t : Nat, t ≤ 80 ∧ i = .int .i64 t ∧ J (told (blk64 l) t) wr ∧ Kept wr W.heap.size (blk64 l) t) (fun i _ => 80 - (intOf i).toNat)
  case atStart => exact ⟨0, by omega, rfl, HJ.out _ _ _ h0 (Ext.alloc _ _ _), _, World.alloc_heap_new W _, rfl, fun i h => by omega⟩
  case round =>
    obtain ⟨t, ht, rfl, hJt, hK⟩ := hrel
    by_cases hlt : t < 80
    · obtain ⟨cs, hcs, hsz, hw⟩ := hK
      obtain ⟨hb, hh, hn, h128⟩ := HR.out _ _ hJt
      have HH := Lib.hid hh
      have HN := Lib.hid hn
      have HW := Lib.hid hw
      have HT := Lib.hid hJt
      have hcap : 8 * 16 ≤ cap := by have := hh.len; omega
      have hfr := block_free hcs
      have hsz' : W.heap.size < wr.heap.size := (Array.getElem?_eq_some_iff.1 hcs).1
      obtain ⟨u, hu⟩ : ∃ u, cs[t % 16]? = some u := ⟨_, Array.getElem?_eq_getElem (by omega)⟩
      have hcu := block_cell hcs (t % 16) hu
      have HCS := Lib.hid hcs
      have HSZ := Lib.hid hsz
      have HP : told (blk64 l) t ++ [(t, wordAt (blk64 l) t)] <+: told (blk64 l) 80 := told_prefix _ hlt
      have HP' := Lib.hid HP
      clear hh hn hw hJt hcs hsz hu HP
      by_cases h16 : t < 16
      · gi_wp2_with fail
        have HX : Hid (Holds p wr (Option.map (fun x => x.add (8 * t)) a) (cap - 8 * t) (l.drop (8 * t))) := HH.out.from (by have := HN.out; omega) (by omega)
        have HX2 : Hid ((l.drop (8 * t)).length = n - 8 * t) := by have := HN.out; simp [Hid]; omega
        refine ⟨trivial, fun h => (by cases h), callsIn_wide.2 ((word_any (p := p) _ _ _ (l.drop (8 * t)) _ HX HX2 (by omega)).mono ?_)⟩
        rintro e w' ⟨rfl, rfl⟩
        gi_wp2_with fail
        have HV : Hid (be64 (List.take 8 (List.drop (8 * t) l)) = wordAt (blk64 l) t) := (wordAt_lo (blk64 l) h16).symm
        rw [HV.out]
        obtain ⟨W1, hW1⟩ : ∃ W1, wr.setCell ⟨W.heap.size, t % 16, none⟩ (.int .u64 (wd (wordAt (blk64 l) t))) = W1 := ⟨_, rfl⟩
        have hS : Ext (fun k => W.heap.size ≤ k) wr W1 := by rw [← hW1]; exact Ext.setCell _ _ _ (Nat.le_refl _)
        have hB1 : W1.heap[W.heap.size]? = some (.cells (cs.setIfInBounds (t % 16) (.int .u64 (wd (wordAt (blk64 l) t)))) 130 (0, 0)) := by rw [← hW1]; exact block_set HCS.out _ _
        rw [hW1]
        clear hW1
        have hJ1 := HJ.out _ _ _ HT.out hS
        obtain ⟨fn, tmps, assign, body, hy, hR⟩ := HY.out (told (blk64 l) t) (t, wordAt (blk64 l) t) W1 hJ1 HP'.out (by have := hS.size; omega)
        have HB1 := Lib.hid hB1
        have HS := Lib.hid hS
        have HRR := Lib.hid hR
        clear hJ1 hS hB1 hR
        simp only [encW] at hy
        rw [hy]
        gi_wp2_with fail
        refine ⟨fun h => (by cases h), ?_⟩
        refine HRR.out.mono ?_
        rintro e W' (⟨rfl, hJ', hk⟩ | ⟨rfl, hJx'⟩)
        · have HJ' := Lib.hid hJ'
          have HK := Lib.hid hk
          clear hJ' hk
          gi_wp2_with fail
          exact ⟨⟨t + 1, by omega, by go_num, by rw [told_succ]; exact HJ'.out, kept_step HSZ.out HW.out (HK.out.heap HB1.out (by omega))⟩, by simp [intOf]; omega⟩
        · gi_wp2_with fail
          rw [Exit.noGoto_ret]
          refine bodyPost_ret (results_none rfl _ _ _) rfl ?_
          exact ⟨⟨_, rfl⟩, .inr ⟨_, HP'.out, hJx'⟩⟩
      · have h16' : 16 ≤ t := by omega
        have c15 := block_cell HCS.out ((t + 1) % 16) (by have := HW.out (t - 15) (by omega) (by omega); rwa [show (t - 15) % 16 = (t + 1) % 16 by omega] at this)
        have c2 := block_cell HCS.out ((t + 14) % 16) (by have := HW.out (t - 2) (by omega) (by omega); rwa [show (t - 2) % 16 = (t + 14) % 16 by omega] at this)
        have c7 := block_cell HCS.out ((t + 9) % 16) (by have := HW.out (t - 7) (by omega) (by omega); rwa [show (t - 7) % 16 = (t + 9) % 16 by omega] at this)
        have c16 := block_cell HCS.out (t % 16) (by have := HW.out (t - 16) (by omega) (by omega); rwa [show (t - 16) % 16 = t % 16 by omega] at this)
        have HA := Lib.hid (wordAt_hi (blk64 l) h16')
        clear hcu h16
        generalize wordAt (blk64 l) (t - 15) = x15 at c15 HA
        generalize wordAt (blk64 l) (t - 2) = x2 at c2 HA
        generalize wordAt (blk64 l) (t - 7) = x7 at c7 HA
        generalize wordAt (blk64 l) (t - 16) = x16 at c16 HA
        gi_wp2_with fail
        refine (wpIn_wide (n := k)).2 ?_
        go_quiet (fail)
        have EQ := Ext.drewN Nope wr nq
        obtain ⟨wq, hwq⟩ : ∃ wq, wr.drewN nq = wq := ⟨_, rfl⟩
        rw [hwq] at EQ ⊢
        have d7 := EQ.cell c7 (fun h => h)
        have d16 := EQ.cell c16 (fun h => h)
        have dfr : ∀ j, wq.frozen? ⟨W.heap.size, j, none⟩ = false := by rw [← hwq]; exact hfr
        have hcsq : wq.heap[W.heap.size]? = some (.cells cs 130 (0, 0)) := by rw [← hwq]; exact HCS.out
        have HCQ := Lib.hid hcsq
        have HEQ := Lib.hid EQ
        clear hwq c7 c16 c15 c2 hfr EQ hcsq hb
        gi_wp2_with fail
        have e7 : wd x15 / (128 : Int) = wd (x15 >>> 7) := wd_shr' x15 7
        have e6 : wd x2 / (64 : Int) = wd (x2 >>> 6) := wd_shr' x2 6
        have ha := u64_add
        refine wpIn_region_quiet_tail (r := none) 20 (by kernel_rfl) (by kernel_rfl) (by kernel_rfl) ?_
        simp only [List.take_succ_cons, List.take_zero, List.drop_succ_cons, List.drop_zero]
        iterate 11 (go_big_quiet_step (fail))
        go_big_quiet_step (exact Calls.quiet_of_same (flip_w (over_any x15 (x15 >>> 7) 1 8 1 8 rfl rfl (by omega) (by omega) (by omega) (by omega) _)))
        iterate 4 (go_big_quiet_step (fail))
        go_big_quiet_step (exact Calls.quiet_of_same (flip_w (over_any x2 (x2 >>> 6) 19 61 19 61 rfl rfl (by omega) (by omega) (by omega) (by omega) _)))
        repeat (go_big_quiet_step (fail))
        refine wpQuiet_nil ?_
        rintro _ ⟨nq2, rfl⟩
        rw [fr_none]
        clear ha
        gi_wp2_with fail
        have HV : Hid (x16 + (x7 + (x15 >>> 7 ^^^ x15.rotateRight 1 ^^^ x15.rotateRight 8) + (x2 >>> 6 ^^^ x2.rotateRight 19 ^^^ x2.rotateRight 61)) = wordAt (blk64 l) t) := HA.out.symm
        rw [HV.out]
        obtain ⟨W1, hW1⟩ : ∃ W1, (wq.drewN nq2).setCell ⟨W.heap.size, t % 16, none⟩ (.int .u64 (wd (wordAt (blk64 l) t))) = W1 := ⟨_, rfl⟩
        have hS : Ext (fun k => W.heap.size ≤ k) wr W1 := by rw [← hW1]; exact (HEQ.out.trans (Ext.drewN Nope _ nq2) (E := fun k => W.heap.size ≤ k) (fun _ _ h => h.elim) (fun _ _ h => h.elim)).trans (Ext.setCell _ _ _ (Nat.le_refl _)) (fun _ _ h => h) (fun _ _ h => h)
        have hB1 : W1.heap[W.heap.size]? = some (.cells (cs.setIfInBounds (t % 16) (.int .u64 (wd (wordAt (blk64 l) t)))) 130 (0, 0)) := by rw [← hW1]; exact block_set (w := wq.drewN nq2) HCQ.out _ _
        rw [hW1]
        clear hW1
        have hJ1 := HJ.out _ _ _ HT.out hS
        obtain ⟨fn, tmps, assign, body, hy, hR⟩ := HY.out (told (blk64 l) t) (t, wordAt (blk64 l) t) W1 hJ1 HP'.out (by have := hS.size; omega)
        have HB1 := Lib.hid hB1
        have HS := Lib.hid hS
        have HRR := Lib.hid hR
        clear hJ1 hS hB1 hR
        simp only [encW] at hy
        rw [hy]
        gi_wp2_with fail
        refine ⟨fun h => (by cases h), ?_⟩
        refine HRR.out.mono ?_
        rintro e W' (⟨rfl, hJ', hk⟩ | ⟨rfl, hJx'⟩)
        · have HJ' := Lib.hid hJ'
          have HK := Lib.hid hk
          clear hJ' hk
          gi_wp2_with fail
          exact ⟨⟨t + 1, by omega, by go_num, by rw [told_succ]; exact HJ'.out, kept_step HSZ.out HW.out (HK.out.heap HB1.out (by omega))⟩, by simp [intOf]; omega⟩
        · gi_wp2_with fail
          rw [Exit.noGoto_ret]
          refine bodyPost_ret (results_none rfl _ _ _) rfl ?_
          exact ⟨⟨_, rfl⟩, .inr ⟨_, HP'.out, hJx'⟩⟩
    · obtain rfl : t = 80 := by omega
      gi_wp2_with fail
      rw [Exit.noGoto_normal]
      go_end0
      exact ⟨⟨_, rfl⟩, .inl hJt⟩
end Go.Proofs.YtjfcldjepgijeaaDoor
