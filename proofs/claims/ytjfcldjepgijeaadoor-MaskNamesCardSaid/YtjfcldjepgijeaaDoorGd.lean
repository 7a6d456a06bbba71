/- The blocks of bytes, and what is left behind each (sha256). -/
import Derived.Test.YtjfcldjepgijeaaDoorRg
import Derived.Test.YtjfcldjepgijeaaDoorSlb
import Derived.WalkMore
namespace Go.Proofs.YtjfcldjepgijeaaDoor
open Go.RowKit Go.Shelf
attribute [local go_sem] Oper.semAt_some

theorem blocks_any (a : Option Addr) (n cap : Nat) (W : World) : Calls Tryd.prog 53 #[.slice a n cap] W fun e W' =>
    e = .returned (.func (.func 69) #[] #[.pointer (some ⟨W.heap.size, 0, none⟩)]) ∧ W.alloc (.cells #[.slice a n cap] 23) = W' := by
  go_enter Tryd.func53, Tryd.ntmps53
  go_wp2
  go_ret
  exact ⟨by simp, rfl⟩

theorem range_prefix6 {k m : Nat} (h : k < m) : List.range k ++ [k] <+: List.range m := by
  rw [← List.range_succ]
  have : List.range (k + 1) = (List.range m).take (k + 1) := by rw [List.take_range, show min (k + 1) m = k + 1 by omega]
  rw [this]; exact List.take_prefix _ _
theorem add_add (x : Addr) (m n : Nat) : (x.add m).add n = x.add (m + n) := by
  obtain ⟨b, o, sp⟩ := x
  unfold Addr.add
  by_cases hm : m = 0
  · subst hm; simp
  · by_cases hn : n = 0
    · subst hn; simp [hm]
    · simp [hm, hn, Nat.add_assoc]
/-- where the bytes behind t blocks begin -/
def curA (a : Option Addr) (cap t : Nat) : Option Addr := if cap = 64 * t ∧ t ≠ 0 then a.map (·.add (64 * (t - 1))) else a.map (·.add (64 * t))
def curS (a : Option Addr) (n cap t : Nat) : Value := .slice (curA a cap t) (n - 64 * t) (cap - 64 * t)
theorem curA_lt {a : Option Addr} {cap t : Nat} (h : 64 * t < cap) : curA a cap t = a.map (·.add (64 * t)) := by unfold curA; rw [if_neg (by omega)]
theorem curA_zero (a : Option Addr) (cap : Nat) : curA a cap 0 = a := by
  unfold curA; rw [if_neg (by simp)]; cases a <;> simp [Addr.add]
theorem curA_last {a : Option Addr} {cap t : Nat} (h : 64 * t < cap) (he : cap - 64 * t = 64) : curA a cap t = curA a cap (t + 1) := by
  rw [curA_lt h]; unfold curA; rw [if_pos ⟨by omega, by omega⟩]; rfl
theorem curA_next {a : Option Addr} {cap t : Nat} (h : 64 * t < cap) (he : ¬ cap - 64 * t = 64) : Option.map (fun x => x.add 64) (curA a cap t) = curA a cap (t + 1) := by
  rw [curA_lt h]; unfold curA; rw [if_neg (by omega), Option.map_map]
  congr 1; funext x; show (x.add (64 * t)).add 64 = _; rw [add_add]; rfl
theorem add64 : (fun x : Addr => x.add 64) = fun x => ({ block := x.block, off := x.off + 64 } : Addr) := by
  funext x; rfl
def blockV (a : Option Addr) (n cap : Nat) (t : Nat) : Array Value := #[.slice (curA a cap t) 64 (cap - 64 * t), curS a n cap (t + 1)]
def lenAt (B : Nat) (w : World) : Nat := match w.cell? ⟨B, 0, none⟩ with
  | some (.slice _ n _) => n
  | _ => 0

set_option maxHeartbeats 2000000 in
theorem blocks1_ok (k B : Nat) (a : Option Addr) (n cap q : Nat) (hn : n ≤ cap) (hq : q = n / 64) (hb : n ≤ 140737488355328) (hc : cap ≤ maxLen) :
    IterOKS Tryd.prog k 69 #[.pointer (some ⟨B, 0, none⟩)] (blockV a n cap) (List.range q) (fun c => c = B) (fun W => W.heap[B]? = some (.cells #[.slice a n cap] 23 (0, 0))) (fun _ => True) := by
  intro lp J Jx W hJ hJx _ hY hSt h0
  have HJ := Lib.hid hJ
  have HY := Lib.hid hY
  have HSt := Lib.hid hSt
  have hBW := (Array.getElem?_eq_some_iff.1 hSt).1
  clear hJ hJx hY hSt
  unfold maxLen at hc
  refine callsIn_of_wp Tryd.func69 rfl trivial ?_ rfl
  simp only [Tryd.ntmps69, List.size_toArray, List.length_cons, List.length_nil, Nat.reduceAdd, Nat.reduceSub, Array.replicate_succ, Array.replicate_zero, List.push_toArray, List.append_toArray, List.nil_append, List.cons_append]
  refine wpIn_wide.2 ?_
  go_step3
  go_wp2_with fail
  go_step3
  go_wp2_with fail
  refine (wpIn_wide (n := k)).1 ?_
  gi_loopw [3] (fun _ V => ∃ t : Nat, t ≤ q ∧ J (List.range t) V ∧ V.heap[B]? = some (.cells #[curS a n cap t] 23 (0, 0)) ∧ W.heap.size ≤ V.heap.size) (fun _ V => lenAt B V)
  case atStart => exact ⟨0, by omega, h0, by unfold curS; rw [curA_zero]; exact HSt.out, Nat.le_refl _⟩
  case round =>
    obtain ⟨t, ht, hJt, hBt, hz⟩ := hrel
    have HT := Lib.hid hJt
    have HB := Lib.hid hBt
    have hcb := block_cell hBt 0 rfl
    have hfr := block_free hBt
    have HL : Hid (lenAt B wr = n - 64 * t) := by unfold Hid lenAt; rw [hcb]; rfl
    clear hJt hBt
    unfold curS at hcb
    obtain ⟨m, hm⟩ : ∃ m, n - 64 * t = m := ⟨_, rfl⟩
    obtain ⟨cp, hcp⟩ : ∃ cp, cap - 64 * t = cp := ⟨_, rfl⟩
    obtain ⟨A, hA⟩ : ∃ A, curA a cap t = A := ⟨_, rfl⟩
    rw [hm, hcp, hA] at hcb
    rw [hm] at HL
    have HM := Lib.hid hm
    have HCP := Lib.hid hcp
    have HA := Lib.hid hA
    have hmb : m ≤ 140737488355328 := by omega
    have hmc : m ≤ cp := by omega
    have hcpb : cp ≤ cap := by omega
    by_cases hlt : t < q
    · have h64 : 64 ≤ m := by omega
      have h64c : 64 ≤ cp := by omega
      have h64I : (64 : Int) ≤ m := by omega
      have hlc : 64 * t < cap := by omega
      clear hm hcp hA
      by_cases he : cp = 64
      · have HN : Hid (A = curA a cap (t + 1)) := by have := curA_last (a := a) hlc (by rw [HCP.out]; exact he); rw [HA.out] at this; exact this
        gi_wp2_with fail
        obtain ⟨V1, hV1⟩ : ∃ V1, wr.setCell ⟨B, 0, none⟩ (.slice A (m - 64) 0) = V1 := ⟨_, rfl⟩
        have hx1 : Ext (fun k => k = B ∨ W.heap.size ≤ k) wr V1 := by rw [← hV1]; exact Ext.setCell _ _ _ (.inl rfl)
        have hB1 : V1.heap[B]? = some (.cells #[curS a n cap (t + 1)] 23 (0, 0)) := by
          rw [← hV1, block_set HB.out 0 _]
          unfold curS
          rw [← HN.out, show n - 64 * (t + 1) = m - 64 by have := HM.out; omega, show cap - 64 * (t + 1) = 0 by have := HCP.out; omega]
          rfl
        rw [hV1]
        clear hV1
        have hJ1 := HJ.out _ _ _ HT.out hx1
        have HP := Lib.hid (range_prefix6 hlt)
        obtain ⟨fn, tmps, assign, body, hy, hR⟩ := HY.out (List.range t) t V1 hJ1 HP.out (Nat.le_trans hz hx1.size)
        have HRR := Lib.hid hR
        have HB1 := Lib.hid hB1
        have HX1 : Hid (W.heap.size ≤ V1.heap.size) := Nat.le_trans hz hx1.size
        clear hJ1 hR hB1 hx1
        have HE : Hid (blockV a n cap t = #[.slice A 64 64, .slice A (m - 64) 0]) := by
          unfold Hid blockV curS
          rw [HA.out, HCP.out, he, ← HN.out, show n - 64 * (t + 1) = m - 64 by have := HM.out; omega, show cap - 64 * (t + 1) = 0 by have := HCP.out; omega]
        rw [HE.out] at hy
        rw [hy]
        gi_wp2_with fail
        refine ⟨fun h => (by cases h), ?_⟩
        refine HRR.out.mono ?_
        rintro e W' (⟨rfl, hJ', hk⟩ | ⟨rfl, hJx'⟩)
        · have HJ' := Lib.hid hJ'
          have hB2 := hk.heap HB1.out (fun h => h.2 rfl)
          have HK := Lib.hid hk.size
          have HB2 := Lib.hid hB2
          have HLA : Hid (lenAt B W' < lenAt B wr) := by
            have h1 : lenAt B W' = n - 64 * (t + 1) := by unfold lenAt; rw [block_cell hB2 0 rfl]; rfl
            unfold Hid
            rw [h1, HL.out]; have := HM.out; omega
          clear hJ' hk hB2
          gi_wp2_with fail
          exact ⟨⟨t + 1, by omega, by rw [List.range_succ]; exact HJ'.out, HB2.out, Nat.le_trans HX1.out HK.out⟩, HLA.out⟩
        · gi_wp2_with fail
          rw [Exit.noGoto_normal]
          go_end0
          exact ⟨⟨_, rfl⟩, .inr ⟨_, HP.out, hJx'⟩⟩
      · have HN : Hid (Option.map (fun x => ({ block := x.block, off := x.off + 64 } : Addr)) A = curA a cap (t + 1)) := by have := curA_next (a := a) hlc (by rw [HCP.out]; exact he); rw [HA.out, add64] at this; exact this
        gi_wp2_with fail
        obtain ⟨V1, hV1⟩ : ∃ V1, wr.setCell ⟨B, 0, none⟩ (.slice (Option.map (fun x => ({ block := x.block, off := x.off + 64 } : Addr)) A) (m - 64) (cp - 64)) = V1 := ⟨_, rfl⟩
        have hx1 : Ext (fun k => k = B ∨ W.heap.size ≤ k) wr V1 := by rw [← hV1]; exact Ext.setCell _ _ _ (.inl rfl)
        have hB1 : V1.heap[B]? = some (.cells #[curS a n cap (t + 1)] 23 (0, 0)) := by
          rw [← hV1, block_set HB.out 0 _]
          unfold curS
          rw [← HN.out, show n - 64 * (t + 1) = m - 64 by have := HM.out; omega, show cap - 64 * (t + 1) = cp - 64 by have := HCP.out; omega]
          rfl
        rw [hV1]
        clear hV1
        have hJ1 := HJ.out _ _ _ HT.out hx1
        have HP := Lib.hid (range_prefix6 hlt)
        obtain ⟨fn, tmps, assign, body, hy, hR⟩ := HY.out (List.range t) t V1 hJ1 HP.out (Nat.le_trans hz hx1.size)
        have HRR := Lib.hid hR
        have HB1 := Lib.hid hB1
        have HX1 : Hid (W.heap.size ≤ V1.heap.size) := Nat.le_trans hz hx1.size
        clear hJ1 hR hB1 hx1
        have HE : Hid (blockV a n cap t = #[.slice A 64 cp, .slice (Option.map (fun x => ({ block := x.block, off := x.off + 64 } : Addr)) A) (m - 64) (cp - 64)]) := by
          unfold Hid blockV curS
          rw [HA.out, HCP.out, ← HN.out, show n - 64 * (t + 1) = m - 64 by have := HM.out; omega, show cap - 64 * (t + 1) = cp - 64 by have := HCP.out; omega]
        rw [HE.out] at hy
        rw [hy]
        gi_wp2_with fail
        refine ⟨fun h => (by cases h), ?_⟩
        refine HRR.out.mono ?_
        rintro e W' (⟨rfl, hJ', hk⟩ | ⟨rfl, hJx'⟩)
        · have HJ' := Lib.hid hJ'
          have hB2 := hk.heap HB1.out (fun h => h.2 rfl)
          have HK := Lib.hid hk.size
          have HB2 := Lib.hid hB2
          have HLA : Hid (lenAt B W' < lenAt B wr) := by
            have h1 : lenAt B W' = n - 64 * (t + 1) := by unfold lenAt; rw [block_cell hB2 0 rfl]; rfl
            unfold Hid
            rw [h1, HL.out]; have := HM.out; omega
          clear hJ' hk hB2
          gi_wp2_with fail
          exact ⟨⟨t + 1, by omega, by rw [List.range_succ]; exact HJ'.out, HB2.out, Nat.le_trans HX1.out HK.out⟩, HLA.out⟩
        · gi_wp2_with fail
          rw [Exit.noGoto_normal]
          go_end0
          exact ⟨⟨_, rfl⟩, .inr ⟨_, HP.out, hJx'⟩⟩
    · obtain rfl : q = t := by omega
      have h64 : m < 64 := by omega
      have h64I : ¬ (64 : Int) ≤ m := by omega
      clear hm hcp hA hq
      gi_wp2_with fail
      go_end0
      exact ⟨⟨_, rfl⟩, .inl HT.out⟩
end Go.Proofs.YtjfcldjepgijeaaDoor
