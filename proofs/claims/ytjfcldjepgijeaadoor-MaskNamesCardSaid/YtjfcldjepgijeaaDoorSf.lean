/- Bytes in chunks of one block each. -/
import Derived.Test.YtjfcldjepgijeaaDoorSlb
import Derived.Test.YtjfcldjepgijeaaDoorRf
import Derived.WalkMore
namespace Go.Proofs.YtjfcldjepgijeaaDoor
open Go.RowKit Go.Shelf
attribute [local go_sem] Oper.semAt_some

theorem chunk_any (a : Option Addr) (n cap : Nat) (W : World) : Calls Tryd.prog 58 #[.slice a n cap, .int .i64 128] W fun e W' =>
    e = .returned (.func (.func 73) #[] #[.pointer (some ⟨W.heap.size, 0, none⟩), .pointer (some ⟨W.heap.size + 1, 0, none⟩)]) ∧
    (W.alloc (.cells #[.slice a n cap] 23)).alloc (.cells #[.int .i64 128] 3) = W' := by
  go_enter Tryd.func58, Tryd.ntmps58
  go_wp2
  go_ret
  exact ⟨by simp, rfl⟩

def chunkV (a : Option Addr) (k : Nat) : Array Value := #[.slice (Option.map (fun x => x.add (128 * k)) a) 128 128]
def ChunkRd (B : Nat) (a : Option Addr) (m cap : Nat) (W : World) : Prop :=
  W.cell? ⟨B, 0, none⟩ = some (.slice a (128 * m) cap) ∧ W.cell? ⟨B + 1, 0, none⟩ = some (.int .i64 128) ∧ 128 * m ≤ cap ∧ 128 * m ≤ 140737488355328

theorem range_prefix {k m : Nat} (h : k < m) : List.range k ++ [k] <+: List.range m := by
  rw [← List.range_succ]
  have : List.range (k + 1) = (List.range m).take (k + 1) := by rw [List.take_range, show min (k + 1) m = k + 1 by omega]
  rw [this]; exact List.take_prefix _ _

set_option maxHeartbeats 1000000 in
theorem chunk1_ok (k B : Nat) (a : Option Addr) (m cap : Nat) :
    IterOK Tryd.prog k 73 #[.pointer (some ⟨B, 0, none⟩), .pointer (some ⟨B + 1, 0, none⟩)] (chunkV a) (List.range m) (ChunkRd B a m cap) := by
  intro lp J Jx W hJ hJx hRd hY h0
  have HJ := Lib.hid hJ
  have HR := Lib.hid hRd
  have HY := Lib.hid hY
  clear hJ hJx hRd hY
  refine callsIn_of_wp Tryd.func73 rfl trivial ?_ rfl
  simp only [Tryd.ntmps73, List.size_toArray, List.length_cons, List.length_nil, Nat.reduceAdd, Nat.reduceSub, Array.replicate_succ, Array.replicate_zero, List.push_toArray, List.append_toArray, List.nil_append, List.cons_append]
  gi_wp2_with fail
  gi_loopw [4] (fun i wr => ∃ t : Nat, t ≤ m ∧ i = .int .i64 (128 * (t : Int)) ∧ J (List.range t) wr ∧ W.heap.size ≤ wr.heap.size) (fun i _ => 128 * m - (intOf i).toNat)
  case atStart => exact ⟨0, by omega, rfl, h0, Nat.le_refl _⟩
  case round =>
    obtain ⟨t, ht, rfl, hJt, hz⟩ := hrel
    obtain ⟨hc1, hc2, hcap, hbig⟩ := HR.out _ _ hJt
    have HT := Lib.hid hJt
    clear hJt
    by_cases hlt : t < m
    · gi_wp2_with fail
      refine wpIn_region_quiet (r := none) (by kernel_rfl) (by kernel_rfl) (by kernel_rfl) ?_
      repeat (go_big_quiet_step (fail))
      refine wpQuiet_nil ?_
      rintro _ ⟨nq, rfl⟩
      gi_wp2_with fail
      have hJ1 := HJ.out _ _ _ HT.out (Ext.drewN _ wr nq)
      have HP := Lib.hid (range_prefix hlt)
      obtain ⟨fn, tmps, assign, body, hy, hR⟩ := HY.out (List.range t) t (wr.drewN nq) hJ1 HP.out hz
      have HRR := Lib.hid hR
      clear hJ1 hR
      simp only [chunkV] at hy
      rw [hy]
      gi_wp2_with fail
      refine ⟨fun h => (by cases h), ?_⟩
      refine HRR.out.mono ?_
      rintro e W' (⟨rfl, hJ', hk⟩ | ⟨rfl, hJx'⟩)
      · have hE2 := (Ext.drewN (fun k => k < W.heap.size) wr nq).trans hk (fun _ _ h => h) (fun _ _ h => h)
        have hz2 := hE2.size
        have HJ' := Lib.hid hJ'
        clear hJ' hE2 hk
        obtain ⟨hd1, hd2, _, _⟩ := HR.out _ _ HJ'.out
        gi_wp2_with fail
        exact ⟨⟨t + 1, by omega, by go_num, by rw [List.range_succ]; exact HJ'.out, by omega⟩, by simp [intOf]; omega⟩
      · gi_wp2_with fail
        refine bodyPost_ret (results_none rfl _ _ _) rfl ?_
        exact ⟨⟨_, rfl⟩, .inr ⟨_, HP.out, hJx'⟩⟩
    · obtain rfl : t = m := by omega
      gi_wp2_with fail
      go_end0
      exact ⟨⟨_, rfl⟩, .inl HT.out⟩
end Go.Proofs.YtjfcldjepgijeaaDoor
