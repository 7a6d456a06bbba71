/- Sha512Names. -/
import Derived.Test.YtcjcnpjedmpghaaDoorLc
import Derived.Lib.SlBytesConst
namespace Go.Proofs.YtcjcnpjedmpghaaDoor
open Go.RowKit Go.Shelf

/-- calls on none, or on the zero state -/
def NoneAt (W : World) (q : Option Addr) : Prop := q = none ∨ ∃ b, q = some ⟨b, 0, none⟩ ∧ W.cell? ⟨b, 0, none⟩ = some (.int .i64 0)
theorem NoneAt.ext {W W' : World} {q : Option Addr} (h : NoneAt W q) (hx : Ext Nope W W') : NoneAt W' q :=
  h.imp id fun ⟨b, e, hc⟩ => ⟨b, e, hx.cell hc (fun h => h)⟩
theorem none_at {W : World} {q : Option Addr} (h : NoneAt W q) : Calls Tryd.prog 23 #[.pointer q] W fun e W' => e = .returned (.bool true) ∧ W = W' := by
  rcases h with rfl | ⟨b, rfl, hc⟩
  · exact none_nil W
  · exact none_zero b 0 W hc

set_option maxRecDepth 100000 in
theorem sum_none (q : Option Addr) (W : World) (h0 : Hid (NoneAt W q)) : Calls Tryd.prog 12 #[.pointer q] W fun e W' => e = .returned (.slice none 0 0) ∧ W = W' := by
  go_enter Tryd.func12, Tryd.ntmps12
  go_wp2_with fail
  refine (none_at h0.out).mono ?_
  rintro e w' ⟨rfl, rfl⟩
  go_wp2_with fail
  go_ret
  exact ⟨rfl, rfl⟩
set_option maxRecDepth 100000 in
theorem len_none (q : Option Addr) (W : World) (h0 : Hid (NoneAt W q)) : Calls Tryd.prog 13 #[.pointer q] W fun e W' => e = .returned (.int .u64 0) ∧ W = W' := by
  go_enter Tryd.func13, Tryd.ntmps13
  go_wp2_with fail
  refine (none_at h0.out).mono ?_
  rintro e w' ⟨rfl, rfl⟩
  go_wp2_with fail
  go_ret
  exact ⟨rfl, rfl⟩
set_option maxRecDepth 100000 in
theorem copy_none (q : Option Addr) (W : World) (h0 : Hid (NoneAt W q)) : Calls Tryd.prog 16 #[.pointer q] W fun e W' => e = .returned (.pointer none) ∧ W = W' := by
  go_enter Tryd.func16, Tryd.ntmps16
  go_wp2_with fail
  refine (none_at h0.out).mono ?_
  rintro e w' ⟨rfl, rfl⟩
  go_wp2_with fail
  go_ret
  exact ⟨rfl, rfl⟩
set_option maxRecDepth 100000 in
theorem write_none (q : Option Addr) (v : Value) (W : World) (h0 : Hid (NoneAt W q)) : Calls Tryd.prog 11 #[.pointer q, v] W fun e W' => e = .returned (.tuple #[]) ∧ Ext Nope W W' := by
  refine (callsIn_wide (n := 9)).1 (callsIn_of_wp_marks Tryd.func11 rfl trivial ?_ rfl)
  simp only [Tryd.ntmps11, List.size_toArray, List.length_cons, List.length_nil, Nat.reduceAdd, Nat.reduceSub, Array.replicate_succ, Array.replicate_zero, List.push_toArray, List.append_toArray, List.nil_append, List.cons_append]
  gi_wp2_with fail
  have h1 : NoneAt (W.alloc (.cells #[.pointer q] 29)) q := h0.out.ext (Ext.alloc _ _ _)
  refine ⟨trivial, calls_fr (r := none) ((none_at h1).mono ?_)⟩
  rintro e w' ⟨rfl, rfl⟩
  gi_wp2_with fail
  exact leave_none (results_none rfl _ _ _) ⟨rfl, Ext.alloc _ _ _⟩

set_option maxRecDepth 100000 in
set_option maxHeartbeats 4000000 in
theorem names_law (W : World) (hq : Hid (Squares W)) (hcu : Hid (Cubes W)) :
    Calls Tryd.prog 4 #[] W (TrueOf W) := by
  go_enter Tryd.func4, Tryd.ntmps4
  go_wp2_with fail
  refine (hash_any 512 64 init512 _ _ _ new_512 (by omega) (by omega) hq hcu (by decide) ?_).mono ?_
  · exact hexeq rfl hash_none_512 rfl
  rintro e w1 ⟨rfl, hx1⟩
  have HX1 := Lib.hid hx1
  have HQ1 : Hid (Squares w1) := hq.out.ext hx1 (fun h => h)
  have HC1 : Hid (Cubes w1) := hcu.out.ext hx1 (fun h => h)
  clear hx1
  go_wp2_with fail
  refine (hash_any 384 48 init384 _ _ _ new_384 (by omega) (by omega) HQ1 HC1 (by decide) ?_).mono ?_
  · exact hexeq rfl hash_none_384 rfl
  rintro e w2 ⟨rfl, hx2⟩
  have HX2 : Hid (Ext Nope W w2) := HX1.out.trans hx2 (fun _ _ h => h) (fun _ _ h => h)
  clear hx2
  go_wp2_with fail
  refine (new_bad 256 _ rfl rfl).mono ?_
  rintro e w' ⟨rfl, rfl⟩
  go_wp2_with fail
  refine (new_bad 0 _ rfl rfl).mono ?_
  rintro e w' ⟨rfl, rfl⟩
  go_wp2_with fail
  refine (of_bad 513 _ _ rfl rfl).mono ?_
  rintro e w' ⟨rfl, rfl⟩
  go_wp2_with fail
  obtain ⟨W3, hW3⟩ : ∃ W3, w2.alloc (.cells #[.int .i64 0, .int .u64 0, .int .u64 0, .int .u64 0, .int .u64 0, .int .u64 0, .int .u64 0, .int .u64 0, .int .u64 0, .slice none 0 0, .int .u64 0] 40) = W3 := ⟨_, rfl⟩
  have hz3 : w2.heap.size + 1 = W3.heap.size := by rw [← hW3]; simp
  have hz0 : W3.cell? ⟨w2.heap.size, 0, none⟩ = some (.int .i64 0) := by rw [← hW3]; exact block_cell (World.alloc_heap_new w2 _) 0 rfl
  have hx3 : Ext Nope w2 W3 := by rw [← hW3]; exact Ext.alloc _ _ _
  rw [hW3, hz3, Lib.run_convert_bytes_const W3 23 5 #[.int .u8 97] 1 1 Tryd.uB Tryd.underlying5]
  simp only [Result.andThen]
  rw [Oper.upon_value]
  obtain ⟨W4, hW4⟩ : ∃ W4, W3.alloc (.cells #[.int .u8 97] 5 (#[Value.int .u8 97].size, #[Value.int .u8 97].size + 1)) = W4 := ⟨_, rfl⟩
  have hx34 : Ext Nope W3 W4 := by rw [← hW4]; exact Ext.alloc _ _ _
  rw [hW4]
  have HX4 : Hid (Ext Nope W W4) := HX2.out.trans (hx3.trans hx34 (fun _ _ h => h) (fun _ _ h => h)) (fun _ _ h => h) (fun _ _ h => h)
  have HZ4 := Lib.hid (hx34.cell hz0 (fun h => h))
  obtain ⟨zb, hzb⟩ : ∃ zb, w2.heap.size = zb := ⟨_, rfl⟩
  rw [hzb] at HZ4 ⊢
  clear hW3 hz3 hx3 hW4 hx34 hz0 hzb
  go_wp2_with fail
  refine (write_none none _ W4 (.inl rfl)).mono ?_
  rintro e w5 ⟨rfl, hx5⟩
  have HX5 : Hid (Ext Nope W w5) := HX4.out.trans hx5 (fun _ _ h => h) (fun _ _ h => h)
  have HZ5 := Lib.hid (hx5.cell HZ4.out (fun h => h))
  clear hx5
  go_wp2_with fail
  rw [Lib.run_convert_bytes_const w5 23 5 #[.int .u8 97] 1 1 Tryd.uB Tryd.underlying5]
  simp only [Result.andThen]
  rw [Oper.upon_value]
  obtain ⟨w6, hw6⟩ : ∃ w6, w5.alloc (.cells #[.int .u8 97] 5 (#[Value.int .u8 97].size, #[Value.int .u8 97].size + 1)) = w6 := ⟨_, rfl⟩
  have hx6 : Ext Nope w5 w6 := by rw [← hw6]; exact Ext.alloc _ _ _
  rw [hw6]
  have HX6 : Hid (Ext Nope W w6) := HX5.out.trans hx6 (fun _ _ h => h) (fun _ _ h => h)
  have HZ6 := Lib.hid (hx6.cell HZ5.out (fun h => h))
  clear hw6 hx6
  go_wp2_with fail
  refine (write_none _ _ w6 (.inr ⟨zb, rfl, HZ6.out⟩)).mono ?_
  rintro e w7 ⟨rfl, hx7⟩
  have HX7 : Hid (Ext Nope W w7) := HX6.out.trans hx7 (fun _ _ h => h) (fun _ _ h => h)
  have HZ7 := Lib.hid (hx7.cell HZ6.out (fun h => h))
  have HQ7 : Hid (Squares w7) := hq.out.ext HX7.out (fun h => h)
  have HC7 : Hid (Cubes w7) := hcu.out.ext HX7.out (fun h => h)
  clear hx7
  go_wp2_with fail
  refine (alive_any w7 HQ7 HC7).mono ?_
  rintro e w8 ⟨rfl, hx8⟩
  have HX8 : Hid (Ext Nope W w8) := HX7.out.trans hx8 (fun _ _ h => h) (fun _ _ h => h)
  have HZ8 : Hid (NoneAt w8 (some ⟨zb, 0, none⟩)) := .inr ⟨zb, rfl, hx8.cell HZ7.out (fun h => h)⟩
  have HN8 : Hid (NoneAt w8 none) := .inl rfl
  clear hx8
  go_wp2_with fail
  refine (sum_none none w8 HN8).mono ?_
  rintro e w' ⟨rfl, rfl⟩
  go_wp2_with fail
  refine (sum_none _ w8 HZ8).mono ?_
  rintro e w' ⟨rfl, rfl⟩
  go_wp2_with fail
  refine (len_none none w8 HN8).mono ?_
  rintro e w' ⟨rfl, rfl⟩
  go_wp2_with fail
  refine (len_none _ w8 HZ8).mono ?_
  rintro e w' ⟨rfl, rfl⟩
  go_wp2_with fail
  refine (copy_none none w8 HN8).mono ?_
  rintro e w' ⟨rfl, rfl⟩
  go_wp2_with fail
  refine (copy_none _ w8 HZ8).mono ?_
  rintro e w' ⟨rfl, rfl⟩
  go_wp2_with fail
  go_ret
  exact ⟨rfl, HX8.out⟩
end Go.Proofs.YtcjcnpjedmpghaaDoor
