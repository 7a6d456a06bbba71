/- The law MaskPieces. -/
import Derived.Test.YtjfcldjepgijeaaDoorHf
import Derived.Test.YtjfcldjepgijeaaDoorSq
namespace Go.Proofs.YtjfcldjepgijeaaDoor
open Go.RowKit Go.Shelf Go.Sort

/-- a slice from k on -/
theorem Holds.rest {p : Nat → Prop} {W : World} {a : Option Addr} {cap : Nat} {l : List (BitVec 8)} (h : Holds p W a cap l) {lo : Nat} (h1 : lo ≤ l.length) :
    Holds p W (if cap = lo then a else Option.map (fun x => x.add lo) a) (cap - lo) (l.drop lo) := by
  have hc := h.len
  split
  · rw [show cap - lo = 0 by omega]
    exact h.none_left (by omega)
  · exact h.from h1 (by omega)
theorem named_name (wide long : Bool) : namedN ⟨(nameN (numW wide long)).toArray⟩ = numW wide long := by
  cases wide <;> cases long <;> decide +kernel
theorem hash_num (z : Int) (h0 : 0 ≤ z) (h1 : z ≤ 255) (W : World) : Calls Tryd.prog 19 #[.int .u8 z] W fun e W' => ∃ wide long, e = .returned (.int .i64 (numW wide long)) ∧ W' = W := by
  obtain ⟨m, hm⟩ : ∃ m : Nat, z % 4 = m := ⟨(z % 4).toNat, by omega⟩
  obtain ⟨wide, long, e⟩ := numW_of (1 + m) (by omega) (by omega)
  have HE : Hid ((1 + (m : Int)) = numW wide long) := by unfold Hid; rw [e]; omega
  have hm3 : m ≤ 3 := by omega
  clear e
  go_enter Tryd.func19, Tryd.ntmps19
  go_wp2_with fail
  go_ret
  exact ⟨wide, long, by rw [← HE.out]; rfl, rfl⟩

theorem mod_un (x : Nat) (h : x ≤ 65535) : wrap64 (x : Int) = (x : Int) := by unfold wrap64; omega
theorem sum_un {n : Nat} (i m k : Nat) (h : wrap64 ((i : Int) + m) = (k : Int)) (hm : m ≤ n ∧ i ≤ n) (hn : n ≤ 1000) : (i : Int) + m = (k : Int) := by
  rw [← h]; unfold wrap64; omega
theorem mod_nat (x n : Nat) (h : x ≤ 65535) : (wrap64 (x : Int)).tmod ((n : Int) + 1) = ((x % (n + 1) : Nat) : Int) := by
  have e : wrap64 (x : Int) = (x : Int) := by unfold wrap64; omega
  rw [e, Int.tmod_eq_emod_of_nonneg (by omega), Int.natCast_emod]
  simp
theorem mod_parts (n at1 to1 : Nat) (hn : n ≤ 1000) (hat : at1 ≤ 65535) (hto : to1 ≤ 65535) : ∃ i r m k : Nat, m ≤ n ∧ i ≤ k ∧ k ≤ n ∧ i ≤ n ∧ r ≤ 1000 ∧ (wrap64 (at1 : Int)).tmod ((n : Int) + 1) = (i : Int) ∧ wrap64 ((n : Int) - i) = (r : Int) ∧ (n : Int) - i = (r : Int) ∧
    wrap64 ((r : Int) + 1) = (r : Int) + 1 ∧ (wrap64 (to1 : Int)).tmod ((r : Int) + 1) = (m : Int) ∧ wrap64 ((i : Int) + m) = (k : Int) := by
  have h1 := Nat.mod_lt at1 (show 0 < n + 1 by omega)
  have q1 := mod_nat at1 n hat
  obtain ⟨i, hi⟩ : ∃ i, at1 % (n + 1) = i := ⟨_, rfl⟩
  rw [hi] at q1 h1
  obtain ⟨r, hr⟩ : ∃ r, n - i = r := ⟨_, rfl⟩
  have h2 := Nat.mod_lt to1 (show 0 < r + 1 by omega)
  have q4 := mod_nat to1 r hto
  obtain ⟨m, hm⟩ : ∃ m, to1 % (r + 1) = m := ⟨_, rfl⟩
  rw [hm] at q4 h2
  clear hi hm
  refine ⟨i, r, m, i + m, by omega, by omega, by omega, by omega, by omega, q1, ?_, by omega, ?_, q4, ?_⟩
  all_goals (clear q1 q4; unfold wrap64; omega)

theorem mod_parts2 (n at1 to1 : Nat) (hn : n ≤ 1000) (hat : at1 ≤ 65535) (hto : to1 ≤ 65535) : ∃ i r m k : Nat, m ≤ n ∧ i ≤ k ∧ k ≤ n ∧ i ≤ n ∧ r ≤ 1000 ∧ (at1 : Int) % ((n : Int) + 1) = (i : Int) ∧ wrap64 ((n : Int) - i) = (r : Int) ∧ (n : Int) - i = (r : Int) ∧
    wrap64 ((r : Int) + 1) = (r : Int) + 1 ∧ (to1 : Int) % ((r : Int) + 1) = (m : Int) ∧ (i : Int) + m = (k : Int) := by
  obtain ⟨i, r, m, k, hmn, hik, hkn, hin, hr1, q1, q2, q2', q3, q4, q5⟩ := mod_parts n at1 to1 hn hat hto
  rw [mod_un at1 hat, Int.tmod_eq_emod_of_nonneg (Int.natCast_nonneg _)] at q1
  rw [mod_un to1 hto, Int.tmod_eq_emod_of_nonneg (Int.natCast_nonneg _)] at q4
  exact ⟨i, r, m, k, hmn, hik, hkn, hin, hr1, q1, q2, q2', q3, q4, sum_un i m k q5 ⟨hmn, hin⟩ hn⟩

set_option maxHeartbeats 2000000 in
set_option maxRecDepth 100000 in
theorem pieces8 {p : Nat → Prop} (z0 : Int) (h00 : 0 ≤ z0) (h01 : z0 ≤ 255) (a : Option Addr) (n c : Nat) (l : List (BitVec 8)) (at1 to1 : Nat) (hat : at1 ≤ 65535) (hto : to1 ≤ 65535) (W : World) (hl : Hid (Laid8 W)) (hh : Hid (Holds p W a c l)) (hn : Hid (l.length = n)) :
    Calls Tryd.prog 4 #[.int .u8 z0, .slice a n c, .int .u16 at1, .int .u16 to1] W (TrueOf W) := by
  go_enter Tryd.func4, Tryd.ntmps4
  go_wp2_with fail
  refine (alive_any W hl).mono ?_
  rintro e w1 ⟨rfl, hx1⟩
  have HX1 := Lib.hid hx1
  clear hx1
  by_cases hbig : (1000 : Int) < n
  · go_wp2_with fail
    go_ret
    exact ⟨rfl, HX1.out⟩
  · have hnb : n ≤ 1000 := by omega
    go_wp2_with fail
    refine (hash_num z0 h00 h01 _).mono ?_
    rintro e w2 ⟨wide, long, rfl, rfl⟩
    obtain ⟨i, r, m, k, hmn, hik, hkn, hin, hr1, q1, q2, q2', q3, q4, q5⟩ := mod_parts2 n at1 to1 hnb hat hto
    have HI := Lib.hid (And.intro hik (And.intro hkn (And.intro hin (And.intro hmn hr1))))
    clear hik hkn hin hmn hr1
    have HL2 : Hid (Laid8 w2) := hl.out.ext HX1.out
    have HH2 : Hid (Holds p w2 a c l) := hh.out.ext HX1.out (fun _ _ h => h)
    obtain ⟨W3, hW3⟩ : ∃ W3, w2.alloc (.cells #[.slice a n c] 23) = W3 := ⟨_, rfl⟩
    have hx3 : Ext Nope w2 W3 := by rw [← hW3]; exact Ext.alloc _ _ _
    have hf3 : W3.heap[w2.heap.size]? = some (.cells #[.slice a n c] 23 (0, 0)) := by rw [← hW3]; exact World.alloc_heap_new _ _
    have HR3 : Hid (HoldsR p W3 (some ⟨w2.heap.size, 0, none⟩) 1 [l]) := ⟨rfl, .inr ⟨_, 0, rfl, fun i l' hi => by
      obtain ⟨h1, h2⟩ := List.getElem?_eq_some_iff.1 hi
      simp at h1; subst h1; simp at h2; subst h2
      rw [hn.out]
      exact ⟨_, _, block_cell hf3 0 rfl, HH2.out.ext hx3 (fun _ _ h => h)⟩⟩⟩
    have HL3 : Hid (Laid8 W3) := HL2.out.ext hx3
    have HX3 : Hid (Ext Nope W W3) := HX1.out.trans hx3 (fun _ _ h => h) (fun _ _ h => h)
    have HW3 := Lib.hid hW3
    clear hf3 hx3 hW3
    go_wp2_with fail
    rw [HW3.out]
    refine (sumW_any wide long _ 1 1 _ W3 HR3 (by omega) (fun l' h => by simp at h; subst h; have := hn.out; omega) HL3.out.1 HL3.out.2.1).mono ?_
    rintro e w4 ⟨v4, rfl, a4, rfl, hh4, hl4, hx4⟩
    rw [List.flatten_cons, List.flatten_nil, List.append_nil] at hh4 hl4
    have HX4 : Hid (Ext Nope W w4) := HX3.out.trans hx4 (fun _ _ h => h) (fun _ _ h => h)
    have HH4 := Lib.hid hh4
    have HLN := Lib.hid hl4
    have HL4 : Hid (Laid8 w4) := HL3.out.ext hx4
    have Q1 := Lib.hid q1
    have HWK : Hid (wrap64 (k : Int) = (k : Int)) := mod_un k (by have := HI.out.2.1; omega)
    clear hh4 hl4 hx4 q1 q2 q2' q3 q4 q5
    go_wp2_with fail
    rw [Q1.out, HWK.out]
    refine wp_region_plan [([0, 1, 2, 3, 4, 5, 6, 7, 8, 9, 10], 11), ([], 12)] [13, 14, 15, 16, 17] (by kernel_rfl) (by kernel_rfl) ?_
    refine wpPlan_look [_, _, _, _, _, _, _, _, _, _, _] rfl (fun K' hK' => ?_)
    simp only [List.getElem_toArray, List.getElem_cons_succ, List.getElem_cons_zero]
    obtain ⟨hik, hkn, hin, -, -⟩ := HI.out
    have hnc : n ≤ c := by rw [← hn.out]; exact hh.out.len
    have HR1 := Lib.hid (hh.out.rest (lo := i) (by rw [hn.out]; exact hin))
    have HR2 := Lib.hid (hh.out.rest (lo := k) (by rw [hn.out]; exact hkn))
    obtain ⟨A1, hA1⟩ : ∃ A1, (if c = i then a else Option.map (fun x => x.add i) a) = A1 := ⟨_, rfl⟩
    obtain ⟨A2, hA2⟩ : ∃ A2, (if c = k then a else Option.map (fun x => x.add k) a) = A2 := ⟨_, rfl⟩
    rw [hA1] at HR1
    rw [hA2] at HR2
    repeat (go_big_quiet_step (fail))
    refine wpQuiet_nil ?_
    apply hK'
    clear hik hkn hin hnc hA1 hA2
    refine wpOpIn_loud rfl (by kernel_rfl) (fun K hK => ?_)
    clear hK'
    gi_wp2_with fail
    have HX5 : Hid (Ext Nope w4 (w4.alloc (.cells #[.slice a i c, .slice A1 (k - i) (c - i), .slice none 0 0, .slice A2 (n - k) (c - k)] 23)).drew) := (Ext.alloc Nope w4 _).trans (Ext.drew Nope _) (fun _ _ h => h) (fun _ _ h => h)
    refine ⟨(show Ext Nope w4.drew (w4.drew.alloc _) from Ext.alloc _ _ _), ?_⟩
    have hf5 : (w4.alloc (.cells #[.slice a i c, .slice A1 (k - i) (c - i), .slice none 0 0, .slice A2 (n - k) (c - k)] 23)).drew.heap[w4.heap.size]? = some (.cells #[.slice a i c, .slice A1 (k - i) (c - i), .slice none 0 0, .slice A2 (n - k) (c - k)] 23 (0, 0)) := World.alloc_heap_new w4 _
    obtain ⟨W5, hW5⟩ : ∃ W5, (w4.alloc (.cells #[.slice a i c, .slice A1 (k - i) (c - i), .slice none 0 0, .slice A2 (n - k) (c - k)] 23)).drew = W5 := ⟨_, rfl⟩
    rw [hW5] at hf5 HX5 ⊢
    clear hW5
    have HXW5 : Hid (Ext Nope W W5) := HX4.out.trans HX5.out (fun _ _ h => h) (fun _ _ h => h)
    have HL5 : Hid (Laid8 W5) := hl.out.ext HXW5.out
    have HR5 : Hid (HoldsR p W5 (some ⟨w4.heap.size, 0, none⟩) 4 [l.take i, (l.drop i).take (k - i), [], l.drop k]) := by
      obtain ⟨hik, hkn, hin, -, -⟩ := HI.out
      have g1 := hn.out
      refine ⟨rfl, .inr ⟨_, 0, rfl, fun j l' hj => ?_⟩⟩
      rw [Nat.zero_add]
      match j, hj with
      | 0, hj => simp at hj; subst hj; exact ⟨_, _, by rw [show (l.take i).length = i by rw [List.length_take]; omega]; exact block_cell hf5 0 rfl, (hh.out.upto (by omega)).ext HXW5.out (fun _ _ h => h)⟩
      | 1, hj => simp at hj; subst hj; exact ⟨_, _, by rw [show ((l.drop i).take (k - i)).length = k - i by rw [List.length_take, List.length_drop]; omega]; exact block_cell hf5 1 rfl, (HR1.out.upto (by rw [List.length_drop]; omega)).ext HXW5.out (fun _ _ h => h)⟩
      | 2, hj => simp at hj; subst hj; exact ⟨_, _, block_cell hf5 2 rfl, Holds.nil _ _⟩
      | 3, hj => simp at hj; subst hj; exact ⟨_, _, by rw [show (l.drop k).length = n - k by rw [List.length_drop]; omega]; exact block_cell hf5 3 rfl, HR2.out.ext HXW5.out (fun _ _ h => h)⟩
      | j + 4, hj => simp at hj
    clear hf5
    refine wpPlan_look [] rfl (fun K' hK' => ?_)
    refine wpQuiet_nil ?_
    apply hK'
    refine wpOpIn_loud rfl (by kernel_rfl) (fun K hK => ?_)
    clear hK'
    gi_wp2_with fail
    refine ⟨trivial, calls_fr (r := none) ((sumW_any wide long _ 4 4 _ W5 HR5 (by omega) (fun l' h => by have := hn.out; simp at h; obtain rfl | rfl | rfl | rfl := h <;> simp <;> omega) HL5.out.1 HL5.out.2.1).mono ?_)⟩
    rintro e w6 ⟨v6, rfl, a6, rfl, hh6, hl6, hx6⟩
    have HFL : Hid ([l.take i, (l.drop i).take (k - i), [], l.drop k].flatten = l) := by
      obtain ⟨hik, hkn, hin, -, -⟩ := HI.out
      unfold Hid
      simp only [List.flatten_cons, List.flatten_nil, List.append_nil, List.nil_append]
      rw [show l.drop k = (l.drop i).drop (k - i) by rw [List.drop_drop]; congr 1; omega, List.take_append_drop, List.take_append_drop]
    rw [HFL.out] at hh6 hl6
    have HX6 := Lib.hid hx6
    have HXW6 : Hid (Ext Nope W w6) := HXW5.out.trans hx6 (fun _ _ h => h) (fun _ _ h => h)
    have HX46 : Hid (Ext Nope w4 w6) := HX5.out.trans hx6 (fun _ _ h => h) (fun _ _ h => h)
    have HH6 := Lib.hid hh6
    have HL6 : Hid (Laid8 w6) := hl.out.ext HXW6.out
    clear hh6 hl6 hx6
    gi_wp2_with fail
    refine ⟨HX6.out, ?_⟩
    refine wpPlan_last [_, _, _, _, _] rfl (fun K' hK' => ?_)
    simp only [List.getElem_toArray, List.getElem_cons_succ, List.getElem_cons_zero]
    repeat (go_big_quiet_step (fail))
    refine wpQuiet_nil ?_
    apply hK'
    rw [noPan_normal]
    clear hK'
    go_wp2_with fail
    have HR0 : Hid (HoldsR p w6 none 0 []) := ⟨rfl, .inl rfl⟩
    refine (sumW_any wide long none 0 0 _ w6 HR0 (by omega) (fun l' h => by simp at h) HL6.out.1 HL6.out.2.1).mono ?_
    rintro e w7 ⟨v7, rfl, a7, rfl, hh7, hl7, hx7⟩
    have HX7 := Lib.hid hx7
    have HH7 := Lib.hid hh7
    have HL7 : Hid (Laid8 w7) := HL6.out.ext hx7
    have HLN7 := Lib.hid hl7
    clear hh7 hl7 hx7
    have hf8 := World.alloc_heap_new w7 (.cells #[.slice none 0 0, .slice none 0 0] 23)
    have hx8 : Ext Nope w7 (w7.alloc (.cells #[.slice none 0 0, .slice none 0 0] 23)) := Ext.alloc _ _ _
    obtain ⟨W8, hW8⟩ : ∃ W8, w7.alloc (.cells #[.slice none 0 0, .slice none 0 0] 23) = W8 := ⟨_, rfl⟩
    rw [hW8] at hf8 hx8
    have HX8 := Lib.hid hx8
    have HW8 := Lib.hid hW8
    have HL8 : Hid (Laid8 W8) := HL7.out.ext hx8
    have HR8 : Hid (HoldsR p W8 (some ⟨w7.heap.size, 0, none⟩) 2 [[], []]) := by
      refine ⟨rfl, .inr ⟨_, 0, rfl, fun j l' hj => ?_⟩⟩
      rw [Nat.zero_add]
      match j, hj with
      | 0, hj => simp at hj; subst hj; exact ⟨_, _, block_cell hf8 0 rfl, Holds.nil _ _⟩
      | 1, hj => simp at hj; subst hj; exact ⟨_, _, block_cell hf8 1 rfl, Holds.nil _ _⟩
      | j + 2, hj => simp at hj
    clear hf8 hx8 hW8
    go_wp2_with fail
    rw [HW8.out]
    refine (sumW_any wide long _ 2 2 _ W8 HR8 (by omega) (fun l' h => by simp at h; subst h; simp) HL8.out.1 HL8.out.2.1).mono ?_
    rintro e w9 ⟨v9, rfl, a9, rfl, hh9, hl9, hx9⟩
    rw [show ([[], []] : List (List (BitVec 8))).flatten = [] from rfl] at hh9
    have HX79 : Hid (Ext Nope w7 w9) := HX8.out.trans hx9 (fun _ _ h => h) (fun _ _ h => h)
    have HX69 : Hid (Ext Nope w6 w9) := HX7.out.trans HX79.out (fun _ _ h => h) (fun _ _ h => h)
    have HX49 : Hid (Ext Nope w4 w9) := HX46.out.trans HX69.out (fun _ _ h => h) (fun _ _ h => h)
    have HX9 : Hid (Ext Nope W w9) := HX4.out.trans HX49.out (fun _ _ h => h) (fun _ _ h => h)
    have HL9 : Hid (Laid8 w9) := hl.out.ext HX9.out
    have hc4 := holds_string (HH4.out.ext HX49.out (fun _ _ h => h)) HLN.out
    have hc6 := holds_string (HH6.out.ext HX69.out (fun _ _ h => h)) HLN.out
    have hc7 := holds_string (HH7.out.ext HX79.out (fun _ _ h => h)) (hashW_length wide long _)
    have hc9 := holds_string hh9 (hashW_length wide long _)
    clear hh9 hl9 hx9
    go_wp2_with fail
    refine (size_W wide long w9 HL9.out.1).mono ?_
    rintro e w10 ⟨rfl, rfl⟩
    clear hc4 hc6
    go_wp2_with fail
    refine (name_W wide long _ HL9.out.1 HL9.out.2.2).mono ?_
    rintro e w11 ⟨rfl, hx11⟩
    have HX11 : Hid (Ext Nope W w11) := HX9.out.trans hx11 (fun _ _ h => h) (fun _ _ h => h)
    have HL11 : Hid (Laid8 w11) := hl.out.ext HX11.out
    clear hx11 hc7 hc9
    go_wp2_with fail
    refine (named_any _ _ HL11.out.1 HL11.out.2.2).mono ?_
    rintro e w12 ⟨rfl, hx12⟩
    have HX12 : Hid (Ext Nope W w12) := HX11.out.trans hx12 (fun _ _ h => h) (fun _ _ h => h)
    rw [named_name]
    clear hx12
    go_wp2_with fail
    go_ret
    exact ⟨rfl, HX12.out⟩
end Go.Proofs.YtjfcldjepgijeaaDoor
