/- The hash of a name; the examples. -/
import Derived.Test.YtjfcldjepgijeaaDoorHd
import Derived.Test.YtjfcldjepgijeaaDoorK6c
import Derived.Test.YtjfcldjepgijeaaDoorSk
import Derived.Test.YtjfcldjepgijeaaDoorRow
namespace Go.Proofs.YtjfcldjepgijeaaDoor
open Go.RowKit Go.Shelf Go.Sort

theorem name_none (z : Int) (hz : sizeN z = 0) (W : World) (hm : Hid (Sizes W)) : Calls Tryd.prog 16 #[.int .i64 z] W fun e W' =>
    e = .returned (.string ⟨#[]⟩) ∧ W' = W := by
  have HS := Lib.hid (size_any z W hm)
  rw [hz] at HS
  clear hz
  go_enter Tryd.func16, Tryd.ntmps16
  go_wp2_with fail
  refine HS.out.mono ?_
  rintro e w ⟨rfl, rfl⟩
  go_wp2_with fail
  go_ret
  exact ⟨rfl, rfl⟩
theorem numW_of (i : Nat) (h1 : 1 ≤ i) (h4 : i ≤ 4) : ∃ wide long, numW wide long = i := by
  obtain rfl | rfl | rfl | rfl : i = 1 ∨ i = 2 ∨ i = 3 ∨ i = 4 := by omega
  · exact ⟨false, false, rfl⟩
  · exact ⟨false, true, rfl⟩
  · exact ⟨true, false, rfl⟩
  · exact ⟨true, true, rfl⟩
theorem name_nat (i : Nat) (h1 : 1 ≤ i) (h4 : i ≤ 4) (W : World) (hm : Hid (Sizes W)) (hp : Hid (Pows W)) : Calls Tryd.prog 16 #[.int .i64 i] W fun e W' =>
    e = .returned (.string ⟨(nameN i).toArray⟩) ∧ Ext Nope W W' := by
  obtain ⟨wide, long, e⟩ := numW_of i h1 h4
  rw [← e]; exact name_W wide long W hm hp
/-- a table stays -/
theorem Pows.ext {W W' : World} (h : Pows W) (he : Ext Nope W W') : Pows W' := by
  unfold Pows Lib.TabIs at h ⊢
  unfold World.var? at h ⊢
  cases hg : Tryd.prog.globalNamed "internal/strconv.uint64pow10" with
  | none => rw [hg] at h; cases h
  | some g =>
    rw [hg] at h
    simp only [Option.bind_some] at h ⊢
    have hlt : g < W.heap.size := by
      rcases Nat.lt_or_ge g W.heap.size with h' | h'
      · exact h'
      · rw [Array.getElem?_eq_none h'] at h; cases h
    rw [he.block g hlt (fun h => h)]
    exact h
def namedN (s : ByteArray) : Int :=
  if (nameN 1 == s.toList) = true then 1 else if (nameN 2 == s.toList) = true then 2 else if (nameN 3 == s.toList) = true then 3 else if (nameN 4 == s.toList) = true then 4 else 0
theorem namedN_at (s : ByteArray) (i : Nat) (h1 : 1 ≤ i) (h4 : i ≤ 4) (hb : ∀ j : Nat, 1 ≤ j → j < i → (nameN j == s.toList) = false) (he : (nameN i == s.toList) = true) : namedN s = i := by
  have hb1 : 1 < i → (nameN 1 == s.toList) = false := fun h => hb 1 (by omega) h
  have hb2 : 2 < i → (nameN 2 == s.toList) = false := fun h => hb 2 (by omega) h
  have hb3 : 3 < i → (nameN 3 == s.toList) = false := fun h => hb 3 (by omega) h
  unfold namedN
  obtain rfl | rfl | rfl | rfl : i = 1 ∨ i = 2 ∨ i = 3 ∨ i = 4 := by omega
  · exact if_pos he
  · rw [if_neg (ne_true_of_eq_false (hb1 (by omega)))]; exact if_pos he
  · rw [if_neg (ne_true_of_eq_false (hb1 (by omega))), if_neg (ne_true_of_eq_false (hb2 (by omega)))]; exact if_pos he
  · rw [if_neg (ne_true_of_eq_false (hb1 (by omega))), if_neg (ne_true_of_eq_false (hb2 (by omega))), if_neg (ne_true_of_eq_false (hb3 (by omega)))]; exact if_pos he
theorem namedN_no (s : ByteArray) (hb : ∀ j : Nat, 1 ≤ j → j < 5 → (nameN j == s.toList) = false) : namedN s = 0 := by
  have hb1 : (nameN 1 == s.toList) = false := hb 1 (by omega) (by omega)
  have hb2 : (nameN 2 == s.toList) = false := hb 2 (by omega) (by omega)
  have hb3 : (nameN 3 == s.toList) = false := hb 3 (by omega) (by omega)
  have hb4 : (nameN 4 == s.toList) = false := hb 4 (by omega) (by omega)
  unfold namedN
  rw [if_neg (ne_true_of_eq_false hb1), if_neg (ne_true_of_eq_false hb2), if_neg (ne_true_of_eq_false hb3), if_neg (ne_true_of_eq_false hb4)]
set_option maxHeartbeats 1000000 in
theorem named_any (s : ByteArray) (W : World) (hm : Hid (Sizes W)) (hp : Hid (Pows W)) : Calls Tryd.prog 17 #[.string s] W fun e W' =>
    e = .returned (.int .i64 (namedN s)) ∧ Ext Nope W W' := by
  go_enter Tryd.func17, Tryd.ntmps17
  go_wp2_with fail
  go_loopw [3] (fun vi V => ∃ i : Nat, 1 ≤ i ∧ i ≤ 5 ∧ vi = .int .i64 i ∧ (∀ j : Nat, 1 ≤ j → j < i → (nameN j == s.toList) = false) ∧ Ext Nope W V) (fun i _ => 5 - (intOf i).toNat)
  case atStart => exact ⟨1, by omega, by omega, rfl, fun j h1 h2 => by omega, Ext.refl _ _⟩
  case round =>
    obtain ⟨i, h1, h5, rfl, hbe, hx⟩ := hrel
    have HBE := Lib.hid hbe
    have HX := Lib.hid hx
    have HM : Hid (Sizes wr) := hm.out.ext hx (fun h => h)
    have HP : Hid (Pows wr) := hp.out.ext hx
    clear hbe hx
    by_cases hlt : i ≤ 4
    · have hltI : (i : Int) ≤ 4 := by omega
      go_wp2_with fail
      refine (name_nat i h1 hlt wr HM HP).mono ?_
      rintro e w2 ⟨rfl, hx2⟩
      have HX2 : Hid (Ext Nope W w2) := HX.out.trans hx2 (fun _ _ h => h) (fun _ _ h => h)
      clear hx2
      cases heq : (nameN i == s.toList)
      · go_wp2_with fail
        exact ⟨⟨i + 1, by omega, by omega, by congr 1, fun j hj1 hj2 => by
          by_cases h : j = i
          · subst h; exact heq
          · exact HBE.out j hj1 (by omega), HX2.out⟩, by simp [intOf]; omega⟩
      · go_wp2_with fail
        go_ret
        exact ⟨by rw [namedN_at s i h1 hlt HBE.out heq]; rfl, HX2.out⟩
    · obtain rfl : i = 5 := by omega
      go_wp2_with fail
      go_ret
      exact ⟨by rw [namedN_no s HBE.out]; rfl, HX.out⟩
end Go.Proofs.YtjfcldjepgijeaaDoor
