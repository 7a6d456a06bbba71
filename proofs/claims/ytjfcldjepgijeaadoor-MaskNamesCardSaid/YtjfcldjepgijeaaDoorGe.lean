/- slices.Grow of nothing, slices.Concat of bytes. -/
import Derived.Test.YtjfcldjepgijeaaDoorMz
import Derived.Test.YtjfcldjepgijeaaDoorSlb
namespace Go.Proofs.YtjfcldjepgijeaaDoor
open Go.RowKit

theorem cat_next {L : List (List (BitVec 8))} {i : Nat} {li : List (BitVec 8)} (h : L[i]? = some li) : (L.take (i + 1)).flatten = (L.take i).flatten ++ li := by
  rw [List.take_add_one, h]; simp
theorem cat_le (L : List (List (BitVec 8))) (i : Nat) : (L.take i).flatten.length ≤ L.flatten.length := by
  conv => rhs; rw [← List.take_append_drop i L, List.flatten_append, List.length_append]
  omega
theorem owns_slice {w : World} {base e n : Nat} {v : Value} {xs : List Value} (h : w.ownsRow base e 1 v n xs) : ∃ ac cc, v = .slice ac n cc := by
  rcases h.2 with ⟨e1, e0⟩ | ⟨g, cap, cur, e1, _⟩
  · exact ⟨none, 0, by rw [e1, e0]⟩
  · exact ⟨_, _, e1⟩
theorem owns_none {W : World} {base e n cap : Nat} {a : Option Addr} {xs : List Value} (h : W.ownsRow base e 1 (.slice a n cap) n xs) : W.ownsRow base e 1 (.slice a 0 cap) 0 [] ∧ n ≤ cap := by
  rcases h.2 with ⟨e1, e0⟩ | ⟨g, cap', cur, e1, hb, hg, hc, hm, hcs, _⟩
  · simp at e1; obtain ⟨rfl, rfl, rfl⟩ := e1; exact ⟨⟨rfl, .inl ⟨rfl, rfl⟩⟩, Nat.le_refl _⟩
  · simp at e1; obtain ⟨rfl, rfl⟩ := e1
    exact ⟨⟨rfl, .inr ⟨g, cap, cur, rfl, hb, hg, Nat.zero_le _, hm, hcs, by simp⟩⟩, hc⟩

set_option maxHeartbeats 1000000 in
theorem grow_any (m : Nat) (hm : m ≤ 1000000000) (W : World) :
    Calls Tryd.prog 50 #[.slice none 0 0, .int .i64 m] W fun e W' => ∃ v, e = .returned v ∧ W'.ownsRow W.heap.size 5 1 v 0 (bv []) ∧ Ext Nope W W' := by
  obtain ⟨i0, hi0, hzi, hszi, hby⟩ := info_parts Tryd.infoB
  have h0 : ¬ ((m : Int) < 0) := by omega
  go_enter Tryd.func50, Tryd.ntmps50
  by_cases hp : 0 < m
  · have hpI : (0 : Int) < m := by omega
    have HO0 : Hid (W.ownsRow W.heap.size 5 1 (.slice none 0 0) 0 (bv [])) := ⟨rfl, .inl ⟨rfl, rfl⟩⟩
    go_wp2_with (at_builtin; refine wpList_append_z rfl (.tmp 20) (.tmp 21) _ _ _ rfl Tryd.uB Tryd.underlying3 hi0 hzi hszi hby W.heap.size m rfl HO0.out rfl rfl (by simp; omega) (Nat.le_refl _) ?_)
    intro v1 w1 ho1 hg1 _
    have HX1 : Hid (Ext Nope W w1) := (Ext.grownBy (D := fun c => W.heap.size ≤ c) hg1 (fun b hb => (HO0.out.lt b hb).1)).mono (fun j hj h => by have : W.heap.size ≤ j := h; omega)
    obtain ⟨a1, c1, rfl⟩ := owns_slice ho1
    obtain ⟨hn1, hc1⟩ := owns_none ho1
    have HN1 := Lib.hid hn1
    clear ho1 hg1 hn1
    go_wp2_with fail
    go_ret
    exact ⟨_, rfl, HN1.out, HX1.out⟩
  · obtain rfl : m = 0 := by omega
    have hpI : ¬ ((0 : Int) < ((0 : Nat) : Int)) := by omega
    go_wp2_with fail
    go_ret
    exact ⟨_, rfl, ⟨rfl, .inl ⟨rfl, rfl⟩⟩, Ext.refl _ _⟩

set_option maxHeartbeats 2000000 in
theorem concat_any {p : Nat → Prop} (B n : Nat) (L : List (List (BitVec 8))) (W : World) (hn : Hid (L.length = n)) (hn1 : n ≤ 1000)
    (hL : Hid (∀ (i : Nat) (li : List (BitVec 8)), L[i]? = some li → ∃ ai ci, W.cell? ⟨B, i, none⟩ = some (.slice ai li.length ci) ∧ Holds p W ai ci li)) (hb : L.flatten.length ≤ 1000000000) :
    Calls Tryd.prog 30 #[.slice (some ⟨B, 0, none⟩) n n] W fun e W' => ∃ v, e = .returned v ∧ W'.ownsRow W.heap.size 5 1 v L.flatten.length (bv L.flatten) ∧ Ext Nope W W' := by
  obtain ⟨i0, hi0, hzi, hszi, hby⟩ := info_parts Tryd.infoB
  go_enter Tryd.func30, Tryd.ntmps30
  go_wp2_with fail
  go_loop [3, 11] (fun vs vi => ∃ (i k : Nat), i ≤ n ∧ vi = .int .i64 i ∧ vs = .int .i64 k ∧ k = (L.take i).flatten.length) (fun _ vi => n - (intOf vi).toNat)
  case atStart => exact ⟨0, 0, by omega, rfl, rfl, by simp⟩
  case round =>
    obtain ⟨i, k, hi, rfl, rfl, hk⟩ := hrel
    have HK := Lib.hid hk
    have hkb : k ≤ 1000000000 := by rw [hk]; exact Nat.le_trans (cat_le L i) hb
    clear hk
    by_cases hlt : i < n
    · have hltI : (i : Int) < n := by omega
      obtain ⟨li, hli⟩ : ∃ li, L[i]? = some li := ⟨_, List.getElem?_eq_getElem (by rw [hn.out]; exact hlt)⟩
      obtain ⟨ai, ci, hcell, hh⟩ := hL.out i li hli
      have HN := Lib.hid (cat_next hli)
      have hqb : (L.take (i + 1)).flatten.length ≤ 1000000000 := Nat.le_trans (cat_le L _) hb
      rw [HN.out, List.length_append, ← HK.out] at hqb
      obtain ⟨q, hq⟩ : ∃ q, li.length = q := ⟨_, rfl⟩
      have HQ := Lib.hid hq
      rw [hq] at hcell hqb
      have h0 : ¬ ((k : Int) + (q : Int) < 0) := by omega
      clear hli hh hq
      go_wp2_with fail
      exact ⟨⟨i + 1, k + q, by omega, by congr 1, by congr 1, by rw [HN.out, List.length_append, ← HK.out, HQ.out]⟩, by simp [intOf]; omega⟩
    · obtain rfl : n = i := by omega
      have hltI : ¬ ((n : Int) < n) := by omega
      rw [List.take_of_length_le (by rw [hn.out]; exact Nat.le_refl _)] at HK
      go_wp2_with fail
      refine (grow_any k hkb W).mono ?_
      rintro e w1 ⟨v1, rfl, ho1, hx1⟩
      have HO1 := Lib.hid ho1
      have HX1 := Lib.hid hx1
      clear ho1 hx1
      go_wp2_with fail
      go_loopw [6, 27] (fun vo vi V => ∃ (i m : Nat) (X : List (BitVec 8)), i ≤ n ∧ vi = .int .i64 i ∧ X = (L.take i).flatten ∧ m = X.length ∧ V.ownsRow W.heap.size 5 1 vo m (bv X) ∧ Ext Nope W V) (fun _ i _ => n - (intOf i).toNat)
      case atStart => exact ⟨0, 0, [], by omega, rfl, by simp, rfl, HO1.out, HX1.out⟩
      case round =>
        obtain ⟨i, m, X, hi, rfl, hX, hm, hown, hx⟩ := hrel
        have HX := Lib.hid hX
        have HM := Lib.hid hm
        have HOWN := Lib.hid hown
        have HE := Lib.hid hx
        obtain ⟨ao, co, rfl⟩ := owns_slice hown
        clear hX hown hx hm
        by_cases hlt : i < n
        · have hltI : (i : Int) < n := by omega
          obtain ⟨li, hli⟩ : ∃ li, L[i]? = some li := ⟨_, List.getElem?_eq_getElem (by rw [hn.out]; exact hlt)⟩
          obtain ⟨ai, ci, hcell, hh⟩ := hL.out i li hli
          have hcell := HE.out.cell hcell (fun h => h)
          have HN := Lib.hid (cat_next hli)
          have hqb : (L.take (i + 1)).flatten.length ≤ 1000000000 := Nat.le_trans (cat_le L _) hb
          rw [HN.out, List.length_append, ← HX.out] at hqb
          have HQB := Lib.hid hqb
          have HLI : Hid (Holds p wr ai ci li) := hh.ext HE.out (fun _ _ h => h)
          obtain ⟨q, hq⟩ : ∃ q, li.length = q := ⟨_, rfl⟩
          have HQ := Lib.hid hq
          rw [hq] at hcell
          clear hli hh hq hqb
          go_wp2_with (at_builtin; refine wpList_append_b rfl (.tmp 31) (.tmp 32) _ _ rfl Tryd.uB hi0 hzi hszi hby W.heap.size rfl HOWN.out rfl HLI.out HQ.out ?c1 ?c2 ?_)
          case c1 => have := HQB.out; omega
          case c2 => exact HE.out.size
          intro v3 w3 ho3 hg3 _
          have HO3 := Lib.hid ho3
          have HE3 : Hid (Ext Nope W w3) := HE.out.trans (Ext.grownBy (D := fun c => W.heap.size ≤ c) hg3 (fun b hb => (HOWN.out.lt b hb).1)) (fun _ _ h => h) (fun j hj h => by have : W.heap.size ≤ j := h; omega)
          clear ho3 hg3
          go_wp2_with fail
          exact ⟨⟨i + 1, X.length + li.length, X ++ li, by omega, by congr 1, by rw [HN.out, HX.out], by simp, HO3.out, HE3.out⟩, by simp [intOf]; omega⟩
        · obtain rfl : n = i := by omega
          have hltI : ¬ ((n : Int) < n) := by omega
          rw [List.take_of_length_le (by rw [hn.out]; exact Nat.le_refl _)] at HX
          go_wp2_with fail
          go_ret
          refine ⟨_, rfl, ?_, HE.out⟩
          have e1 : L.flatten.length = m := by rw [HM.out, HX.out]
          have e2 := e1
          rw [List.length_flatten] at e2
          first
            | (rw [e2, ← HX.out]; exact HOWN.out)
            | (rw [e1, ← HX.out]; exact HOWN.out)
end Go.Proofs.YtjfcldjepgijeaaDoor
