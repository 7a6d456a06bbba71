/- The reference's first primes. -/
import Derived.Test.YtcjcnpjedmpghaaDoorFg
import Derived.Test.YtcjcnpjedmpghaaDoorSlb
namespace Go.Proofs.YtcjcnpjedmpghaaDoor
open Go.RowKit

def iv (l : List Nat) : List Value := l.map fun (x : Nat) => Value.int .i64 x
theorem iv_length (l : List Nat) : (iv l).length = l.length := by simp [iv]

theorem infoI : (Tryd.prog.info? 3).map (fun i => (i.zero, i.size, i.bytes)) = some (some (.int .i64 0), 1, 8) := by kernel_rfl
theorem below_two : below 2 = [] := by decide

theorem owns_form {w : World} {base e n : Nat} {v : Value} {xs : List Value} (h : w.ownsRow base e 1 v n xs) : ∃ ac cc, v = .slice ac n cc := by
  rcases h.2 with ⟨e1, e0⟩ | ⟨g, cap, cur, e1, _⟩
  · exact ⟨none, 0, by rw [e1, e0]⟩
  · exact ⟨_, _, e1⟩
def FirstPost (W : World) (n : Nat) (e : Ending) (W' : World) : Prop :=
  ∃ v, e = .returned (.tuple #[v, .int .i64 0]) ∧ W'.ownsRow W.heap.size 3 1 v n (iv (primesL.take n)) ∧ Ext Nope W W'

set_option maxHeartbeats 1000000 in
set_option maxRecDepth 100000 in
theorem first_any (n : Nat) (hn : n ≤ 80) (hn0 : 0 < n) (W : World) : Calls Tryd.prog 18 #[.int .i64 n] W (FirstPost W n) := by
  obtain ⟨i, hi, hz0, hz1, hz2⟩ := info_parts infoI
  have hneg : ¬ ((n : Int) < 0) := by omega
  have hbig : ¬ ((1000 : Int) < (n : Int)) := by omega
  go_enter Tryd.func18, Tryd.ntmps18
  go_wp2_with fail
  go_loopw [4, 5] (fun vo vk V => ∃ k : Nat, vk = .int .i64 k ∧ 2 ≤ k ∧ (below k).length ≤ n ∧ V.ownsRow W.heap.size 3 1 vo (below k).length (iv (below k)) ∧ Ext Nope W V) (fun _ vk _ => 500 - (intOf vk).toNat)
  case atStart => exact ⟨2, rfl, by omega, by rw [below_two]; simp, by rw [below_two]; exact ⟨rfl, .inl ⟨rfl, rfl⟩⟩, Ext.refl _ _⟩
  case round =>
    obtain ⟨k, rfl, hk2, hkn, hown, hx⟩ := hrel
    have HOWN := Lib.hid hown
    have HX := Lib.hid hx
    have hk : (below k).length < n → k < 410 := fun h => by
      rcases Nat.lt_or_ge k 410 with h' | h'
      · exact h'
      · have := below_len k h'; omega
    have HK := Lib.hid hk
    obtain ⟨ac, cc, rfl⟩ := owns_form hown
    obtain ⟨m, hm⟩ : ∃ m, (below k).length = m := ⟨_, rfl⟩
    rw [hm] at HOWN HK hkn ⊢
    have HM := Lib.hid hm
    clear hown hx hk hm
    by_cases hlt : m < n
    · have hltI : (m : Int) < (n : Int) := by omega
      have hk4 := HK.out hlt
      go_wp2_with fail
      refine (prime_any k (by omega) wr).mono ?_
      rintro e w' ⟨rfl, rfl⟩
      have hbs := below_succ k
      cases hp : pN k with
      | false =>
        rw [hp] at hbs
        simp only [Bool.false_eq_true, if_false, List.append_nil] at hbs
        have HBS := Lib.hid hbs
        clear hbs hp
        go_wp2_with fail
        exact ⟨⟨k + 1, by congr 1, by omega, by rw [HBS.out, HM.out]; exact hkn, by rw [HBS.out, HM.out]; exact HOWN.out, HX.out⟩, by simp [intOf]; omega⟩
      | true =>
        rw [hp] at hbs
        simp only [if_true] at hbs
        have HBS := Lib.hid hbs
        clear hbs hp
        have HO2 := Lib.hid (HOWN.out.alloc (.cells #[.int .i64 (k : Int)] 3))
        go_wp2_with (at_builtin; refine wpList_append_own _ rfl (.tmp 22) (.tmp 24) 47 rfl W.heap.size 3 i (.int .i64 0) 1 8 Tryd.underlying47 hi hz0 hz1 hz2 rfl (by decide) _ _ _ rfl HO2.out ⟨wr.heap.size, 0, none⟩ 1 1 [.int .i64 k] rfl rfl ?c1 ?c2 ?c3 ?c4 ?c5 ?_)
        case c1 =>
          intro j u hj
          match j, hj with
          | 0, hj => simp at hj; subst hj; simp [Addr.add]
        case c2 => intro u hu; simp at hu; subst hu; rfl
        case c3 => unfold maxLen; omega
        case c4 => omega
        case c5 => have := HX.out.size; simp; omega
        intro v2 w2 ho2 hg2 _
        have HO3 := Lib.hid ho2
        have HX3 : Hid (Ext Nope W w2) := (HX.out.trans (Ext.alloc Nope _ _) (fun _ _ h => h) (fun _ _ h => h)).trans (Ext.grownBy (D := fun c => W.heap.size ≤ c) hg2 (fun b hb => (HO2.out.lt b hb).1)) (fun _ _ h => h) (fun j hj h => by have : W.heap.size ≤ j := h; omega)
        clear ho2 hg2
        go_wp2_with fail
        refine ⟨⟨k + 1, by congr 1, by omega, ?_, ?_, HX3.out⟩, by simp [intOf]; omega⟩
        · rw [HBS.out, List.length_append, HM.out]; exact hlt
        · have e : iv (below (k + 1)) = iv (below k) ++ [.int .i64 (k : Int)] := by rw [HBS.out]; simp [iv]
          rw [e, HBS.out, List.length_append, HM.out]; exact HO3.out
    · have hltI : ¬ ((m : Int) < (n : Int)) := by omega
      have hmn : m = n := by omega
      have HMN := Lib.hid hmn
      clear hmn
      go_wp2_with fail
      go_ret2
      refine ⟨_, rfl, ?_, HX.out⟩
      have hpre : below k = primesL.take n := by
        rw [← below_410]
        have hpf : ∀ q, k ≤ q → below k = (below q).take n := fun q hq => by
          induction q with
          | zero =>
            obtain rfl : k = 0 := by omega
            have := HM.out; have h0 : below 0 = [] := rfl
            rw [h0]; simp
          | succ q ih =>
            by_cases e : k = q + 1
            · rw [← e, List.take_of_length_le (by rw [HM.out, HMN.out]; exact Nat.le_refl _)]
            · have h1 := ih (by omega)
              have h2 : n ≤ (below q).length := by
                have h3 := congrArg List.length h1
                rw [HM.out, HMN.out, List.length_take] at h3; omega
              rw [below_succ, List.take_append_of_le_length h2]
              exact h1
        rcases Nat.le_total k 410 with h | h
        · exact hpf 410 h
        · have hpg : ∀ q, 410 ≤ q → (below q).take n = (below 410).take n := fun q hq => by
            induction q with
            | zero => omega
            | succ q ih =>
              by_cases e : q + 1 = 410
              · rw [e]
              · rw [below_succ, List.take_append_of_le_length (by have := below_len q (by omega); omega)]
                exact ih (by omega)
          rw [← hpg k h, List.take_of_length_le (by rw [HM.out, HMN.out]; exact Nat.le_refl _)]
      rw [← hpre]
      obtain rfl := HMN.out
      exact HOWN.out
end Go.Proofs.YtcjcnpjedmpghaaDoor
