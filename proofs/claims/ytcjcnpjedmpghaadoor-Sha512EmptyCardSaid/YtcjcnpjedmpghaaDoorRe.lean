/- Proved: postmark's law Sha512Empty returns true for every input, and each argument reads afterwards as it read before. Conditions: none beyond the card's own (the package variables that the row lists hold what the program's text gives them). -/
import Derived.Test.YtcjcnpjedmpghaaDoorR0
import Derived.Test.YtcjcnpjedmpghaaDoorLa
import Derived.Test.YtcjcnpjedmpghaaDoorCards
namespace Go.Proofs.YtcjcnpjedmpghaaDoor
open Go.ChangeShapes Go.WideShapes Go.ChangeAt Go.RowKit

set_option maxRecDepth 100000 in
theorem sha512Empty_lifted (os : Os) (started : os.Started) (H : Type) (enc : TypeId × Value → H) :
    ReturnsInHanded {} Tryd.checked os 7 .any (fun w args => (Rows.sha512EmptySpec.pre enc Tryd.prog Tryd.f7 [] false w args ∧ laidMetH Tryd.prog laidL w) ∧ sizedMet enc Tryd.prog Tryd.f7 (OpenSpec.ofChange Rows.sha512EmptySpec) false w args)
      (Rows.sha512EmptySpec.post enc Tryd.prog Tryd.f7 false true false false) := by
  refine law_lifted (C := Tryd.checked) (laid := laidL) (tb := 4) own started (by kernel_rfl) Tryd.func7
    (ChangeSpec.witness_shaped (enc := enc) (C := Tryd.checked) (os := os) (X := fun w _ => laidMetH Tryd.prog laidL w) false (World.laidAll Tryd.prog os laidL) #[.bool false, .slice none 0 0, .int .u16 0] 8 (World.laidAll_os _ _ _)
      (World.shaped_of_ZipB (by kernel_rfl) (by kernel_rfl)) (by kernel_rfl) (by kernel_rfl) (by kernel_rfl)
      (by rw [MakeChecks.laidMetH_plain _ _ _ (by kernel_rfl)]; exact laidMet_laidAll _ (by kernel_rfl) (by kernel_rfl)))
    (by kernel_rfl) (by kernel_rfl) rfl (by kernel_rfl) Tryd.underlying4 ?_ ?_
  · intro ds hds
    match ds, hds with
    | [d0, d1, d2], _ => rfl
  · intro W base args ds ps hval hA hL
    have hA' : DataW.TrodAll enc Tryd.prog W 0 (fun _ => true) true Tryd.f7.params.toList args.toList ds ps := hA
    have hval' : ∀ (j : Nat) t v, Tryd.f7.params[j]? = some t → args[j]? = some v → Value.okWide Tryd.prog W .any base t v := hval
    rw [Tryd.params7] at hA' hval'
    obtain ⟨v0, v1, v2, d0, d1, d2, p0, p1, p2, rfl, rfl, rfl, g0, g1, g2⟩ := trodAll_three hA'
    obtain ⟨b0, rfl, rfl, rfl⟩ := open_bool Tryd.underlying4 (hval' 0 _ _ rfl rfl) g0
    obtain ⟨a1, n1, c1, l1, rfl, hh1, hn1⟩ := open_bytes Tryd.underlying23 Tryd.underlying5 (by kernel_rfl) (hval' 1 _ _ rfl rfl) g1
    obtain ⟨z2, rfl, rfl, rfl, hz2⟩ := open_int Tryd.underlying45 (hval' 2 _ _ rfl rfl) g2
    have hb2 : 0 ≤ z2 ∧ z2 ≤ 65535 := by
      have e1 : IntKind.u16.min = 0 := rfl
      have e2 : IntKind.u16.max = 65535 := rfl
      simpa [Lit.wf, e1, e2] using hz2
    exact empty_law b0 a1 n1 c1 l1 z2 hb2.1 (by omega) W (squares_laid hL) (cubes_laid hL) hh1 hn1

theorem sha512Empty_row : Rows.Sha512EmptySaid :=
  OpenClaim.holds_of_wide 7 Tryd.f7 rfl rfl rfl rfl rfl rfl rfl ⟨rfl, rfl, rfl, rfl, rfl⟩ rfl rfl rfl rfl rfl (by kernel_rfl) Tryd.func7 (by kernel_rfl)
    (of_decide_eq_true (by kernel_rfl)) (by unfold Func.isWrapper; first | (rw [if_pos (by decide +kernel)]; kernel_rfl) | (rw [if_neg (by decide +kernel)]; exact ⟨rfl, rfl⟩))
    (fun os started H enc _ => sha512Empty_lifted os started H enc)
theorem sha512Empty_card : Rows.Sha512EmptyCardSaid :=
  Claim7.holds_tied_plain_at .later [] (laidL.map fun _ => .data) true (true, "b426a627295f4174cbb65139e61c57b919603db9a39ba4dfb23768827b6eb701") false sha512Empty_row (fun _ h => by cases h) (by kernel_rfl) (fun _ h => by cases h) sha512Empty_row_tie rfl ⟨rfl, rfl⟩ (by kernel_rfl) rfl
    (fun f fn hf hfn => by
      obtain rfl : f = 7 := Option.some.inj ((show Tryd.prog.funcNamed "postmark/postmarklaw05.Sha512Empty" = some 7 by kernel_rfl).symm.trans hf) |>.symm
      obtain rfl : fn = Tryd.f7 := (Option.some.inj (Tryd.func7.symm.trans hfn)).symm
      exact ⟨by kernel_rfl, fun j t ht => by
        rw [Tryd.params7] at ht
        have hall : (Tryd.prog.wantsStandIn t) = false := by
          have hm : t ∈ [4, 23, 45] := by simpa using Array.mem_of_getElem? ht
          have hall : ([4, 23, 45].all fun u => !Tryd.prog.wantsStandIn u) = true := by kernel_rfl
          simpa using List.all_eq_true.1 hall t hm
        exact hall⟩)
    (by kernel_rfl)
#print axioms sha512Empty_card
end Go.Proofs.YtcjcnpjedmpghaaDoor
