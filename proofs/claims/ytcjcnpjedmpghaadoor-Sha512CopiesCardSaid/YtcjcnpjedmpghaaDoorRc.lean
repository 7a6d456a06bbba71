/- Proved: postmark's law Sha512Copies returns true for every input, and each argument reads afterwards as it read before. Conditions: none beyond the card's own (the package variables that the row lists hold what the program's text gives them). -/
import Derived.Test.YtcjcnpjedmpghaaDoorR0
import Derived.Test.YtcjcnpjedmpghaaDoorLc
import Derived.Test.YtcjcnpjedmpghaaDoorCards
namespace Go.Proofs.YtcjcnpjedmpghaaDoor
open Go.ChangeShapes Go.WideShapes Go.ChangeAt Go.RowKit

set_option maxRecDepth 100000 in
theorem sha512Copies_lifted (os : Os) (started : os.Started) (H : Type) (enc : TypeId × Value → H) :
    ReturnsInHanded {} Tryd.checked os 6 .any (fun w args => (Rows.sha512CopiesSpec.pre enc Tryd.prog Tryd.f6 [] false w args ∧ laidMetH Tryd.prog laidL w) ∧ sizedMet enc Tryd.prog Tryd.f6 (OpenSpec.ofChange Rows.sha512CopiesSpec) false w args)
      (Rows.sha512CopiesSpec.post enc Tryd.prog Tryd.f6 false true false false) := by
  refine law_lifted (C := Tryd.checked) (laid := laidL) (tb := 4) own started (by kernel_rfl) Tryd.func6
    (ChangeSpec.witness_shaped (enc := enc) (C := Tryd.checked) (os := os) (X := fun w _ => laidMetH Tryd.prog laidL w) false (World.laidAll Tryd.prog os laidL) #[.bool false, .slice none 0 0, .slice none 0 0, .slice none 0 0] 8 (World.laidAll_os _ _ _)
      (World.shaped_of_ZipB (by kernel_rfl) (by kernel_rfl)) (by kernel_rfl) (by kernel_rfl) (by kernel_rfl)
      (by rw [MakeChecks.laidMetH_plain _ _ _ (by kernel_rfl)]; exact laidMet_laidAll _ (by kernel_rfl) (by kernel_rfl)))
    (by kernel_rfl) (by kernel_rfl) rfl (by kernel_rfl) Tryd.underlying4 ?_ ?_
  · intro ds hds
    match ds, hds with
    | [d0, d1, d2, d3], _ => rfl
  · intro W base args ds ps hval hA hL
    have hA' : DataW.TrodAll enc Tryd.prog W 0 (fun _ => true) true Tryd.f6.params.toList args.toList ds ps := hA
    have hval' : ∀ (j : Nat) t v, Tryd.f6.params[j]? = some t → args[j]? = some v → Value.okWide Tryd.prog W .any base t v := hval
    rw [Tryd.params6] at hA' hval'
    obtain ⟨v0, v1, v2, v3, d0, d1, d2, d3, p0, p1, p2, p3, rfl, rfl, rfl, g0, g1, g2, g3⟩ := trodAll_four hA'
    obtain ⟨b0, rfl, rfl, rfl⟩ := open_bool Tryd.underlying4 (hval' 0 _ _ rfl rfl) g0
    obtain ⟨a1, n1, c1, l1, rfl, hh1, hn1⟩ := open_bytes Tryd.underlying23 Tryd.underlying5 (by kernel_rfl) (hval' 1 _ _ rfl rfl) g1
    obtain ⟨a2, n2, c2, l2, rfl, hh2, hn2⟩ := open_bytes Tryd.underlying23 Tryd.underlying5 (by kernel_rfl) (hval' 2 _ _ rfl rfl) g2
    obtain ⟨a3, n3, c3, l3, rfl, hh3, hn3⟩ := open_bytes Tryd.underlying23 Tryd.underlying5 (by kernel_rfl) (hval' 3 _ _ rfl rfl) g3
    exact copies_law b0 a1 n1 c1 l1 a2 n2 c2 l2 a3 n3 c3 l3 W (squares_laid hL) (cubes_laid hL) hh1 hn1 hh2 hn2 hh3 hn3

theorem sha512Copies_row : Rows.Sha512CopiesSaid :=
  OpenClaim.holds_of_wide 6 Tryd.f6 rfl rfl rfl rfl rfl rfl rfl ⟨rfl, rfl, rfl, rfl, rfl⟩ rfl rfl rfl rfl rfl (by kernel_rfl) Tryd.func6 (by kernel_rfl)
    (of_decide_eq_true (by kernel_rfl)) (by unfold Func.isWrapper; first | (rw [if_pos (by decide +kernel)]; kernel_rfl) | (rw [if_neg (by decide +kernel)]; exact ⟨rfl, rfl⟩))
    (fun os started H enc _ => sha512Copies_lifted os started H enc)
theorem sha512Copies_card : Rows.Sha512CopiesCardSaid :=
  Claim7.holds_tied_plain_at .later [] (laidL.map fun _ => .data) true (true, "b426a627295f4174cbb65139e61c57b919603db9a39ba4dfb23768827b6eb701") false sha512Copies_row (fun _ h => by cases h) (by kernel_rfl) (fun _ h => by cases h) sha512Copies_row_tie rfl ⟨rfl, rfl⟩ (by kernel_rfl) rfl
    (fun f fn hf hfn => by
      obtain rfl : f = 6 := Option.some.inj ((show Tryd.prog.funcNamed "postmark/postmarklaw05.Sha512Copies" = some 6 by kernel_rfl).symm.trans hf) |>.symm
      obtain rfl : fn = Tryd.f6 := (Option.some.inj (Tryd.func6.symm.trans hfn)).symm
      exact ⟨by kernel_rfl, fun j t ht => by
        rw [Tryd.params6] at ht
        have hall : (Tryd.prog.wantsStandIn t) = false := by
          have hm : t ∈ [4, 23, 23, 23] := by simpa using Array.mem_of_getElem? ht
          have hall : ([4, 23, 23, 23].all fun u => !Tryd.prog.wantsStandIn u) = true := by kernel_rfl
          simpa using List.all_eq_true.1 hall t hm
        exact hall⟩)
    (by kernel_rfl)
#print axioms sha512Copies_card
end Go.Proofs.YtcjcnpjedmpghaaDoor
