/- Proved: postmark's law MaskBegins returns true for every input, and each argument reads afterwards as it read before. Conditions: none beyond the card's own (the package variables that the row lists hold what the program's text gives them). -/
import Derived.Test.YtjfcldjepgijeaaDoorR8
import Derived.Test.YtjfcldjepgijeaaDoorMb
import Derived.Test.YtjfcldjepgijeaaDoorCards
namespace Go.Proofs.YtjfcldjepgijeaaDoor
open Go.ChangeShapes Go.WideShapes Go.ChangeAt Go.RowKit

set_option maxRecDepth 100000 in
theorem maskBegins_lifted (os : Os) (started : os.Started) (H : Type) (enc : TypeId × Value → H) :
    ReturnsInHanded {} Tryd.checked os 5 .any (fun w args => (Rows.maskBeginsSpec.pre enc Tryd.prog Tryd.f5 [] false w args ∧ laidMetH Tryd.prog laidL w) ∧ sizedMet enc Tryd.prog Tryd.f5 (OpenSpec.ofChange Rows.maskBeginsSpec) false w args)
      (Rows.maskBeginsSpec.post enc Tryd.prog Tryd.f5 false true false false) := by
  refine law_lifted (C := Tryd.checked) (laid := laidL) (tb := 4) own started (by kernel_rfl) Tryd.func5
    (ChangeSpec.witness_shaped (enc := enc) (C := Tryd.checked) (os := os) (X := fun w _ => laidMetH Tryd.prog laidL w) false (World.laidAll Tryd.prog os laidL) #[.int .u8 0, .slice none 0 0, .int .u16 0, .int .u16 0] 8 (World.laidAll_os _ _ _)
      (World.shaped_of_ZipB (by kernel_rfl) (by kernel_rfl)) (by kernel_rfl) (by kernel_rfl) (by kernel_rfl)
      (by rw [MakeChecks.laidMetH_plain _ _ _ (by kernel_rfl)]; exact laidMet_laidAll _ (by kernel_rfl) (by kernel_rfl)))
    (by kernel_rfl) (by kernel_rfl) rfl (by kernel_rfl) Tryd.underlying4 ?_ ?_
  · intro ds hds
    match ds, hds with
    | [d0, d1, d2, d3], _ => rfl
  · intro W base args ds ps hval hA hL
    have hA' : DataW.TrodAll enc Tryd.prog W 0 (fun _ => true) true Tryd.f5.params.toList args.toList ds ps := hA
    have hval' : ∀ (j : Nat) t v, Tryd.f5.params[j]? = some t → args[j]? = some v → Value.okWide Tryd.prog W .any base t v := hval
    rw [Tryd.params5] at hA' hval'
    obtain ⟨v0, v1, v2, v3, d0, d1, d2, d3, p0, p1, p2, p3, rfl, rfl, rfl, g0, g1, g2, g3⟩ := trodAll_four hA'
    obtain ⟨z0, rfl, rfl, rfl, hz0⟩ := open_int Tryd.underlying5 (hval' 0 _ _ rfl rfl) g0
    obtain ⟨a1, n1, c1, l1, rfl, hh1, hn1⟩ := open_bytes Tryd.underlying23 Tryd.underlying5 (by kernel_rfl) (hval' 1 _ _ rfl rfl) g1
    obtain ⟨z2, rfl, rfl, rfl, hz2⟩ := open_int Tryd.underlying39 (hval' 2 _ _ rfl rfl) g2
    obtain ⟨z3, rfl, rfl, rfl, hz3⟩ := open_int Tryd.underlying39 (hval' 3 _ _ rfl rfl) g3
    have e1 : IntKind.u16.min = 0 := rfl
    have e2 : IntKind.u16.max = 65535 := rfl
    have e3 : IntKind.u8.min = 0 := rfl
    have e4 : IntKind.u8.max = 255 := rfl
    simp only [Lit.wf, e1, e2, e3, e4, Bool.and_eq_true, decide_eq_true_eq] at hz0 hz2 hz3
    obtain ⟨x2, rfl⟩ := Int.eq_ofNat_of_zero_le hz2.1
    obtain ⟨x3, rfl⟩ := Int.eq_ofNat_of_zero_le hz3.1
    exact begins8 z0 hz0.1 hz0.2 a1 n1 c1 l1 x2 x3 (by have := hz2.2; omega) (by have := hz3.2; omega) W (laid8_laid hL) hh1 hn1

theorem maskBegins_row : Rows.MaskBeginsSaid :=
  OpenClaim.holds_of_wide 5 Tryd.f5 rfl rfl rfl rfl rfl rfl rfl ⟨rfl, rfl, rfl, rfl, rfl⟩ rfl rfl rfl rfl rfl (by kernel_rfl) Tryd.func5 (by kernel_rfl)
    (of_decide_eq_true (by kernel_rfl)) (by unfold Func.isWrapper; first | (rw [if_pos (by decide +kernel)]; kernel_rfl) | (rw [if_neg (by decide +kernel)]; exact ⟨rfl, rfl⟩))
    (fun os started H enc _ => maskBegins_lifted os started H enc)
theorem maskBegins_card : Rows.MaskBeginsCardSaid :=
  Claim7.holds_tied_plain_at .later [] (laidL.map fun _ => .data) true (true, "2567d9bd8d8694cff0d73e00d5989f40e088b1f7b8ea74a393e5d511bac5076a") false maskBegins_row (fun _ h => by cases h) (by kernel_rfl) (fun _ h => by cases h) maskBegins_row_tie rfl ⟨rfl, rfl⟩ (by kernel_rfl) rfl
    (fun f fn hf hfn => by
      obtain rfl : f = 5 := Option.some.inj ((show Tryd.prog.funcNamed "postmark/postmarklaw08.MaskBegins" = some 5 by kernel_rfl).symm.trans hf) |>.symm
      obtain rfl : fn = Tryd.f5 := (Option.some.inj (Tryd.func5.symm.trans hfn)).symm
      exact ⟨by kernel_rfl, fun j t ht => by
        rw [Tryd.params5] at ht
        have hall : (Tryd.prog.wantsStandIn t) = false := by
          have hm : t ∈ [5, 23, 39, 39] := by simpa using Array.mem_of_getElem? ht
          have hall : ([5, 23, 39, 39].all fun u => !Tryd.prog.wantsStandIn u) = true := by kernel_rfl
          simpa using List.all_eq_true.1 hall t hm
        exact hall⟩)
    (by kernel_rfl)
#print axioms maskBegins_card
end Go.Proofs.YtjfcldjepgijeaaDoor
