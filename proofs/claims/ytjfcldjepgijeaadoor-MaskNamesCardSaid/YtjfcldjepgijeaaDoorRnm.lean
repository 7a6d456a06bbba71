/- Proved: postmark's law MaskNames returns true for every input, and each argument reads afterwards as it read before. Conditions: none beyond the card's own (the package variables that the row lists hold what the program's text gives them). -/
import Derived.Test.YtjfcldjepgijeaaDoorR8
import Derived.Test.YtjfcldjepgijeaaDoorNm
import Derived.Test.YtjfcldjepgijeaaDoorCards
namespace Go.Proofs.YtjfcldjepgijeaaDoor
open Go.ChangeShapes Go.WideShapes Go.ChangeAt Go.RowKit

set_option maxRecDepth 100000 in
theorem maskNames_lifted (os : Os) (started : os.Started) (H : Type) (enc : TypeId × Value → H) :
    ReturnsInHanded {} Tryd.checked os 7 .any (fun w args => (Rows.maskNamesSpec.pre enc Tryd.prog Tryd.f7 [] false w args ∧ laidMetH Tryd.prog laidL w) ∧ sizedMet enc Tryd.prog Tryd.f7 (OpenSpec.ofChange Rows.maskNamesSpec) false w args)
      (Rows.maskNamesSpec.post enc Tryd.prog Tryd.f7 false true false false) := by
  refine law_lifted (C := Tryd.checked) (laid := laidL) (tb := 4) own started (by kernel_rfl) Tryd.func7
    (ChangeSpec.witness_shaped (enc := enc) (C := Tryd.checked) (os := os) (X := fun w _ => laidMetH Tryd.prog laidL w) false (World.laidAll Tryd.prog os laidL) #[] 8 (World.laidAll_os _ _ _)
      (World.shaped_of_ZipB (by kernel_rfl) (by kernel_rfl)) (by kernel_rfl) (by kernel_rfl) (by kernel_rfl)
      (by rw [MakeChecks.laidMetH_plain _ _ _ (by kernel_rfl)]; exact laidMet_laidAll _ (by kernel_rfl) (by kernel_rfl)))
    (by kernel_rfl) (by kernel_rfl) rfl (by kernel_rfl) Tryd.underlying4 ?_ ?_
  · intro ds hds
    match ds, hds with
    | [], _ => rfl
  · intro W base args ds ps hval hA hL
    have hA' : DataW.TrodAll enc Tryd.prog W 0 (fun _ => true) true Tryd.f7.params.toList args.toList ds ps := hA
    have hval' : ∀ (j : Nat) t v, Tryd.f7.params[j]? = some t → args[j]? = some v → Value.okWide Tryd.prog W .any base t v := hval
    rw [Tryd.params7] at hA' hval'
    obtain ⟨rfl, rfl, rfl⟩ := trodAll_none hA'
    exact names8 W (laid8_laid hL) 

theorem maskNames_row : Rows.MaskNamesSaid :=
  OpenClaim.holds_of_wide 7 Tryd.f7 rfl rfl rfl rfl rfl rfl rfl ⟨rfl, rfl, rfl, rfl, rfl⟩ rfl rfl rfl rfl rfl (by kernel_rfl) Tryd.func7 (by kernel_rfl)
    (of_decide_eq_true (by kernel_rfl)) (by unfold Func.isWrapper; first | (rw [if_pos (by decide +kernel)]; kernel_rfl) | (rw [if_neg (by decide +kernel)]; exact ⟨rfl, rfl⟩))
    (fun os started H enc _ => maskNames_lifted os started H enc)
theorem maskNames_card : Rows.MaskNamesCardSaid :=
  Claim7.holds_tied_plain_at .later [] (laidL.map fun _ => .data) true (true, "2567d9bd8d8694cff0d73e00d5989f40e088b1f7b8ea74a393e5d511bac5076a") false maskNames_row (fun _ h => by cases h) (by kernel_rfl) (fun _ h => by cases h) maskNames_row_tie rfl ⟨rfl, rfl⟩ (by kernel_rfl) rfl
    (fun f fn hf hfn => by
      obtain rfl : f = 7 := Option.some.inj ((show Tryd.prog.funcNamed "postmark/postmarklaw08.MaskNames" = some 7 by kernel_rfl).symm.trans hf) |>.symm
      obtain rfl : fn = Tryd.f7 := (Option.some.inj (Tryd.func7.symm.trans hfn)).symm
      exact ⟨by kernel_rfl, fun j t ht => by
        rw [Tryd.params7] at ht
        have hall : (Tryd.prog.wantsStandIn t) = false := by
          simp at ht
        exact hall⟩)
    (by kernel_rfl)
#print axioms maskNames_card
end Go.Proofs.YtjfcldjepgijeaaDoor
