/- Proved: postmark's law MaskApart returns true for every input, and each argument reads afterwards as it read before. Conditions: none beyond the card's own (the package variables that the row lists hold what the program's text gives them). -/
import Derived.Test.YtjfcldjepgijeaaDoorR8
import Derived.Test.YtjfcldjepgijeaaDoorMa
import Derived.Test.YtjfcldjepgijeaaDoorRowS
import Derived.Test.YtjfcldjepgijeaaDoorCards
namespace Go.Proofs.YtjfcldjepgijeaaDoor
open Go.ChangeShapes Go.WideShapes Go.ChangeAt Go.RowKit

set_option maxRecDepth 100000 in
theorem maskApart_lifted (os : Os) (started : os.Started) (H : Type) (enc : TypeId × Value → H) :
    ReturnsInHanded {} Tryd.checked os 6 .any (fun w args => (Rows.maskApartSpec.pre enc Tryd.prog Tryd.f6 [] false w args ∧ laidMetH Tryd.prog laidL w) ∧ sizedMet enc Tryd.prog Tryd.f6 (OpenSpec.ofChange Rows.maskApartSpec) false w args)
      (Rows.maskApartSpec.post enc Tryd.prog Tryd.f6 false true false false) := by
  refine law_sized (C := Tryd.checked) (laid := laidL) (tb := 4) own started (by kernel_rfl) Tryd.func6
    (ChangeSpec.witness_shaped (enc := enc) (C := Tryd.checked) (os := os) (X := fun w _ => laidMetH Tryd.prog laidL w) false (World.laidAll Tryd.prog os laidL) #[.int .u8 0, .int .u8 0, .slice none 0 0, .slice none 0 0, .int .u16 0] 8 (World.laidAll_os _ _ _)
      (World.shaped_of_ZipB (by kernel_rfl) (by kernel_rfl)) (by kernel_rfl) (by kernel_rfl) (by kernel_rfl)
      (by rw [MakeChecks.laidMetH_plain _ _ _ (by kernel_rfl)]; exact laidMet_laidAll _ (by kernel_rfl) (by kernel_rfl)))
    (by kernel_rfl) (by kernel_rfl) rfl (by kernel_rfl) Tryd.underlying4 ?_ ?_
  · intro ds hds
    match ds, hds with
    | [d0, d1, d2, d3, d4], _ => rfl
  · intro W base args ds ps hval hA hL hsz
    have hA' : DataW.TrodAll enc Tryd.prog W 0 (fun _ => true) true Tryd.f6.params.toList args.toList ds ps := hA
    have hval' : ∀ (j : Nat) t v, Tryd.f6.params[j]? = some t → args[j]? = some v → Value.okWide Tryd.prog W .any base t v := hval
    rw [Tryd.params6] at hA' hval'
    rw [Tryd.params6] at hsz
    obtain ⟨v0, vs0, d0, ds0, p0, q0, hargs, rfl, rfl, g0, hr0⟩ := trodAll_cons hA'
    obtain ⟨v1, vs1, d1, ds1, p1, q1, rfl, rfl, rfl, g1, hr1⟩ := trodAll_cons hr0
    obtain ⟨v2, vs2, d2, ds2, p2, q2, rfl, rfl, rfl, g2, hr2⟩ := trodAll_cons hr1
    obtain ⟨v3, vs3, d3, ds3, p3, q3, rfl, rfl, rfl, g3, hr3⟩ := trodAll_cons hr2
    obtain ⟨v4, vs4, d4, ds4, p4, q4, rfl, rfl, rfl, g4, hr4⟩ := trodAll_cons hr3
    obtain ⟨rfl, rfl, rfl⟩ := trodAll_nil hr4
    obtain rfl : args = #[v0, v1, v2, v3, v4] := by cases args; simp at hargs; rw [hargs]
    obtain ⟨z0, rfl, rfl, rfl, hz0⟩ := open_int Tryd.underlying5 (hval' 0 _ _ rfl rfl) g0
    obtain ⟨z1, rfl, rfl, rfl, hz1⟩ := open_int Tryd.underlying5 (hval' 1 _ _ rfl rfl) g1
    obtain ⟨a2, n2, c2, l2, rfl, hh2, hn2⟩ := open_bytes Tryd.underlying23 Tryd.underlying5 (by kernel_rfl) (hval' 2 _ _ rfl rfl) g2
    obtain ⟨a3, n3, c3, l3, rfl, hh3, hn3⟩ := open_bytes Tryd.underlying23 Tryd.underlying5 (by kernel_rfl) (hval' 3 _ _ rfl rfl) g3
    obtain ⟨z4, rfl, rfl, rfl, hz4⟩ := open_int Tryd.underlying39 (hval' 4 _ _ rfl rfl) g4
    have hb2 := bytes_reach Tryd.underlying23 Tryd.underlying5 (by kernel_rfl) (by kernel_rfl) g2 hsz 2 (fun _ => rfl) rfl
    have hb3 := bytes_reach Tryd.underlying23 Tryd.underlying5 (by kernel_rfl) (by kernel_rfl) g3 hsz 3 (fun _ => rfl) rfl
    have e1 : IntKind.u16.min = 0 := rfl
    have e2 : IntKind.u16.max = 65535 := rfl
    have e3 : IntKind.u8.min = 0 := rfl
    have e4 : IntKind.u8.max = 255 := rfl
    simp only [Lit.wf, e1, e2, e3, e4, Bool.and_eq_true, decide_eq_true_eq] at hz0 hz1 hz4
    obtain ⟨x4, rfl⟩ := Int.eq_ofNat_of_zero_le hz4.1
    exact apart8 z0 z1 hz0.1 hz0.2 hz1.1 hz1.2 a2 n2 c2 l2 a3 n3 c3 l3 x4 (by have := hz4.2; omega) W (laid8_laid hL) hh2 hn2 hb2 hh3 hn3 hb3

theorem maskApart_row : Rows.MaskApartSaid :=
  OpenClaim.holds_of_wide 6 Tryd.f6 rfl rfl rfl rfl rfl rfl rfl ⟨rfl, rfl, rfl, rfl, rfl⟩ rfl rfl rfl rfl rfl (by kernel_rfl) Tryd.func6 (by kernel_rfl)
    (of_decide_eq_true (by kernel_rfl)) (by unfold Func.isWrapper; first | (rw [if_pos (by decide +kernel)]; kernel_rfl) | (rw [if_neg (by decide +kernel)]; exact ⟨rfl, rfl⟩))
    (fun os started H enc _ => maskApart_lifted os started H enc)
theorem maskApart_card : Rows.MaskApartCardSaid :=
  Claim7.holds_tied_plain_at .later [] (laidL.map fun _ => .data) true (true, "2567d9bd8d8694cff0d73e00d5989f40e088b1f7b8ea74a393e5d511bac5076a") false maskApart_row (fun _ h => by cases h) (by kernel_rfl) (fun _ h => by cases h) maskApart_row_tie rfl ⟨rfl, rfl⟩ (by kernel_rfl) rfl
    (fun f fn hf hfn => by
      obtain rfl : f = 6 := Option.some.inj ((show Tryd.prog.funcNamed "postmark/postmarklaw08.MaskApart" = some 6 by kernel_rfl).symm.trans hf) |>.symm
      obtain rfl : fn = Tryd.f6 := (Option.some.inj (Tryd.func6.symm.trans hfn)).symm
      exact ⟨by kernel_rfl, fun j t ht => by
        rw [Tryd.params6] at ht
        have hall : (Tryd.prog.wantsStandIn t) = false := by
          have hm : t ∈ [5, 5, 23, 23, 39] := by simpa using Array.mem_of_getElem? ht
          have hall : ([5, 5, 23, 23, 39].all fun u => !Tryd.prog.wantsStandIn u) = true := by kernel_rfl
          simpa using List.all_eq_true.1 hall t hm
        exact hall⟩)
    (by kernel_rfl)
#print axioms maskApart_card
end Go.Proofs.YtjfcldjepgijeaaDoor
