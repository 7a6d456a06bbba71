/- Proved: postmark's law Sha512Sums returns true for every input that holds, together with the package variables that are read, at most 1048576 values and letters, and each argument reads afterwards as it read before. Conditions: that bound (the given statement's own), and none beyond the card's own (the package variables that the row lists hold what the program's text gives them). -/
import Derived.Test.YtcjcnpjedmpghaaDoorR0
import Derived.Test.YtcjcnpjedmpghaaDoorLv
import Derived.Test.YtcjcnpjedmpghaaDoorCards
namespace Go.Proofs.YtcjcnpjedmpghaaDoor
open Go.ChangeShapes Go.WideShapes Go.ChangeAt Go.RowKit

theorem sums_reads (os : Os) {H : Type} (enc : TypeId × Value → H) : ∃ places, DataW.whole enc Tryd.prog ((World.laidAll Tryd.prog os laidL).forCall (fun _ _ => 0) ⟨#[], #[.int .i64 0, .slice none 0 0], []⟩).memory Tryd.f3.params.toList Rows.sha512SumsSpec.vars false #[Value.int .i64 0, Value.slice none 0 0].toList 8 =
    some ([.lit (.int .i64 0), .nil], [], places) := ⟨[], by kernel_rfl⟩

set_option maxRecDepth 100000 in
theorem sha512Sums_lifted (os : Os) (started : os.Started) (H : Type) (enc : TypeId × Value → H) (F : Stop.Interp) :
    ReturnsInHanded {} Tryd.checked os 3 .any ((Rows.OpenSpec.upto Rows.sha512SumsSpec).preRow enc Tryd.prog Tryd.f3 [] false laidL)
      (((Rows.OpenSpec.upto Rows.sha512SumsSpec).at F).post enc Tryd.prog Tryd.f3 false true false false) := by
  obtain ⟨places, hx⟩ := sums_reads os enc
  refine upto_lifted (C := Tryd.checked) (laid := laidL) (tb := 4) own started (by kernel_rfl) Tryd.func3
    (upto_witness (enc := enc) (C := Tryd.checked) (os := os) (World.laidAll Tryd.prog os laidL) #[.int .i64 0, .slice none 0 0] (World.laidAll_os _ _ _)
      (World.shaped_of_ZipB (by kernel_rfl) (by kernel_rfl)) (by kernel_rfl)
      (OpenSpec.preRow_of_cond 8 hx (by kernel_rfl) (fun k hk => by cases hk; kernel_rfl) (by kernel_rfl)
        (by rw [MakeChecks.laidMetH_plain _ _ _ (by kernel_rfl)]; exact laidMet_laidAll _ (by kernel_rfl) (by kernel_rfl))))
    (by kernel_rfl) (by kernel_rfl) rfl (by kernel_rfl) Tryd.underlying4 ?_ ?_
  · intro ds hds
    match ds, hds with
    | [d0, d1], _ => rfl
  · intro W base args ds ps hval hA hb hL
    have hA' : DataW.TrodAll enc Tryd.prog W 0 (fun _ => true) true Tryd.f3.params.toList args.toList ds ps := hA
    have hval' : ∀ (j : Nat) t v, Tryd.f3.params[j]? = some t → args[j]? = some v → Value.okWide Tryd.prog W .any base t v := hval
    rw [Tryd.params3] at hA' hval'
    obtain ⟨v0, v1, d0, d1, p0, p1, rfl, rfl, rfl, g0, g1⟩ := trodAll_two hA'
    obtain ⟨z0, rfl, rfl, rfl, hz0⟩ := open_int Tryd.underlying3 (hval' 0 _ _ rfl rfl) g0
    obtain ⟨a1, n1, c1, L1, rfl, hh1, hb1⟩ := open_lists Tryd.underlying22 Tryd.underlying23 Tryd.underlying5 (by kernel_rfl) (by kernel_rfl) (hval' 1 _ _ rfl rfl) g1
    have ht : L1.flatten.length ≤ 1048576 := by
      simp only [Rows.uptoBulkAll] at hb
      omega
    exact sums_law z0 a1 n1 c1 L1 W (squares_laid hL) (cubes_laid hL) hh1 ht

theorem sha512Sums_row : Rows.Sha512SumsUptoSaid :=
  OpenClaim.holds_of_cond 3 Tryd.f3 rfl rfl rfl rfl rfl rfl rfl ⟨rfl, rfl, rfl, rfl, rfl⟩ rfl rfl rfl rfl rfl (by kernel_rfl) Tryd.func3 (by kernel_rfl)
    (of_decide_eq_true (by kernel_rfl)) (by unfold Func.isWrapper; first | (rw [if_pos (by decide +kernel)]; kernel_rfl) | (rw [if_neg (by decide +kernel)]; exact ⟨rfl, rfl⟩))
    (fun os started H enc _ F => by rw [OpenClaim.pre_eq_preRow]; exact sha512Sums_lifted os started H enc F)
theorem sha512Sums_card : Rows.Sha512SumsUptoCardSaid :=
  Claim7.holds_tied_plain_at .later [] (laidL.map fun _ => .data) true (true, "b426a627295f4174cbb65139e61c57b919603db9a39ba4dfb23768827b6eb701") false sha512Sums_row (fun _ h => by cases h) (by kernel_rfl) (fun _ h => by cases h) sha512SumsUpto_row_tie rfl ⟨rfl, rfl⟩ (by kernel_rfl) rfl
    (fun f fn hf hfn => by
      obtain rfl : f = 3 := Option.some.inj ((show Tryd.prog.funcNamed "postmark/postmarklaw05.Sha512Sums" = some 3 by kernel_rfl).symm.trans hf) |>.symm
      obtain rfl : fn = Tryd.f3 := (Option.some.inj (Tryd.func3.symm.trans hfn)).symm
      exact ⟨by kernel_rfl, fun j t ht => by
        rw [Tryd.params3] at ht
        have hall : (Tryd.prog.wantsStandIn t) = false := by
          have hm : t ∈ [3, 22] := by simpa using Array.mem_of_getElem? ht
          have hall : ([3, 22].all fun u => !Tryd.prog.wantsStandIn u) = true := by kernel_rfl
          simpa using List.all_eq_true.1 hall t hm
        exact hall⟩)
    (by kernel_rfl)
#print axioms sha512Sums_card
end Go.Proofs.YtcjcnpjedmpghaaDoor
