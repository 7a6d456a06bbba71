/- What is laid, as the walks read it. -/
import Derived.Test.YtcjcnpjedmpghaaDoorSg
import Derived.Test.YtcjcnpjedmpghaaDoorRow
import Derived.Test.YtcjcnpjedmpghaaDoorRows
import Derived.Test.YtcjcnpjedmpghaaDoorTie
namespace Go.Proofs.YtcjcnpjedmpghaaDoor
open Go.ChangeShapes Go.WideShapes Go.ChangeAt Go.RowKit

abbrev laidL : List (String × DataW Unit) := [("postmark/sha512.cubes", Rows.laid_postmark_sha512_cubes), ("postmark/sha512.square", Rows.laid_postmark_sha512_square)]
def cubesZ : List Int := cubesL.map fun (n : Nat) => (n : Int)
def squareZ : List (List Int) := [(squareL.take 8).map fun (n : Nat) => (n : Int), (squareL.drop 8).map fun (n : Nat) => (n : Int)]
theorem cubes_datum : (Rows.laid_postmark_sha512_cubes : DataW Unit) = .agg (cubesZ.map fun z => .lit (.int .u64 z)) := by kernel_rfl
theorem square_datum : (Rows.laid_postmark_sha512_square : DataW Unit) = .agg (squareZ.map fun zs => .agg (zs.map fun z => .lit (.int .u64 z))) := by kernel_rfl
theorem cubes_lt : (cubesL.all fun n => decide (n < 2 ^ 64)) = true := by kernel_rfl
theorem square_lt : (squareL.all fun n => decide (n < 2 ^ 64)) = true := by kernel_rfl

theorem cubes_laid {W : World} (h : laidMetH Tryd.prog laidL W) : Cubes W := by
  rw [MakeChecks.laidMetH_plain _ _ _ (by kernel_rfl)] at h
  have hr := Lib.laidMet.reads h (n := "postmark/sha512.cubes") (d := Rows.laid_postmark_sha512_cubes) (by simp)
  rw [cubes_datum] at hr
  intro t ht
  have hl : cubesL.length = 80 := by kernel_rfl
  have hz : cubesZ[t]? = some (wd (cube t)) := by
    unfold cubesZ cube
    rw [List.getElem?_map, List.getD, List.getElem?_eq_getElem (by omega)]
    simp only [Option.map_some, Option.getD_some]
    rw [wd_ofNat]
    have := List.all_eq_true.1 cubes_lt _ (List.getElem_mem (show t < cubesL.length by omega))
    simpa using this
  exact laid_row hr (g := 1) (by kernel_rfl) (t := 50) (by kernel_rfl) (e := 34) (m := 80) (by kernel_rfl) (by kernel_rfl) (by kernel_rfl) (by kernel_rfl) t _ hz
theorem squares_laid {W : World} (h : laidMetH Tryd.prog laidL W) : Squares W := by
  rw [MakeChecks.laidMetH_plain _ _ _ (by kernel_rfl)] at h
  have hr := Lib.laidMet.reads h (n := "postmark/sha512.square") (d := Rows.laid_postmark_sha512_square) (by simp)
  rw [square_datum] at hr
  intro t ht
  have hl : squareL.length = 16 := by kernel_rfl
  have hlt : ∀ t, t < 16 → squareL[t]? = some (sqr t).toNat := fun t ht => by
    unfold sqr
    rw [List.getD, List.getElem?_eq_getElem (by omega)]
    have := List.all_eq_true.1 square_lt _ (List.getElem_mem (show t < squareL.length by omega))
    simp at this
    simp [Nat.mod_eq_of_lt this]
  have hk := fun q r zs z => laid_rows hr (g := 0) (by kernel_rfl) (t := 54) (t2 := 38) (by kernel_rfl) (e := 34) (m := 2) (m2 := 8) (by kernel_rfl) (by kernel_rfl) (by kernel_rfl) (by kernel_rfl) (by kernel_rfl) (by kernel_rfl)
    (by intro zs hzs; simp [squareZ] at hzs; rcases hzs with rfl | rfl <;> simp [hl]) q r zs z
  by_cases h8 : t < 8
  · have := hk 0 t _ (wd (sqr t)) rfl (by rw [List.getElem?_map, List.getElem?_take_of_lt h8, hlt t ht]; rfl)
    simpa using this
  · have := hk 1 (t - 8) _ (wd (sqr t)) rfl (by rw [List.getElem?_map, List.getElem?_drop, show 8 + (t - 8) = t by omega, hlt t ht]; rfl)
    rwa [show 1 * 8 + (t - 8) = t by omega] at this
theorem own : ownKnob Tryd.prog.godebug = none := by kernel_rfl
end Go.Proofs.YtcjcnpjedmpghaaDoor
