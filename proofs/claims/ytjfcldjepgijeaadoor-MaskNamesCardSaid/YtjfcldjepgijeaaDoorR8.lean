/- What is laid, as the walks read it. -/
import Derived.Test.YtjfcldjepgijeaaDoorHf
import Derived.Test.YtjfcldjepgijeaaDoorRow
import Derived.Test.YtjfcldjepgijeaaDoorRows
import Derived.Test.YtjfcldjepgijeaaDoorTie
namespace Go.Proofs.YtjfcldjepgijeaaDoor
open Go.ChangeShapes Go.WideShapes Go.ChangeAt Go.RowKit

abbrev laidL : List (String × DataW Unit) := [("math/bits.deBruijn32tab", Rows.laid_math_bits_deBruijn32tab), ("math/bits.deBruijn64tab", Rows.laid_math_bits_deBruijn64tab), ("internal/strconv.uint64pow10", Rows.laid_internal_strconv_uint64pow10), ("postmark/sha256.cubes", Rows.laid_postmark_sha256_cubes), ("postmark/sha256.first", Rows.laid_postmark_sha256_first), ("postmark/sha512.cubes", Rows.laid_postmark_sha512_cubes), ("postmark/sha512.square", Rows.laid_postmark_sha512_square), ("postmark/mask.sizes", Rows.laid_postmark_mask_sizes)]
def cubesZ : List Int := cubesL.map fun (n : Nat) => (n : Int)
def squareZ : List (List Int) := [(squareL.take 8).map fun (n : Nat) => (n : Int), (squareL.drop 8).map fun (n : Nat) => (n : Int)]
theorem cubes_datum : (Rows.laid_postmark_sha512_cubes : DataW Unit) = .agg (cubesZ.map fun z => .lit (.int .u64 z)) := by kernel_rfl
theorem square_datum : (Rows.laid_postmark_sha512_square : DataW Unit) = .agg (squareZ.map fun zs => .agg (zs.map fun z => .lit (.int .u64 z))) := by kernel_rfl
theorem cubes_lt : (cubesL.all fun n => decide (n < 2 ^ 64)) = true := by kernel_rfl
theorem square_lt : (squareL.all fun n => decide (n < 2 ^ 64)) = true := by kernel_rfl

theorem cubes_laid {W : World} (h : laidMetH Tryd.prog laidL W) : Cubes W := by
  rw [MakeChecks.laidMetH_plain _ _ _ (by kernel_rfl)] at h
  have hr := Lib.laidMet.reads h (n := "postmark/sha512.cubes") (d := Rows.laid_postmark_sha512_cubes) (by simp)
  rw [cubes_datum] at hr
  intro t ht
  have hl : cubesL.length = 80 := by kernel_rfl
  have hz : cubesZ[t]? = some (wd (cube t)) := by
    unfold cubesZ cube
    rw [List.getElem?_map, List.getD, List.getElem?_eq_getElem (by omega)]
    simp only [Option.map_some, Option.getD_some]
    rw [wd_ofNat]
    have := List.all_eq_true.1 cubes_lt _ (List.getElem_mem (show t < cubesL.length by omega))
    simpa using this
  exact laid_row hr (g := 5) (by kernel_rfl) (t := 82) (by kernel_rfl) (e := 78) (m := 80) (by kernel_rfl) (by kernel_rfl) (by kernel_rfl) (by kernel_rfl) t _ hz
theorem squares_laid {W : World} (h : laidMetH Tryd.prog laidL W) : Squares W := by
  rw [MakeChecks.laidMetH_plain _ _ _ (by kernel_rfl)] at h
  have hr := Lib.laidMet.reads h (n := "postmark/sha512.square") (d := Rows.laid_postmark_sha512_square) (by simp)
  rw [square_datum] at hr
  intro t ht
  have hl : squareL.length = 16 := by kernel_rfl
  have hlt : ∀ t, t < 16 → squareL[t]? = some (sqr t).toNat := fun t ht => by
    unfold sqr
    rw [List.getD, List.getElem?_eq_getElem (by omega)]
    have := List.all_eq_true.1 square_lt _ (List.getElem_mem (show t < squareL.length by omega))
    simp at this
    simp [Nat.mod_eq_of_lt this]
  have hk := fun q r zs z => laid_rows hr (g := 2) (by kernel_rfl) (t := 99) (t2 := 83) (by kernel_rfl) (e := 78) (m := 2) (m2 := 8) (by kernel_rfl) (by kernel_rfl) (by kernel_rfl) (by kernel_rfl) (by kernel_rfl) (by kernel_rfl)
    (by intro zs hzs; simp [squareZ] at hzs; rcases hzs with rfl | rfl <;> simp [hl]) q r zs z
  by_cases h8 : t < 8
  · have := hk 0 t _ (wd (sqr t)) rfl (by rw [List.getElem?_map, List.getElem?_take_of_lt h8, hlt t ht]; rfl)
    simpa using this
  · have := hk 1 (t - 8) _ (wd (sqr t)) rfl (by rw [List.getElem?_map, List.getElem?_drop, show 8 + (t - 8) = t by omega, hlt t ht]; rfl)
    rwa [show 1 * 8 + (t - 8) = t by omega] at this
def kubesZ : List Int := kubesL.map fun (n : Nat) => (n : Int)
def firstZ : List (List Int) := [(firstL.take 8).map fun (n : Nat) => (n : Int), (firstL.drop 8).map fun (n : Nat) => (n : Int)]
def sizesZ : List Int := [0, 224, 256, 384, 512]
theorem kubes_datum : (Rows.laid_postmark_sha256_cubes : DataW Unit) = .agg (kubesZ.map fun z => .lit (.int .u32 z)) := by kernel_rfl
theorem first_datum : (Rows.laid_postmark_sha256_first : DataW Unit) = .agg (firstZ.map fun zs => .agg (zs.map fun z => .lit (.int .u32 z))) := by kernel_rfl
theorem sizes_datum : (Rows.laid_postmark_mask_sizes : DataW Unit) = .agg (sizesZ.map fun z => .lit (.int .i64 z)) := by kernel_rfl
theorem kubes_lt : (kubesL.all fun n => decide (n < 2 ^ 32)) = true := by kernel_rfl
theorem first_lt : (firstL.all fun n => decide (n < 2 ^ 32)) = true := by kernel_rfl
theorem sizes_laid {W : World} (h : laidMetH Tryd.prog laidL W) : Sizes W := by
  rw [MakeChecks.laidMetH_plain _ _ _ (by kernel_rfl)] at h
  have hr := Lib.laidMet.reads h (n := "postmark/mask.sizes") (d := Rows.laid_postmark_mask_sizes) (by simp)
  rw [sizes_datum] at hr
  intro t ht
  have hz : sizesZ[t]? = some (bitsN t) := by
    obtain rfl | rfl | rfl | rfl | rfl : t = 0 ∨ t = 1 ∨ t = 2 ∨ t = 3 ∨ t = 4 := by omega
    all_goals rfl
  exact laid_row hr (g := 0) (by kernel_rfl) (t := 86) (by kernel_rfl) (e := 3) (m := 5) (by kernel_rfl) (by kernel_rfl) (by kernel_rfl) (by kernel_rfl) t _ hz
theorem kubes_laid {W : World} (h : laidMetH Tryd.prog laidL W) : Kubes W := by
  rw [MakeChecks.laidMetH_plain _ _ _ (by kernel_rfl)] at h
  have hr := Lib.laidMet.reads h (n := "postmark/sha256.cubes") (d := Rows.laid_postmark_sha256_cubes) (by simp)
  rw [kubes_datum] at hr
  intro t ht
  have hl : kubesL.length = 64 := by kernel_rfl
  have hz : kubesZ[t]? = some (wd (kube t)) := by
    unfold kubesZ kube
    rw [List.getElem?_map, List.getD, List.getElem?_eq_getElem (by omega)]
    simp only [Option.map_some, Option.getD_some]
    rw [wd_ofNat]
    have := List.all_eq_true.1 kubes_lt _ (List.getElem_mem (show t < kubesL.length by omega))
    simpa using this
  exact laid_row hr (g := 4) (by kernel_rfl) (t := 76) (by kernel_rfl) (e := 75) (m := 64) (by kernel_rfl) (by kernel_rfl) (by kernel_rfl) (by kernel_rfl) t _ hz
theorem firsts_laid {W : World} (h : laidMetH Tryd.prog laidL W) : Firsts W := by
  rw [MakeChecks.laidMetH_plain _ _ _ (by kernel_rfl)] at h
  have hr := Lib.laidMet.reads h (n := "postmark/sha256.first") (d := Rows.laid_postmark_sha256_first) (by simp)
  rw [first_datum] at hr
  intro t ht
  have hl : firstL.length = 16 := by kernel_rfl
  have hlt : ∀ t, t < 16 → firstL[t]? = some (fst6 t).toNat := fun t ht => by
    unfold fst6
    rw [List.getD, List.getElem?_eq_getElem (by omega)]
    have := List.all_eq_true.1 first_lt _ (List.getElem_mem (show t < firstL.length by omega))
    simp at this
    simp [Nat.mod_eq_of_lt this]
  have hk := fun q r zs z => laid_rows hr (g := 1) (by kernel_rfl) (t := 91) (t2 := 77) (by kernel_rfl) (e := 75) (m := 2) (m2 := 8) (by kernel_rfl) (by kernel_rfl) (by kernel_rfl) (by kernel_rfl) (by kernel_rfl) (by kernel_rfl)
    (by intro zs hzs; simp [firstZ] at hzs; rcases hzs with rfl | rfl <;> simp [hl]) q r zs z
  by_cases h8 : t < 8
  · have := hk 0 t _ (wd (fst6 t)) rfl (by rw [List.getElem?_map, List.getElem?_take_of_lt h8, hlt t ht]; rfl)
    simpa using this
  · have := hk 1 (t - 8) _ (wd (fst6 t)) rfl (by rw [List.getElem?_map, List.getElem?_drop, show 8 + (t - 8) = t by omega, hlt t ht]; rfl)
    rwa [show 1 * 8 + (t - 8) = t by omega] at this
theorem pow_datum : (Rows.laid_internal_strconv_uint64pow10 : DataW Unit) = Lib.tabData .u64 Lib.pow10Tab := by kernel_rfl
theorem pows_laid {W : World} (h : laidMetH Tryd.prog laidL W) : Pows W := by
  rw [MakeChecks.laidMetH_plain _ _ _ (by kernel_rfl)] at h
  have hr := Lib.laidMet.reads h (n := "internal/strconv.uint64pow10") (d := Rows.laid_internal_strconv_uint64pow10) (by simp)
  rw [pow_datum] at hr
  obtain ⟨g', t', cs, fuel, p, hg', ht', hv, hd⟩ := hr
  obtain rfl := Option.some.inj ((show Tryd.prog.globalNamed "internal/strconv.uint64pow10" = some 6 by kernel_rfl).symm.trans hg')
  obtain rfl := Option.some.inj ((show (Tryd.prog.globals[6]?).map (·.type) = some 133 by kernel_rfl).symm.trans ht')
  unfold Pows Lib.TabIs
  rw [hv, ← Lib.cells_of_tab (n := 20) (e := 78) (by kernel_rfl) (by kernel_rfl) (by kernel_rfl) (by kernel_rfl) hd]
theorem laid8_laid {W : World} (h : laidMetH Tryd.prog laidL W) : Laid8 W :=
  ⟨sizes_laid h, ⟨kubes_laid h, firsts_laid h, cubes_laid h, squares_laid h⟩, pows_laid h⟩
theorem own : ownKnob Tryd.prog.godebug = none := by kernel_rfl
end Go.Proofs.YtjfcldjepgijeaaDoor
