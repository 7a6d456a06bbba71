/- Names. -/
import Derived.Test.YtjfcldjepgijeaaDoorHc
import Derived.Lib.AppendIntMem
namespace Go.Proofs.YtjfcldjepgijeaaDoor
open Go.RowKit Go.Shelf Go.Sort

theorem sum_none (z : Int) (hz : sizeN z = 0) (a : Option Addr) (n cap : Nat) (W : World) (hm : Hid (Sizes W)) : Calls Tryd.prog 9 #[.int .i64 z, .slice a n cap] W fun e W' =>
    e = .returned (.tuple #[.slice none 0 0, .int .i64 80]) ∧ Ext Nope W W' := by
  have HB := Lib.hid (begin_none z hz W hm)
  clear hz
  go_enter Tryd.func9, Tryd.ntmps9
  go_wp2_with fail
  refine HB.out.mono ?_
  rintro e w ⟨rfl, hx⟩
  have HX := Lib.hid hx
  clear hx
  go_wp2_with fail
  go_ret2
  exact ⟨rfl, HX.out.trans (Ext.alloc _ _ _) (fun _ _ h => h) (fun _ _ h => h)⟩

def nameN (z : Int) : List UInt8 := if z = 1 then [115, 104, 97, 50, 50, 52] else if z = 2 then [115, 104, 97, 50, 53, 54] else if z = 3 then [115, 104, 97, 51, 56, 52] else if z = 4 then [115, 104, 97, 53, 49, 50] else []
theorem itoa_224 : Lib.itoa 224 = [50, 50, 52] := by simp [Lib.itoa, Lib.decDigits]
theorem itoa_256 : Lib.itoa 256 = [50, 53, 54] := by simp [Lib.itoa, Lib.decDigits]
theorem itoa_384 : Lib.itoa 384 = [51, 56, 52] := by simp [Lib.itoa, Lib.decDigits]
theorem itoa_512 : Lib.itoa 512 = [53, 49, 50] := by simp [Lib.itoa, Lib.decDigits]
theorem ext_grow (w : World) (k : Nat) (os : Array Obj) : Ext Nope w (grow (w.drewN k) os) :=
  (Ext.drewN Nope w k).trans (E := Nope) (D' := Nope) ⟨rfl, rfl, rfl, by show w.heap.size ≤ (w.heap ++ os).size; rw [Array.size_append]; omega, fun j hj _ => Lib.heap_grow_old (w) k os j hj⟩ (fun _ _ h => h) (fun _ _ h => h)
def Pows (W : World) : Prop := Lib.TabIs Tryd.prog W "internal/strconv.uint64pow10" .u64 Lib.pow10Tab
theorem name_W (wide long : Bool) (W : World) (hm : Hid (Sizes W)) (hp : Hid (Pows W)) : Calls Tryd.prog 16 #[.int .i64 (numW wide long)] W fun e W' =>
    e = .returned (.string ⟨(nameN (numW wide long)).toArray⟩) ∧ Ext Nope W W' := by
  have HS := Lib.hid (size_W wide long W hm)
  have HB := Lib.hid (bits_W wide long W hm)
  have hne := szW_ne wide long
  have HI := Lib.hid (itoa_any (bitsW wide long) (by cases wide <;> cases long <;> decide) (by cases wide <;> cases long <;> decide) W hp.out)
  have HN : Hid ((nameN (numW wide long)) = [115, 104, 97] ++ Lib.itoa (bitsW wide long)) := by
    cases wide <;> cases long
    · show _ = [115, 104, 97] ++ Lib.itoa 224; rw [itoa_224]; rfl
    · show _ = [115, 104, 97] ++ Lib.itoa 256; rw [itoa_256]; rfl
    · show _ = [115, 104, 97] ++ Lib.itoa 384; rw [itoa_384]; rfl
    · show _ = [115, 104, 97] ++ Lib.itoa 512; rw [itoa_512]; rfl
  have hil : (Lib.itoa (bitsW wide long)).length = 3 := by
    cases wide <;> cases long
    · show (Lib.itoa 224).length = 3; rw [itoa_224]; rfl
    · show (Lib.itoa 256).length = 3; rw [itoa_256]; rfl
    · show (Lib.itoa 384).length = 3; rw [itoa_384]; rfl
    · show (Lib.itoa 512).length = 3; rw [itoa_512]; rfl
  obtain ⟨it, hit⟩ : ∃ it, Lib.itoa (bitsW wide long) = it := ⟨_, rfl⟩
  rw [hit] at HI HN hil
  clear hit
  have hil2 : ¬ 9223372036854775807 < 3 + it.length := by omega
  go_enter Tryd.func16, Tryd.ntmps16
  go_wp2_with fail
  refine HS.out.mono ?_
  rintro e w ⟨rfl, rfl⟩
  go_wp2_with fail
  refine HB.out.mono ?_
  rintro e w' ⟨rfl, rfl⟩
  go_wp2_with fail
  refine HI.out.mono ?_
  rintro e w' ⟨rfl, k, os, rfl⟩
  go_wp2_with fail
  go_ret
  refine ⟨?_, ext_grow _ _ _⟩
  rw [HN.out]
  show Ending.returned (.string _) = Ending.returned (.string _)
  congr 2
end Go.Proofs.YtjfcldjepgijeaaDoor
