/- Rows of noughts that are made. -/
import Derived.Test.YtjfcldjepgijeaaDoorMz
import Derived.Test.YtjfcldjepgijeaaDoorSlb
import Derived.Deep.OwnRows
namespace Go.Proofs.YtjfcldjepgijeaaDoor
open Go.RowKit

theorem madeCells_b (n : Nat) : madeCells #[Value.int .u8 0] n = (bv (List.replicate n 0)).toArray := by
  rw [← zeroCells_b]
  unfold madeCells Builtin.zeroCells
  rw [show n * (#[Value.int .u8 0] : Array Value).size = n from Nat.mul_one n]
theorem make_any (n : Nat) (hn : n ≤ 1000000) (w : World) : (Instr.makeSlice 23 (.int .i64 (n : Int)) (.int .i64 (n : Int))).run Tryd.prog w = .ok (.slice (some ⟨w.heap.size, 0, none⟩) n n) (w.alloc (.cells (bv (List.replicate n 0)).toArray 5)) := by
  obtain ⟨i0, hi0, hzi, hszi, hby⟩ := info_parts Tryd.infoB
  have h := run_make_row (P := Tryd.prog) 23 5 i0 (.int .u8 0) Tryd.uB hi0 hzi hszi rfl .i64 .i64 n (by rw [hby]; omega) (by omega) w
  rw [madeCells_b] at h
  exact h
end Go.Proofs.YtjfcldjepgijeaaDoor
