import Derived.Test.YtjfcldjepgijeaaDoorProg
import Derived.Test.YtjfcldjepgijeaaDoorMem
import Derived.WalkSpells
import Derived.Lib.Hide
import Derived.WalkLawsBesides
namespace Go.Proofs.YtjfcldjepgijeaaDoor
open Go.RowKit
theorem Tryd.uB : Tryd.prog.underlying 23 = some (.slice 5) := by kernel_rfl
theorem Tryd.infoB : (Tryd.prog.info? 5).map (fun i => (i.zero, i.size, i.bytes)) = some (some (.int .u8 0), 1, 1) := by kernel_rfl

def ClonePost (W : World) (l : List (BitVec 8)) (e : Ending) (W' : World) : Prop :=
  ∃ v', e = .returned v' ∧ W'.ownsRow W.heap.size 5 1 v' l.length (bv l) ∧ Ext Nope W W'

theorem none_empty {p : Nat → Prop} {W : World} {cap : Nat} {l : List (BitVec 8)} (h : Holds p W none cap l) : l = [] ∧ cap = 0 := by
  rcases h.lies with ⟨_, hc⟩ | ⟨b, off, e, _⟩
  · have := h.len; exact ⟨List.eq_nil_of_length_eq_zero (by omega), hc⟩
  · cases e

set_option maxHeartbeats 400000 in
theorem clone_any {p : Nat → Prop} (a : Option Addr) (n cap : Nat) (l : List (BitVec 8)) (W : World) (hh : Hid (Holds p W a cap l)) (hn : Hid (l.length = n)) (hb : n ≤ 140737488355328) :
    Calls Tryd.prog 55 #[.slice a n cap] W (ClonePost W l) := by
  obtain ⟨i, hi, hz, hsz, hby⟩ := info_parts Tryd.infoB
  have he := fun w => Lib.run_eql_slice_nil (P := Tryd.prog) w _ _ a n cap 0 0 Tryd.uB
  cases a with
  | none =>
    obtain ⟨rfl, rfl⟩ := none_empty hh.out
    obtain rfl : n = 0 := by simpa using hn.out.symm
    go_enter Tryd.func55, Tryd.ntmps55
    go_wp2_with fail
    go_ret
    exact ⟨_, rfl, World.ownsRow_nil _ _ _ _, Ext.refl _ _⟩
  | some ad =>
    have hown : (W.alloc (.cells #[] 5)).ownsRow W.heap.size 5 1 (.slice (some ⟨W.heap.size, 0, none⟩) 0 0) 0 (bv []) := World.ownsRow_made W #[] 0 (Nat.le_refl _) (Nat.zero_le _) rfl
    have hh' : Hid (Holds p (W.alloc (.cells #[] 5)) (some ad) cap l) := hh.out.ext (Ext.alloc Nope _ _) (fun _ _ h => h)
    go_enter Tryd.func55, Tryd.ntmps55
    go_wp2_with (at_builtin; refine wpList_append_b rfl (.tmp 5) (.tmp 6) _ _ rfl Tryd.uB hi hz hsz hby W.heap.size rfl hown rfl hh'.out hn.out ?c1 ?c2 ?_)
    case c1 => have := hn.out; simp; omega
    case c2 => simp
    intro v' W' h1 h2 h3
    have H1 := Lib.hid h1
    have H2 := Lib.hid h2
    clear h1 h2 h3
    go_wp2_with fail
    go_ret
    exact ⟨_, rfl, by simpa using H1.out, (Ext.alloc Nope W _).trans (D' := Just W.heap.size) (Ext.grownBy H2.out (by simp [Value.ownBlock, Just])) (fun _ _ h => h) (fun i hi h => by simp [Just] at h; omega)⟩
end Go.Proofs.YtjfcldjepgijeaaDoor
