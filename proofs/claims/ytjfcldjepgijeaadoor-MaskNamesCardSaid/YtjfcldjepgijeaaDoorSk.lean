/- Bytes and strings; hexadecimal signs. -/
import Derived.Test.YtjfcldjepgijeaaDoorSj
import Derived.Test.YtjfcldjepgijeaaDoorK5c
import Derived.Lib.ConvBytes
import Derived.Laws.BytesArg
namespace Go.Proofs.YtjfcldjepgijeaaDoor
open Go.RowKit Go.Shelf

theorem strOf_nums (l : List (BitVec 8)) : strOfNums (l.map fun c => wd c) = strOf l := by
  unfold strOfNums strOf
  congr 1
  rw [List.map_map]
  congr 1
  apply List.map_congr_left
  intro c _
  apply UInt8.toNat_inj.1
  simp [wd]
theorem holds_string {p : Nat → Prop} {W : World} {a : Option Addr} {cap n : Nat} {l : List (BitVec 8)} (h : Holds p W a cap l) (hn : l.length = n) :
    (convert 23 9 (.slice a n cap)).run Tryd.prog W = .ok (.string (strOf l)) W := by
  have h0 := run_convert_bytes_nil (P := Tryd.prog) W 23 5 Tryd.uB Tryd.underlying5
  have h1 := run_convert_bytes_arg (P := Tryd.prog) W 23 5 Tryd.uB Tryd.underlying5
  rcases h.lies with ⟨rfl, hc⟩ | ⟨b, off, rfl, _, hc⟩
  · have hl := h.len
    obtain rfl : l = [] := List.eq_nil_of_length_eq_zero (by omega)
    exact h0 n cap _ Tryd.underlying9
  · rw [← strOf_nums]
    refine h1 b off n cap (l.map fun c => wd c) (by simpa using hn) (fun i hi => ?_) _ Tryd.underlying9
    obtain ⟨c, hc1⟩ : ∃ c, l[i]? = some c := ⟨_, List.getElem?_eq_getElem (by omega)⟩
    rw [hc i c hc1]
    simp [List.getD, hc1]

theorem bytesWorld_ext (W : World) (s : ByteArray) : Ext Nope W (Lib.bytesWorld W 5 s) := by
  refine ⟨?_, ?_, ?_, ?_, fun k hk _ => Lib.bytesWorld_at_old W _ s k hk⟩
  · simp [Lib.bytesWorld, World.freeze, World.alloc, World.drew, -World.alloc_eq, -World.drew_eq]
  · simp [Lib.bytesWorld, World.freeze, World.alloc, World.drew, -World.alloc_eq, -World.drew_eq]
  · simp [Lib.bytesWorld, World.freeze, World.alloc, World.drew, -World.alloc_eq, -World.drew_eq]
  · rw [Lib.bytesWorld_size]; omega
theorem bytesWorld_holds (W : World) (s : ByteArray) (hs : s.size ≤ 1000000) : Holds (fun c => W.heap.size ≤ c) (Lib.bytesWorld W 5 s) (some ⟨W.heap.size, 0, none⟩) (grownCap W s.size 0 5) (bytesOf s) := by
  refine ⟨by rw [bytesOf_length]; exact grownCap_ge _ _ _ _, grownCap_le_maxLen _ _ _ _ (by unfold maxLen; omega), .inr ⟨_, 0, rfl, fun _ => Nat.le_refl _, fun i c hi => ?_⟩⟩
  have hl := (List.getElem?_eq_some_iff.1 hi).1
  rw [bytesOf_length] at hl
  rw [Nat.zero_add, Lib.bytesWorld_cell W _ s i hl]
  unfold bytesOf at hi
  rw [List.getElem?_map] at hi
  obtain ⟨u, hu, rfl⟩ := Option.map_eq_some_iff.1 hi
  simp [List.getD, hu, wd]

theorem signs_at (k : Nat) (hk : k < 16) (w : World) : (Instr.index 9 (.string ⟨#[48, 49, 50, 51, 52, 53, 54, 55, 56, 57, 97, 98, 99, 100, 101, 102]⟩) (.int .u8 (k : Int))).run Tryd.prog w = .ok (.int .u8 (sign (BitVec.ofNat 8 k)).toNat) w := by
  obtain rfl | rfl | rfl | rfl | rfl | rfl | rfl | rfl | rfl | rfl | rfl | rfl | rfl | rfl | rfl | rfl : k = 0 ∨ k = 1 ∨ k = 2 ∨ k = 3 ∨ k = 4 ∨ k = 5 ∨ k = 6 ∨ k = 7 ∨ k = 8 ∨ k = 9 ∨ k = 10 ∨ k = 11 ∨ k = 12 ∨ k = 13 ∨ k = 14 ∨ k = 15 := by omega
  all_goals (show _ = _; kernel_rfl)

theorem u8_and (x y : BitVec 8) : bits .and .u8 (wd x) (wd y) = wd (x &&& y) := by
  have := u8_id (x &&& y)
  simp only [bits]; show IntKind.u8.wrap ((BitVec.ofInt 8 (wd x) &&& BitVec.ofInt 8 (wd y)).toNat : Int) = _
  rw [ofInt_wd, ofInt_wd]; exact this
theorem and15_lt (c : BitVec 8) : (c &&& 15).toNat < 16 := by
  rw [BitVec.toNat_and]
  exact Nat.lt_of_le_of_lt Nat.and_le_right (by decide)
theorem signs_at_bv (c : BitVec 8) (hc : c.toNat < 16) (z : Int) (hz : z = wd c) (w : World) : (Instr.index 9 (.string ⟨#[48, 49, 50, 51, 52, 53, 54, 55, 56, 57, 97, 98, 99, 100, 101, 102]⟩) (.int .u8 z)).run Tryd.prog w = .ok (.int .u8 (sign c).toNat) w := by
  subst hz
  have := signs_at c.toNat hc w
  rwa [BitVec.ofNat_toNat, BitVec.setWidth_eq] at this
theorem hexOf_length (l : List (BitVec 8)) : (hexOf l).length = 2 * l.length := by
  induction l with
  | nil => rfl
  | cons c l ih => simp [hexOf] at ih ⊢; omega
theorem byteCells_append (l m : List UInt8) : Lib.byteCells (l ++ m) = Lib.byteCells l ++ Lib.byteCells m := by simp [Lib.byteCells]

set_option maxRecDepth 100000 in
set_option maxHeartbeats 1000000 in
theorem hex_any {p : Nat → Prop} (a : Option Addr) (n cap : Nat) (l : List (BitVec 8)) (W : World) (hh : Hid (Holds p W a cap l)) (hn : Hid (l.length = n)) (hb : n ≤ 1000000) :
    Calls Tryd.prog 22 #[.slice a n cap] W fun e W' => e = .returned (.string ⟨(hexOf l).toArray⟩) ∧ Ext Nope W W' := by
  have hlt := Lib.hid hh.out.lt
  clear hh
  go_enter Tryd.func22, Tryd.ntmps22
  go_wp2_with fail
  go_loopw [8] (fun i V => ∃ k : Nat, k ≤ n ∧ i = .int .i64 k ∧ Lib.IsBuilder 60 5 W.heap.size W.heap.size (Lib.byteCells (hexOf (l.take k))) V ∧ Ext Nope W V) (fun i _ => n - (intOf i).toNat)
  case atStart => exact ⟨0, by omega, rfl, .inl ⟨Nat.le_refl _, _, World.alloc_heap_new W _, ⟨rfl, .inl ⟨rfl, rfl⟩⟩, by simp [Value.ownBlock]⟩, Ext.alloc _ _ _⟩
  case round =>
    obtain ⟨k, hk, rfl, hbld, hE⟩ := hrel
    have HB := Lib.hid hbld
    have HE := Lib.hid hE
    clear hbld hE
    by_cases hkn : k < n
    · obtain ⟨b, off, rfl, _, hbl, hc⟩ := hlt.out.cells (by intro e; have := hn.out; subst e; simp at this; omega)
      obtain ⟨c, hcl⟩ : ∃ c, l[k]? = some c := by have := hn.out; exact ⟨_, List.getElem?_eq_getElem (by omega)⟩
      have hcell := HE.out.cell (hc k c hcl) (fun h => h)
      have HCL := Lib.hid hcl
      have hcap : n ≤ cap := by have := hlt.out.len; have := hn.out; omega
      have hknI : (k : Int) < n := by omega
      have hi1 := signs_at_bv (c >>> 4) (by rw [BitVec.toNat_ushiftRight, Nat.shiftRight_eq_div_pow]; have := c.isLt; omega) (wd c / 16) (by rw [← wd_shr']; rfl)
      have hi2 := signs_at_bv (c &&& 15) (and15_lt c) (bits .and .u8 (wd c) 15) (u8_and c 15)
      clear hc hcl
      go_wp2_with fail
      have HB1 := HB.out
      have hl1 : (Lib.byteCells (hexOf (l.take k))).length ≤ 4000000 := by rw [Lib.byteCells_length, hexOf_length, List.length_take]; omega
      refine (bld_byte _ _ _ _ _ HB1 (by omega) HE.out.size).mono ?_
      rintro e w1 ⟨rfl, hb1, hbel1⟩
      have HB2 := Lib.hid hb1
      have HE1 : Hid (Ext Nope W w1) := HE.out.trans (Ext.ofBelow hbel1) (fun _ _ h => h) (fun i hi h => by have : W.heap.size ≤ i := h; omega)
      clear hb1 hbel1 HB1 hi1
      go_wp2_with fail
      have HB3 := HB2.out
      refine (bld_byte _ _ _ _ _ (.inr HB3) (by rw [List.length_append, List.length_cons, List.length_nil]; omega) HE1.out.size).mono ?_
      rintro e w2 ⟨rfl, hb2, hbel2⟩
      have HE2 : Hid (Ext Nope W w2) := HE1.out.trans (Ext.ofBelow hbel2) (fun _ _ h => h) (fun i hi h => by have : W.heap.size ≤ i := h; omega)
      have hx : Lib.byteCells (hexOf (l.take k)) ++ [.int .u8 (sign (c >>> 4)).toNat] ++ [.int .u8 (sign (c &&& 15#8)).toNat] = Lib.byteCells (hexOf (l.take (k + 1))) := by
        rw [List.take_add_one, HCL.out]
        show _ = Lib.byteCells (hexOf (l.take k ++ [c]))
        unfold hexOf
        rw [List.flatMap_append, byteCells_append, List.append_assoc]
        rfl
      rw [hx] at hb2
      have HB4 := Lib.hid hb2
      clear hb2 hbel2 HB3 hi2 hx
      go_wp2_with fail
      go_roundw
      case rel => exact ⟨k + 1, by omega, by go_num, .inr HB4.out, HE2.out⟩
      case measure => simp [intOf]; omega
    · obtain rfl : k = n := by omega
      have HB2 : Lib.IsBuilder 60 5 W.heap.size W.heap.size (Lib.byteCells (hexOf l)) wr := by
        have := HB.out; rwa [List.take_of_length_le (by have := hn.out; omega)] at this
      have HB3 := Lib.hid HB2
      clear HB2
      go_wp2_with fail
      refine (bld_string _ _ _ _ HB3.out HE.out.size).mono ?_
      rintro e w' ⟨rfl, hbel⟩
      have HX : Hid (Ext Nope W w') := HE.out.trans (Ext.ofBelow hbel) (fun _ _ h => h) (fun i hi h => by have : W.heap.size ≤ i := h; omega)
      clear hbel
      go_wp2_with fail
      go_ret
      exact ⟨rfl, HX.out⟩
end Go.Proofs.YtjfcldjepgijeaaDoor
