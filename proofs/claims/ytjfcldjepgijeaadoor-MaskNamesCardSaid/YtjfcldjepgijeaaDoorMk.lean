/- The pieces of a mask. -/
import Derived.Test.YtjfcldjepgijeaaDoorRh
import Derived.Test.YtjfcldjepgijeaaDoorHf
namespace Go.Proofs.YtjfcldjepgijeaaDoor
open Go.RowKit Go.Shelf Go.Sort

/-- a piece's number -/
def num4 (k : Nat) : List (BitVec 8) := [BitVec.ofNat 8 (k / 16777216), BitVec.ofNat 8 (k / 65536), BitVec.ofNat 8 (k / 256), BitVec.ofNat 8 k]
def pieceN (wide long : Bool) (seed : List (BitVec 8)) (k : Nat) : List (BitVec 8) := hashW wide long (seed ++ num4 k)
theorem pieceN_length (wide long : Bool) (seed : List (BitVec 8)) (k : Nat) : (pieceN wide long seed k).length = szW wide long := hashW_length _ _ _

theorem pieces_any (z : Int) (a : Option Addr) (n cap : Nat) (W : World) : Calls Tryd.prog 26 #[.int .i64 z, .slice a n cap] W fun e W' =>
    e = .returned (.func (.func 46) #[] #[.pointer (some ⟨W.heap.size, 0, none⟩), .pointer (some ⟨W.heap.size + 1, 0, none⟩)]) ∧
    (W.alloc (.cells #[.int .i64 z] 28)).alloc (.cells #[.slice a n cap] 23) = W' := by
  go_enter Tryd.func26, Tryd.ntmps26
  go_wp2
  go_ret
  exact ⟨by simp, rfl⟩

/-- what the iterator reads -/
def PieceRd (p : Nat → Prop) (wide long : Bool) (Bh Bs : Nat) (a : Option Addr) (n cap : Nat) (seed : List (BitVec 8)) (A : World) : Prop :=
  A.cell? ⟨Bh, 0, none⟩ = some (.int .i64 (numW wide long)) ∧ A.cell? ⟨Bs, 0, none⟩ = some (.slice a n cap) ∧ Holds p A a cap seed ∧ Laid8 A
/-- what it yields -/
def PieceY (wide long : Bool) (seed : List (BitVec 8)) (l k : Nat) (A : World) (v : Value) : Prop :=
  ∃ a, v = .slice a (szW wide long) (szW wide long) ∧ Holds (fun c => l < c) A a (szW wide long) (pieceN wide long seed k)

theorem holds_rowM {W : World} {b : Nat} {l : List (BitVec 8)} {e : TypeId} {fz : Nat × Nat} (h : W.heap[b]? = some (.cells (bv l).toArray e fz)) (hl : l.length ≤ 1000000) : Holds (fun k => k = b) W (some ⟨b, 0, none⟩) l.length l :=
  ⟨Nat.le_refl _, by unfold maxLen; omega, .inr ⟨b, 0, rfl, fun _ => rfl, fun i c hi => by
    rw [Nat.zero_add]
    exact block_cell h i (by simp [bv, hi])⟩⟩
theorem num4_cells (k : Nat) (hk : k < 1000) : #[Value.int .u8 ((k : Int) / 16777216), .int .u8 ((k : Int) / 65536), .int .u8 ((k : Int) / 256), .int .u8 ((k : Int) % 256)] = (bv (num4 k)).toArray := by
  have h24 : (k : Int) / 16777216 = wd (BitVec.ofNat 8 (k / 16777216)) := by unfold wd; simp; omega
  have h16 : (k : Int) / 65536 = wd (BitVec.ofNat 8 (k / 65536)) := by unfold wd; simp; omega
  have h8 : (k : Int) / 256 = wd (BitVec.ofNat 8 (k / 256)) := by unfold wd; simp; omega
  have h0 : (k : Int) % 256 = wd (BitVec.ofNat 8 k) := by unfold wd; simp
  rw [h24, h16, h8, h0]; rfl

set_option maxHeartbeats 1000000 in
set_option maxRecDepth 100000 in
theorem pieces1_ok (q : Nat) {p : Nat → Prop} (wide long : Bool) (Bh Bs : Nat) (a : Option Addr) (n cap : Nat) (seed : List (BitVec 8)) (N : Nat) (hN : N ≤ 1000) (hn : Hid (seed.length = n)) (hnb : n ≤ 1000000) :
    IterG Tryd.prog q 46 #[.pointer (some ⟨Bh, 0, none⟩), .pointer (some ⟨Bs, 0, none⟩)] (PieceY wide long seed) (PieceRd p wide long Bh Bs a n cap seed) N := by
  intro lp J Jx W hJ hJx hRd hY hno h0
  have HJ := Lib.hid hJ
  have HR := Lib.hid hRd
  have HY := Lib.hid hY
  have HNO := Lib.hid hno
  have HNB := Lib.hid hnb
  clear hJ hJx hRd hY hno hnb
  unfold PieceRd at HR
  obtain ⟨z, hz⟩ : ∃ z, numW wide long = z := ⟨_, rfl⟩
  have HZ := Lib.hid hz
  rw [hz] at HR
  clear hz
  refine callsIn_of_wp Tryd.func46 rfl trivial ?_ rfl
  simp only [Tryd.ntmps46, List.size_toArray, List.length_cons, List.length_nil, Nat.reduceAdd, Nat.reduceSub, Array.replicate_succ, Array.replicate_zero, List.push_toArray, List.append_toArray, List.nil_append, List.cons_append]
  gi_wp2_with fail
  gi_loopw [4] (fun i wr => ∃ k : Nat, k < N ∧ i = .int .u32 (k : Int) ∧ J k wr) (fun i _ => N - (intOf i).toNat)
  case atStart =>
    refine ⟨0, ?_, rfl, h0⟩
    rcases Nat.lt_or_ge 0 N with h | h
    · exact h
    · exact absurd (by obtain rfl : N = 0 := by omega
                       exact h0) (HNO.out W)
  case round =>
    obtain ⟨k, hk, rfl, hJk⟩ := hrel
    obtain ⟨⟨hc1, hc2, hhs, hlaid⟩, hlsz⟩ := HR.out _ _ hJk
    have HT := Lib.hid hJk
    have HHS := Lib.hid hhs
    have HLD := Lib.hid hlaid
    have HLS := Lib.hid hlsz
    have HKN := Lib.hid hk
    clear hJk hhs hlaid hlsz
    gi_wp2_with fail
    have hx3 : Ext Nope wr (wr.alloc (.cells #[Value.int .u8 ((k : Int) / 16777216), .int .u8 ((k : Int) / 65536), .int .u8 ((k : Int) / 256), .int .u8 ((k : Int) % 256)] 5)) := Ext.alloc _ _ _
    have hb3 : (wr.alloc (.cells #[Value.int .u8 ((k : Int) / 16777216), .int .u8 ((k : Int) / 65536), .int .u8 ((k : Int) / 256), .int .u8 ((k : Int) % 256)] 5)).heap[wr.heap.size]? = some (.cells (bv (num4 k)).toArray 5 (0, 0)) := by
      rw [← num4_cells k (by omega)]; exact World.alloc_heap_new wr _
    have hz3 : (wr.alloc (.cells #[Value.int .u8 ((k : Int) / 16777216), .int .u8 ((k : Int) / 65536), .int .u8 ((k : Int) / 256), .int .u8 ((k : Int) % 256)] 5)).heap.size = wr.heap.size + 1 := World.size_alloc _ _
    obtain ⟨W3, hW3⟩ : ∃ W3, wr.alloc (.cells #[Value.int .u8 ((k : Int) / 16777216), .int .u8 ((k : Int) / 65536), .int .u8 ((k : Int) / 256), .int .u8 ((k : Int) % 256)] 5) = W3 := ⟨_, rfl⟩
    rw [hW3] at hx3 hb3 hz3 ⊢
    obtain ⟨B, hB⟩ : ∃ B, wr.heap.size = B := ⟨_, rfl⟩
    rw [hB] at hb3 hz3 ⊢
    have hx4 : Ext Nope W3 (W3.alloc (.cells #[.slice a n cap, .slice (some ⟨B, 0, none⟩) 4 4] 23)) := Ext.alloc _ _ _
    have hb4 := World.alloc_heap_new W3 (.cells #[.slice a n cap, .slice (some ⟨B, 0, none⟩) 4 4] 23)
    rw [hz3] at hb4
    obtain ⟨W4, hW4⟩ : ∃ W4, W3.alloc (.cells #[.slice a n cap, .slice (some ⟨B, 0, none⟩) 4 4] 23) = W4 := ⟨_, rfl⟩
    rw [hW4] at hx4 hb4 ⊢
    have HX4 : Hid (Ext Nope wr W4) := hx3.trans hx4 (fun _ _ h => h) (fun _ _ h => h)
    have HR4 : Hid (HoldsR (fun _ => True) W4 (some ⟨B + 1, 0, none⟩) 2 [seed, num4 k]) := by
      refine ⟨rfl, .inr ⟨_, 0, rfl, fun j l' hj => ?_⟩⟩
      rw [Nat.zero_add]
      match j, hj with
      | 0, hj => simp at hj; subst hj; exact ⟨_, _, by rw [hn.out]; exact block_cell hb4 0 rfl, (HHS.out.ext HX4.out (fun _ _ h => h)).mono (fun _ _ => trivial)⟩
      | 1, hj => simp at hj; subst hj; exact ⟨_, _, block_cell hb4 1 rfl, (holds_rowM (hx4.heap hb3 (fun h => h)) (by show 4 ≤ _; omega)).mono (fun _ _ => trivial)⟩
      | j + 2, hj => simp at hj
    have HL4 : Hid (Laid8 W4) := HLD.out.ext HX4.out
    have HT4 : Hid (J k W4) := HJ.out _ _ _ HT.out HX4.out
    have HLS4 : Hid (lp < W4.heap.size) := Nat.lt_of_lt_of_le HLS.out HX4.out.size
    clear hx3 hb3 hz3 hx4 hb4 hW3 hW4 hB hc1 hc2
    rw [← HZ.out]
    refine ⟨trivial, fun h => (by cases h), callsIn_wide.2 ((sumW_any wide long _ 2 2 [seed, num4 k] W4 HR4 (by omega) (fun l' h => by have := hn.out; have := HNB.out; simp at h; obtain rfl | rfl := h <;> simp [num4]; omega) HL4.out.1 HL4.out.2.1).mono ?_)⟩
    rintro e w5 ⟨v, rfl, a5, rfl, hh5, hl5, hx5⟩
    have e1 : [seed, num4 k].flatten = seed ++ num4 k := by simp
    rw [e1] at hh5 hl5
    have HT5 : Hid (J k w5) := HJ.out _ _ _ HT4.out hx5
    have HY5 : Hid (PieceY wide long seed lp k w5 (.slice a5 (szW wide long) (szW wide long))) := ⟨a5, rfl, hh5.mono (fun c hc => Nat.lt_of_lt_of_le HLS4.out hc)⟩
    clear hh5 hl5 hx5 e1
    obtain ⟨sz, hsz⟩ : ∃ sz, szW wide long = sz := ⟨_, rfl⟩
    rw [hsz] at HY5 ⊢
    obtain ⟨fn, tmps, assign, body, hy, hRR⟩ := HY.out k w5 _ HKN.out HT5.out HY5.out
    have HRR := Lib.hid hRR
    clear hRR hsz
    gi_wp2_with fail
    refine ⟨fun h => (by cases h), ?_⟩
    refine HRR.out.mono ?_
    rintro e W' (⟨rfl, hJ'⟩ | ⟨rfl, hJx'⟩)
    · have hk1 : k + 1 < N := by
        rcases Nat.lt_or_ge (k + 1) N with h | h
        · exact h
        · exact absurd (by obtain rfl : N = k + 1 := by omega
                           exact hJ') (HNO.out W')
      have HJ' := Lib.hid hJ'
      clear hJ' hy
      gi_wp2_with fail
      exact ⟨⟨k + 1, by omega, by go_num, HJ'.out⟩, by simp [intOf]; omega⟩
    · clear hy
      have HJX := Lib.hid hJx'
      clear hJx'
      gi_wp2_with fail
      refine bodyPost_ret (results_none rfl _ _ _) rfl ?_
      exact ⟨⟨_, rfl⟩, HJX.out⟩
end Go.Proofs.YtjfcldjepgijeaaDoor
