/- The reference's filling up. -/
import Derived.Test.YtcjcnpjedmpghaaDoorFh
import Derived.Deep.LoopGhost
namespace Go.Proofs.YtcjcnpjedmpghaaDoor
open Go.RowKit

theorem holds_one (W : World) (c : BitVec 8) (z : Int) (hz : z = wd c) : Holds (fun b => W.heap.size ≤ b) (W.alloc (.cells #[.int .u8 z] 5)) (some ⟨W.heap.size, 0, none⟩) 1 [c] :=
  ⟨by simp, by unfold maxLen; omega, .inr ⟨_, 0, rfl, fun _ => Nat.le_refl _, fun i d hd => by
    obtain ⟨h1, h2⟩ := List.getElem?_eq_some_iff.1 hd
    simp at h1; subst h1; simp at h2; subst h2
    rw [Nat.add_zero, hz]; exact block_cell (World.alloc_heap_new W _) 0 rfl⟩⟩
/-- the last i bytes of a number -/
def fillTail (n : Nat) : Nat → List (BitVec 8)
  | 0 => []
  | i + 1 => BitVec.ofNat 8 (n / 256 ^ i) :: fillTail n i
theorem fillTail_length (n i : Nat) : (fillTail n i).length = i := by induction i with
  | zero => rfl
  | succ i ih => simp [fillTail, ih]
def fillZ (n block tail : Nat) : Nat := (block - (n + 1 + tail) % block) % block
theorem fillZ_lt (n block tail : Nat) (hb : 0 < block) : fillZ n block tail < block := Nat.mod_lt _ hb
theorem fillZ_stop {n block tail z : Nat} (hb : 0 < block) (hz : z ≤ fillZ n block tail) : (n + 1 + z + tail) % block = 0 ↔ z = fillZ n block tail := by
  have hlt := Nat.mod_lt (n + 1 + tail) hb
  have e : n + 1 + z + tail = n + 1 + tail + z := by omega
  unfold fillZ at *
  rw [e, Nat.add_mod]
  generalize (n + 1 + tail) % block = r at *
  by_cases h0 : r = 0
  · subst h0
    rw [Nat.sub_zero, Nat.mod_self] at *
    obtain rfl : z = 0 := by omega
    simp
  · rw [Nat.mod_eq_of_lt (show block - r < block by omega)] at *
    have hzl : z % block = z := Nat.mod_eq_of_lt (by omega)
    rw [hzl]
    rcases Nat.lt_or_ge (r + z) block with h | h
    · rw [Nat.mod_eq_of_lt h]; omega
    · have : r + z = block := by omega
      rw [this, Nat.mod_self]; omega

set_option maxHeartbeats 2000000 in
set_option maxRecDepth 100000 in
theorem fill_any {p : Nat → Prop} (block tail : Nat) (hb0 : 0 < block) (hb : block ≤ 128) (ht : tail ≤ 16) (a : Option Addr) (n cap : Nat) (l : List (BitVec 8)) (W : World) (hh : Hid (Holds p W a cap l)) (hn : Hid (l.length = n)) (hnb : n ≤ 100000) :
    Calls Tryd.prog 20 #[.slice a n cap, .int .i64 block, .int .i64 tail] W fun e W' => ∃ v, e = .returned v ∧
      W'.ownsRow W.heap.size 5 1 v (n + 1 + fillZ n block tail + tail) (bv (l ++ (128 : BitVec 8) :: List.replicate (fillZ n block tail) 0 ++ fillTail (8 * n) tail)) ∧ Ext Nope W W' := by
  obtain ⟨i, hi, hzi, hszi, hby⟩ := info_parts Tryd.infoB
  go_enter Tryd.func20, Tryd.ntmps20
  have HO0 : Hid (W.ownsRow W.heap.size 5 1 (.slice none 0 0) 0 (bv [])) := ⟨rfl, .inl ⟨rfl, rfl⟩⟩
  go_wp2_with (at_builtin; refine wpList_append_b rfl (.tmp 11) (.tmp 12) _ _ rfl Tryd.uB hi hzi hszi hby W.heap.size rfl HO0.out rfl hh.out hn.out ?c1 ?c2 ?_)
  case c1 => have := hn.out; simp; omega
  case c2 => exact Nat.le_refl _
  intro v1 w1 ho1 hg1 _
  have HO1 : Hid (w1.ownsRow W.heap.size 5 1 v1 n (bv l)) := by have := ho1; rw [hn.out] at this; exact this
  have HX1 : Hid (Ext Nope W w1) := (Ext.grownBy (D := fun c => W.heap.size ≤ c) hg1 (fun b hb => (HO0.out.lt b hb).1)).mono (fun j hj h => by have : W.heap.size ≤ j := h; omega)
  obtain ⟨a1, c1, rfl⟩ := owns_form HO1.out
  have HL1 := Lib.hid (holds_one w1 128 128 rfl)
  have HO1b := Lib.hid (HO1.out.alloc (.cells #[.int .u8 128] 5))
  clear ho1 hg1
  go_wp2_with (at_builtin; refine wpList_append_b rfl (.tmp 14) (.tmp 15) _ _ rfl Tryd.uB hi hzi hszi hby W.heap.size rfl HO1b.out rfl HL1.out (k := 1) rfl ?c1 ?c2 ?_)
  case c1 => have := hn.out; simp; omega
  case c2 => exact Nat.le_trans HX1.out.size (Ext.alloc Nope _ _).size
  intro v2 w2 ho2 hg2 _
  have HO2 : Hid (w2.ownsRow W.heap.size 5 1 v2 (n + 1 + 0) (bv (l ++ (128 : BitVec 8) :: List.replicate 0 0))) := by
    have := ho2
    rw [hn.out] at this
    exact this
  have HX2 : Hid (Ext Nope W w2) := (HX1.out.trans (Ext.alloc Nope _ _) (fun _ _ h => h) (fun _ _ h => h)).trans (Ext.grownBy (D := fun c => W.heap.size ≤ c) hg2 (fun b hb => (HO1b.out.lt b hb).1)) (fun _ _ h => h) (fun j hj h => by have : W.heap.size ≤ j := h; omega)
  obtain ⟨a2, c2, rfl⟩ := owns_form HO2.out
  clear ho2 hg2
  have hfz := fillZ_lt n block tail hb0
  have hlc : Hid (n ≤ cap) := by have := hh.out.len; have := hn.out; unfold Hid; omega
  go_wp2_with fail
  go_loopg [7] (fillZ n block tail) (fun g vo V => ∃ z : Nat, z + g = fillZ n block tail ∧ V.ownsRow W.heap.size 5 1 vo (n + 1 + z) (bv (l ++ (128 : BitVec 8) :: List.replicate z 0)) ∧ Ext Nope W V)
  case atStart => exact ⟨0, by omega, HO2.out, HX2.out⟩
  case round =>
    obtain ⟨z, hz, hown, hx⟩ := hrel
    have HOZ := Lib.hid hown
    have HXZ := Lib.hid hx
    obtain ⟨az, cz, rfl⟩ := owns_form hown
    clear hown hx
    have hst := fillZ_stop (n := n) (block := block) (tail := tail) (z := z) hb0 (by omega)
    obtain ⟨N, hN⟩ : ∃ N, n + 1 + z = N := ⟨_, rfl⟩
    rw [hN] at HOZ hst ⊢
    have hNl : N ≤ 200000 := by omega
    obtain ⟨r, hr⟩ : ∃ r, (N + tail) % block = r := ⟨_, rfl⟩
    have hrI : ((N : Int) + (tail : Int)) % (block : Int) = (r : Int) := by rw [← hr]; simp
    rw [hr] at hst
    have HST := Lib.hid hst
    have HNN := Lib.hid hN
    have hbi : ¬ ((block : Int) = 0) := by omega
    clear hst hr hN
    by_cases hr0 : r = 0
    · have hr0I : ((r : Int) != 0) = false := by simp [hr0]
      have HZE : Hid (z = fillZ n block tail) := HST.out.1 hr0
      go_wp2_with fail
      obtain ⟨OUT, hOUT⟩ : ∃ OUT, l ++ (128 : BitVec 8) :: List.replicate z 0 = OUT := ⟨_, rfl⟩
      rw [hOUT] at HOZ
      have HOUT := Lib.hid hOUT
      obtain ⟨wo, hwo⟩ : ∃ wo, wo = wr := ⟨_, rfl⟩
      subst hwo
      clear hOUT hrI hr0I
      go_loopw [9, 8, 10] (fun vl vn vi V => ∃ (j m : Nat), j ≤ tail ∧ vi = .int .i64 j ∧ vn = .int .u64 m ∧ m = 8 * n / 256 ^ j ∧ V.ownsRow W.heap.size 5 1 vl j (bv (fillTail (8 * n) j)) ∧ Ext Nope wo V) (fun _ _ i _ => tail - (intOf i).toNat)
      case atStart => exact ⟨0, 8 * n, by omega, rfl, by congr 1, by simp, ⟨rfl, .inl ⟨rfl, rfl⟩⟩, Ext.refl _ _⟩
      case round =>
        obtain ⟨j, m, hj, rfl, rfl, hm, hown, hx⟩ := hrel
        have HOJ := Lib.hid hown
        have HXJ := Lib.hid hx
        obtain ⟨aj, cj, rfl⟩ := owns_form hown
        have HM := Lib.hid hm
        have hml : m ≤ 8 * n := by rw [hm]; exact Nat.div_le_self _ _
        clear hown hx hm
        by_cases hlt : j < tail
        · have hltI : (j : Int) < (tail : Int) := by omega
          have hwd : ((m : Int) % 256) = wd (BitVec.ofNat 8 m) := by unfold wd; simp
          have HOW : Hid ((wr.alloc (.cells #[.int .u8 ((m : Int) % 256)] 5)).ownsRow wr.heap.size 5 1 (.slice (some ⟨wr.heap.size, 0, none⟩) 1 1) 1 (bv [BitVec.ofNat 8 m])) := by
            refine ⟨rfl, .inr ⟨_, 1, _, rfl, Nat.le_refl _, World.alloc_heap_new wr _, Nat.le_refl _, by unfold maxLen; omega, rfl, ?_⟩⟩
            rw [hwd]; rfl
          have HHJ : Hid (Holds (fun c => W.heap.size ≤ c) (wr.alloc (.cells #[.int .u8 ((m : Int) % 256)] 5)) aj cj (fillTail (8 * n) j)) := by
            obtain ⟨_, a', c', e, hh'⟩ := owns_shape HOJ.out
            simp only [Value.slice.injEq] at e
            obtain ⟨rfl, _, rfl⟩ := e
            exact (hh'.mono (fun c hc => hc.1)).ext (Ext.alloc Nope _ _) (fun _ _ h => h)
          have hfl := fillTail_length (8 * n) j
          clear hwd
          go_wp2_with (at_builtin; refine wpList_append_b rfl (.tmp 39) (.tmp 40) _ _ rfl Tryd.uB hi hzi hszi hby wr.heap.size rfl HOW.out rfl HHJ.out hfl ?c1 ?c2 ?_)
          case c1 => rw [hfl]; simp; omega
          case c2 => exact (Ext.alloc Nope _ _).size
          intro v4 w4 ho4 hg4 _
          have HX4 : Hid (Ext Nope wr w4) := (Ext.alloc Nope _ _).trans (Ext.grownBy (D := fun c => wr.heap.size ≤ c) hg4 (fun b hb => (HOW.out.lt b hb).1)) (fun _ _ h => h) (fun j hj h => by have : wr.heap.size ≤ j := h; omega)
          have HO4 : Hid (w4.ownsRow W.heap.size 5 1 v4 (j + 1) (bv (fillTail (8 * n) (j + 1)))) := by
            have e : BitVec.ofNat 8 m :: fillTail (8 * n) j = fillTail (8 * n) (j + 1) := by rw [HM.out]; rfl
            have h1 := ho4
            rw [e] at h1
            have hsz : W.heap.size ≤ wr.heap.size := Nat.le_trans HXZ.out.size HXJ.out.size
            exact ⟨h1.1, h1.2.elim Or.inl (fun ⟨g, cap, cur, hv, hg, r⟩ => Or.inr ⟨g, cap, cur, hv, Nat.le_trans hsz hg, r⟩)⟩
          clear ho4 hg4
          go_wp2_with fail
          refine ⟨?_, by simp [intOf]; omega⟩
          repeat (apply Exists.intro)
          refine ⟨?_, rfl⟩
          exact ⟨j + 1, m / 256, by omega, by congr 1, by congr 1, by rw [HM.out, Nat.pow_succ, Nat.div_div_eq_div_mul], HO4.out, HXJ.out.trans HX4.out (fun _ _ h => h) (fun _ _ h => h)⟩
        · have hltI : ¬ ((j : Int) < (tail : Int)) := by omega
          obtain rfl : j = tail := by omega
          have HOO : Hid (wr.ownsRow W.heap.size 5 1 (.slice az N cz) N (bv OUT)) := HXJ.out.owns HOZ.out (fun _ _ h => h)
          have HHJ : Hid (Holds (fun c => W.heap.size ≤ c) wr aj cj (fillTail (8 * n) j)) := by
            obtain ⟨_, a', c', e, hh'⟩ := owns_shape HOJ.out
            simp only [Value.slice.injEq] at e
            obtain ⟨rfl, _, rfl⟩ := e
            exact hh'.mono (fun c hc => hc.1)
          have hfl := fillTail_length (8 * n) j
          have HOL : Hid (OUT.length = N) := by rw [← HOUT.out]; have := hn.out; have := HNN.out; unfold Hid; simp; omega
          go_wp2_with (at_builtin; refine wpList_append_b rfl (.tmp 44) (.tmp 45) _ _ rfl Tryd.uB hi hzi hszi hby W.heap.size rfl HOO.out rfl HHJ.out hfl ?c1 ?c2 ?_)
          case c1 => have := HOL.out; omega
          case c2 => exact Nat.le_trans HXZ.out.size HXJ.out.size
          intro v5 w5 ho5 hg5 _
          have HX5 : Hid (Ext Nope W w5) := (HXZ.out.trans HXJ.out (fun _ _ h => h) (fun _ _ h => h)).trans (Ext.grownBy (D := fun c => W.heap.size ≤ c) hg5 (fun b hb => (HOO.out.lt b hb).1)) (fun _ _ h => h) (fun j hj h => by have : W.heap.size ≤ j := h; omega)
          have HO5 := Lib.hid ho5
          clear ho5 hg5
          go_wp2_with fail
          go_ret
          refine ⟨_, rfl, ?_, HX5.out⟩
          have h1 := HO5.out
          rw [HOL.out, ← HOUT.out, HZE.out] at h1
          rw [show n + 1 + fillZ n block j + j = N + j by rw [← HZE.out]; have := HNN.out; omega]
          exact h1
    · have hr0I : ((r : Int) != 0) = true := by simp [hr0]
      have HZE : Hid (z ≠ fillZ n block tail) := fun e => hr0 (HST.out.2 e)
      have HLZ := Lib.hid (holds_one wr 0 0 rfl)
      have HOZb := Lib.hid (HOZ.out.alloc (.cells #[.int .u8 0] 5))
      go_wp2_with (at_builtin; refine wpList_append_b rfl (.tmp 24) (.tmp 25) _ _ rfl Tryd.uB hi hzi hszi hby W.heap.size rfl HOZb.out rfl HLZ.out (k := 1) rfl ?c1 ?c2 ?_)
      case c1 => have := hn.out; simp; omega
      case c2 => exact Nat.le_trans HXZ.out.size (Ext.alloc Nope _ _).size
      intro v3 w3 ho3 hg3 _
      have HO3 := Lib.hid ho3
      have HX3 : Hid (Ext Nope W w3) := (HXZ.out.trans (Ext.alloc Nope _ _) (fun _ _ h => h) (fun _ _ h => h)).trans (Ext.grownBy (D := fun c => W.heap.size ≤ c) hg3 (fun b hb => (HOZb.out.lt b hb).1)) (fun _ _ h => h) (fun j hj h => by have : W.heap.size ≤ j := h; omega)
      clear ho3 hg3
      go_wp2_with fail
      go_roundg (fillZ n block tail - (z + 1))
      case measure => have := HZE.out; omega
      case rel =>
        refine ⟨z + 1, by have := HZE.out; omega, ?_, HX3.out⟩
        have e : l ++ (128#8 :: (List.replicate z 0#8 ++ [0#8])) = l ++ (128 : BitVec 8) :: List.replicate (z + 1) 0 := by rw [List.replicate_succ']; rfl
        have e2 : l.length + (z + 1 + 1) = n + 1 + (z + 1) := by have := hn.out; omega
        have h3 := HO3.out
        rw [e, e2] at h3
        exact h3
end Go.Proofs.YtcjcnpjedmpghaaDoor
