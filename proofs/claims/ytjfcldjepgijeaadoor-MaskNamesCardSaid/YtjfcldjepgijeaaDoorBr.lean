/- bytes.Repeat of one byte. -/
import Derived.Test.YtjfcldjepgijeaaDoorRf
import Derived.Test.YtjfcldjepgijeaaDoorSlb
import Derived.Test.YtjfcldjepgijeaaDoorSq
import Derived.Lib.MakeNoZero
import Derived.Lib.SlBuf
import Derived.Shelf.Bits.Mul64
import Derived.Laws.Externs
namespace Go.Proofs.YtjfcldjepgijeaaDoor
open Go.RowKit Go.Shelf

set_option maxHeartbeats 1000000 in
theorem mul64_any (x y : Nat) (hx : x < 18446744073709551616) (hy : y < 18446744073709551616) (w : World) :
    Calls Tryd.prog 67 #[.int .u64 x, .int .u64 y] w fun e w' => e = .returned (.tuple #[.int .u64 ((x * y / 18446744073709551616 : Nat) : Int), .int .u64 ((x * y % 18446744073709551616 : Nat) : Int)]) ∧ w' = w := by
  obtain ⟨bd, bt, bw, hhi⟩ := Lib.mul64_hi x y hx hy
  have ba := Lib.half_mul_le (a := x / 4294967296) (b := y / 4294967296) (by omega) (by omega)
  have bb := Lib.half_mul_le (a := x / 4294967296) (b := y % 4294967296) (by omega) (by omega)
  have bc := Lib.half_mul_le (a := x % 4294967296) (b := y / 4294967296) (by omega) (by omega)
  have ba' : x / 4294967296 * (y / 4294967296) < 18446744073709551616 := by omega
  have bb' : x / 4294967296 * (y % 4294967296) < 18446744073709551616 := by omega
  have bc' : x % 4294967296 * (y / 4294967296) < 18446744073709551616 := by omega
  have bh1 : x / 4294967296 * (y / 4294967296) + (x / 4294967296 * (y % 4294967296) + x % 4294967296 * (y % 4294967296) / 4294967296) / 4294967296 < 18446744073709551616 := by omega
  have bh : x / 4294967296 * (y / 4294967296) + (x / 4294967296 * (y % 4294967296) + x % 4294967296 * (y % 4294967296) / 4294967296) / 4294967296 + ((x / 4294967296 * (y % 4294967296) + x % 4294967296 * (y % 4294967296) / 4294967296) % 4294967296 + x % 4294967296 * (y / 4294967296)) / 4294967296 < 18446744073709551616 := by omega
  go_enter Tryd.func67, Tryd.ntmps67
  go_wp2
  simp only [Mul64.maskN x hx, Mul64.maskN y hy, Mul64.divN, Mul64.mulN, Mul64.addN, Mul64.wrapN _ bd, Mul64.wrapN _ bb', Mul64.wrapN _ bt, Mul64.maskN _ bt, Mul64.wrapN _ bc', Mul64.wrapN _ bw, Mul64.wrapN _ ba', Mul64.wrapN _ bh1, Mul64.wrapN _ bh, Mul64.wrapM (x * y)]
  rw [hhi]
  go_ret2
  exact ⟨rfl, rfl⟩
theorem mul_one (y : Nat) (hy : y < 9223372036854775807) (w : World) :
    Calls Tryd.prog 48 #[.int .u64 1, .int .u64 y] w fun e w' => e = .returned (.tuple #[.int .u64 0, .int .u64 y]) ∧ w' = w := by
  have c64 := mul64_any 1 y (by omega) (by omega) w
  rw [Nat.one_mul, show y / 18446744073709551616 = 0 by omega, show y % 18446744073709551616 = y by omega] at c64
  go_enter Tryd.func48, Tryd.ntmps48
  go_wp2_with fail
  refine c64.mono ?_
  rintro e w' ⟨rfl, rfl⟩
  go_wp2_with fail
  go_ret2
  exact ⟨rfl, rfl⟩

theorem Ext.transD {D : Nat → Prop} (a b c : World) (h : Ext D a b) (k : Ext D b c) : Ext D a c := h.trans k (fun _ _ h => h) (fun _ _ h => h)
instance (D : Nat → Prop) (w : World) : Nonempty (WG (Ext D w)) := ⟨⟨w, Ext.refl _ w⟩⟩
/-- a region that draws its order by a plan; what is loud may turn the blocks D -/
theorem wpIn_region_planD (D : Nat → Prop) {P : Program} {n : Nat} {r : Option Nat} {id : Nat} {Q : Exit → Act → World → Prop} {a : Act} {w : World} {l : List Oper} (L : List (List Nat × Nat)) (S' : List Nat) (hm : P.follows .mixedOrders = true)
    (hB : (Region.noSelect l.toArray && noDefer l && planB .any l.toArray S' L (Array.replicate l.length false) && decide (planSize S' L = l.length)) = true)
    (h : wpPlan (FR r) n P l.toArray (noPan Q) (Ext D) S' L a w.drew) : (Code.region id l.toArray true).wpIn (FR r) n P Q a w := by
  simp only [Bool.and_eq_true, decide_eq_true_eq] at hB
  obtain ⟨⟨⟨hsel, hd⟩, hp⟩, hlen⟩ := hB
  refine wpIn_mono (Q := noPan Q) ?_ noPan_imp
  refine wpIn_region_any hm (wpAnyIn_of_R (R := Ext D) _ _ _ _ ?_)
  have := wpAnyR_plan (n := n) (r := r) (md := .any) (R := Ext D) (fun w => Ext.refl D w) Ext.transD hsel (noDefer_spec hd) (Q := noPan Q) (fun _ _ _ _ _ h => h) S' L (Array.replicate l.length false) a w.drew hp h
  rw [hlen] at this
  simpa using this
theorem wp_region_planD (D : Nat → Prop) {P : Program} {id : Nat} {Q : Exit → Act → World → Prop} {a : Act} {w : World} {l : List Oper} (L : List (List Nat × Nat)) (S' : List Nat) (hm : P.follows .mixedOrders = true)
    (hB : (Region.noSelect l.toArray && noDefer l && planB .any l.toArray S' L (Array.replicate l.length false) && decide (planSize S' L = l.length)) = true)
    (h : wpPlan FW 9 P l.toArray (noPan Q) (Ext D) S' L a w.drew) : (Code.region id l.toArray true).wp P Q a w :=
  (wpIn_wide (n := 9)).1 (wpIn_region_planD D (r := none) L S' hm hB h)

/-- a row that is being filled -/
def RepB (W : World) (B n k : Nat) (c : BitVec 8) : Prop := ∃ cs : Array Value, W.heap[B]? = some (.cells cs 5 (0, 0)) ∧ n ≤ cs.size ∧ ∀ j, j < k → cs[j]? = some (.int .u8 (wd c))
theorem rep_set {B n : Nat} {c : BitVec 8} : ∀ (q k : Nat) (V : World), RepB V B n k c → k + q ≤ n →
    RepB (V.setCells B k (List.replicate q (.int .u8 (wd c)))) B n (k + q) c ∧ Ext (Just B) V (V.setCells B k (List.replicate q (.int .u8 (wd c))))
  | 0, _, _, h, _ => ⟨h, Ext.refl _ _⟩
  | q + 1, k, V, h, hk => by
    obtain ⟨cs, h1, h2, h3⟩ := h
    have hs := block_set h1 k (.int .u8 (wd c))
    have h' : RepB (V.setCell ⟨B, k, none⟩ (.int .u8 (wd c))) B n (k + 1) c := ⟨_, hs, by simpa using h2, fun j hj => by
      by_cases e : j = k
      · subst e; rw [Array.getElem?_setIfInBounds_self_of_lt (by omega)]
      · rw [Array.getElem?_setIfInBounds_ne (fun h => e h.symm)]; exact h3 j (by omega)⟩
    obtain ⟨g1, g2⟩ := rep_set q (k + 1) _ h' (by omega)
    rw [List.replicate_succ, World.setCells]
    exact ⟨by rw [show k + (q + 1) = k + 1 + q by omega]; exact g1, (Ext.setCell (D := Just B) V ⟨B, k, none⟩ _ rfl).trans (E := Just B) g2 (fun _ _ h => h) (fun _ _ h => h)⟩
theorem rep_copy {V : World} {B n k m q : Nat} {c : BitVec 8} (h : RepB V B n k c) (hm : m ≤ k) (hq : Nat.min m (n - k) = q) (hk : k + q ≤ n) (d1 d2 : Nat) :
    ∃ V', (Builtin.copy_ #[23, 23] 3 #[.slice (some ⟨B, k, none⟩) (n - k) d1, .slice (some ⟨B, 0, none⟩) m d2]).run Tryd.prog V = .ok (.int .i64 q) V' ∧ RepB V' B n (k + q) c ∧ Ext (Just B) V V' := by
  obtain ⟨g1, g2⟩ := rep_set q k V h hk
  obtain ⟨cs, h1, h2, h3⟩ := h
  have hqm : q ≤ m := by rw [← hq]; exact Nat.min_le_left _ _
  have hrun := run_copy_cells (P := Tryd.prog) V 23 23 3 5 B k (n - k) d1 ⟨B, 0, none⟩ m d2 (List.replicate q (.int .u8 (wd c))) Tryd.uB (by kernel_rfl) (by simp [hq])
    (fun j v hj => by
      rw [List.getElem?_replicate] at hj
      split at hj
      · cases hj
        rw [addr_add, Nat.zero_add]
        exact block_cell h1 j (h3 j (by omega))
      · cases hj)
    (fun j hj => by
      rw [List.length_replicate] at hj
      rw [block_cell h1 (k + j) (Array.getElem?_eq_getElem (by omega))]; rfl)
    (fun j _ => block_free h1 _) (fun v hv => by rw [(List.mem_replicate.1 hv).2]; rfl)
  rw [List.length_replicate] at hrun
  exact ⟨_, hrun, g1, g2⟩
theorem one_copy {V : World} {B n b : Nat} {c : BitVec 8} {cs : Array Value} (h1 : V.heap[B]? = some (.cells cs 5 (0, 0))) (hc : V.cell? ⟨b, 0, none⟩ = some (.int .u8 (wd c))) (h2 : n ≤ cs.size) (hn : 1 ≤ n) (d1 d2 : Nat) :
    ∃ V', (Builtin.copy_ #[23, 23] 3 #[.slice (some ⟨B, 0, none⟩) n d1, .slice (some ⟨b, 0, none⟩) 1 d2]).run Tryd.prog V = .ok (.int .i64 1) V' ∧ RepB V' B n 1 c ∧ Ext (Just B) V V' := by
  have hrun := run_copy_cells (P := Tryd.prog) V 23 23 3 5 B 0 n d1 ⟨b, 0, none⟩ 1 d2 [.int .u8 (wd c)] Tryd.uB (by kernel_rfl) (by simp [Nat.min_eq_left hn])
    (fun j v hj => by
      match j, hj with
      | 0, hj => simp at hj; subst hj; exact hc
      | j + 1, hj => simp at hj)
    (fun j hj => by
      simp at hj; subst hj
      rw [Nat.zero_add, block_cell h1 0 (Array.getElem?_eq_getElem (by omega))]; rfl)
    (fun j _ => block_free h1 _) (fun v hv => by simp at hv; subst hv; rfl)
  refine ⟨_, hrun, ⟨_, block_set h1 0 _, by simpa using h2, fun j hj => ?_⟩, Ext.setCell (D := Just B) V ⟨B, 0, none⟩ _ rfl⟩
  obtain rfl : j = 0 := by omega
  rw [Array.getElem?_setIfInBounds_self_of_lt (by omega)]

set_option maxHeartbeats 1000000 in
set_option maxRecDepth 100000 in
theorem repeat_any (b cap n : Nat) (c : BitVec 8) (W : World) (h1 : 1 ≤ n) (hn : n ≤ 8192) (hc : W.cell? ⟨b, 0, none⟩ = some (.int .u8 (wd c))) :
    Calls Tryd.prog 29 #[.slice (some ⟨b, 0, none⟩) 1 cap, .int .i64 n] W fun e W' => ∃ a, e = .returned (.slice a n n) ∧ Holds (fun k => W.heap.size ≤ k) W' a n (List.replicate n c) ∧ Ext Nope W W' := by
  have HM := Lib.hid (mul_one n (by omega) W)
  obtain ⟨cs, hrunM, hle, _⟩ := Lib.run_makeNoZero (P := Tryd.prog) W #[3] 23 5 Tryd.uB n (by omega)
  have hcall : (callFunc 49 #[.int .i64 (n : Int)]).run Tryd.prog W = .ok (.value (.slice (some ⟨W.heap.size, 0, none⟩) n cs.size)) (W.drew.drew.alloc (.cells cs 5)) := by
    rw [run_callFunc_extern Tryd.func49 (by kernel_rfl) (by kernel_rfl) (by kernel_rfl) (e := Extern.BytealgMakeNoZero.makeNoZero #[3] #[23]) (by kernel_rfl), hrunM]
    rfl
  clear hrunM
  obtain ⟨V1, hV1⟩ : ∃ V1, W.drew.drew.alloc (.cells cs 5) = V1 := ⟨_, rfl⟩
  have hx1 : Ext Nope W V1 := by rw [← hV1]; exact ((Ext.drew Nope W).trans (Ext.drew Nope _) (fun _ _ h => h) (fun _ _ h => h)).trans (Ext.alloc Nope _ _) (fun _ _ h => h) (fun _ _ h => h)
  have hb1 : V1.heap[W.heap.size]? = some (.cells cs 5 (0, 0)) := by rw [← hV1]; exact World.alloc_heap_new W.drew.drew _
  have hc1 := hx1.cell hc (fun h => h)
  rw [hV1] at hcall
  clear hV1 hc
  obtain ⟨V2, hcp, hr2, hx2⟩ := one_copy hb1 hc1 hle h1 n cap
  have HR2 := Lib.hid hr2
  have HX2 : Hid (Ext Nope W V2) := hx1.trans hx2 (fun _ _ h => h) (fun j hj h => by have : j = W.heap.size := h; omega)
  have i0 : ¬ ((n : Int) = 0) := by omega
  have i1 : (n : Int) ≤ (cs.size : Int) := by omega
  have i2 : ¬ ((n : Int) < 0) := by omega
  have i3 : ¬ (8192 < (n : Int)) := by omega
  have HH1 := Lib.hid h1
  have HHN := Lib.hid hn
  clear hr2 hx2 hx1 hb1 hc1 hle
  obtain ⟨B, hB⟩ : ∃ B, W.heap.size = B := ⟨_, rfl⟩
  have HBW : Hid (W.heap.size ≤ B) := Nat.le_of_eq hB
  rw [hB] at hcall hcp HR2 ⊢
  clear hB
  go_enter Tryd.func29, Tryd.ntmps29
  go_wp2_with fail
  refine HM.out.mono ?_
  rintro e w' ⟨rfl, hw⟩
  rw [hw]
  clear hw w'
  go_wp2_with fail
  clear hcall hcp i1
  go_loopw [10] (fun v V => ∃ k : Nat, v = .int .i64 k ∧ 1 ≤ k ∧ k ≤ n ∧ RepB V B n k c ∧ Ext Nope W V) (fun v _ => n - (intOf v).toNat)
  case atStart => exact ⟨1, rfl, by omega, HH1.out, HR2.out, HX2.out⟩
  case round =>
    obtain ⟨k, rfl, hk1, hkn, hr, hx⟩ := hrel
    have HR := Lib.hid hr
    have HX := Lib.hid hx
    have HK1 := Lib.hid hk1
    clear hr hx hk1
    by_cases hlt : k < n
    · have hltI : (k : Int) < n := by omega
      have hmin : min (k : Int) n = k := by omega
      have hne : ¬ (n = k) := by omega
      obtain ⟨q, hq⟩ : ∃ q, Nat.min k (n - k) = q := ⟨_, rfl⟩
      have HQ := Lib.hid hq
      have HQ1 : Hid (1 ≤ q ∧ k + q ≤ n) := by rw [← hq]; have := HK1.out; have e : Nat.min k (n - k) = min k (n - k) := rfl; rw [e]; unfold Hid; omega
      clear hq
      go_wp2_with fail
      refine wp_region_planD (Just B) [([0, 1, 2, 3, 4, 5, 6], 7)] [8, 9] (by kernel_rfl) (by kernel_rfl) ?_
      obtain ⟨V4, hV4⟩ : ∃ V4, wr.drew = V4 := ⟨_, rfl⟩
      have HX4 : Hid (Ext Nope wr V4) := by rw [← hV4]; exact Ext.drew _ _
      rw [hV4]
      clear hV4
      refine wpPlan_look [_, _, _, _, _, _, _] rfl (fun K' hK' => ?_)
      simp only [List.getElem_toArray, List.getElem_cons_succ, List.getElem_cons_zero]
      repeat (go_big_quiet_step (fail))
      refine wpQuiet_nil ?_
      apply hK'
      clear hK'
      refine wpOpIn_loud rfl (by kernel_rfl) (fun K hK => ?_)
      have HR4 : Hid (RepB V4 B n k c) := by
        obtain ⟨cs', g1, g2, g3⟩ := HR.out
        exact ⟨cs', HX4.out.heap g1 (fun h => h), g2, g3⟩
      obtain ⟨V5, hcp, hr5, hx5⟩ := rep_copy HR4.out (Nat.le_refl k) HQ.out HQ1.out.2 (n - k) n
      have HR5 := Lib.hid hr5
      have HX5 : Hid (Ext Nope W V5) := (HX.out.trans HX4.out (fun _ _ h => h) (fun _ _ h => h)).trans hx5 (fun _ _ h => h) (fun j hj h => by have : j = B := h; have := HBW.out; omega)
      have HX45 := Lib.hid hx5
      have HSUM : Hid (wrap64 ((k : Int) + (q : Int)) = ((k + q : Nat) : Int)) := by have := HQ1.out; have := HHN.out; unfold Hid wrap64; omega
      clear hr5 hx5
      gi_wp2_with fail
      refine ⟨HX45.out, ?_⟩
      refine wpPlan_last [_, _] rfl (fun K' hK' => ?_)
      simp only [List.getElem_toArray, List.getElem_cons_succ, List.getElem_cons_zero]
      repeat (go_big_quiet_step (fail))
      refine wpQuiet_nil ?_
      apply hK'
      rw [noPan_normal]
      clear hK'
      go_wp2_with fail
      have := HQ1.out
      rw [HSUM.out]
      exact ⟨⟨k + q, rfl, by omega, by omega, HR5.out, HX5.out⟩, by simp [intOf]; omega⟩
    · obtain rfl : k = n := by omega
      have hltI : ¬ ((k : Int) < k) := by omega
      go_wp2_with fail
      go_ret
      refine ⟨_, rfl, ⟨by simp, by unfold maxLen; have := HHN.out; omega, .inr ⟨B, 0, rfl, fun _ => Nat.le_refl _, fun i d hd => ?_⟩⟩, HX.out⟩
      obtain ⟨cs', g1, g2, g3⟩ := HR.out
      rw [List.getElem?_replicate] at hd
      split at hd
      · cases hd
        rw [Nat.zero_add]
        exact block_cell g1 i (g3 i (by omega))
      · cases hd
end Go.Proofs.YtjfcldjepgijeaaDoor
