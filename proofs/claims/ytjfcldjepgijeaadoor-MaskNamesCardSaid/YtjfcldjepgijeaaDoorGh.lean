/- The hash of a state of sha256. -/
import Derived.Test.YtjfcldjepgijeaaDoorGg
namespace Go.Proofs.YtjfcldjepgijeaaDoor
open Go.RowKit Go.Shelf

theorem indexg8 (c0 c1 c2 c3 c4 c5 c6 c7 v : Value) (k : Nat) (h : [c0, c1, c2, c3, c4, c5, c6, c7][k]? = some v) (w : World) :
    (Instr.index 77 (.agg #[c0, c1, c2, c3, c4, c5, c6, c7]) (.int .i64 k)).run Tryd.prog w = .ok v w := by
  have hk := (List.getElem?_eq_some_iff.1 h).1
  simp at hk
  obtain rfl | rfl | rfl | rfl | rfl | rfl | rfl | rfl : k = 0 ∨ k = 1 ∨ k = 2 ∨ k = 3 ∨ k = 4 ∨ k = 5 ∨ k = 6 ∨ k = 7 := by omega
  all_goals (have e := Option.some.inj h; subst e; show _ = _; kernel_rfl)
theorem u8_mod (z : Int) : IntKind.u8.wrap z = z % 256 := by simp [IntKind.wrap, IntKind.bits, IntKind.signed]
theorem szg_byte (tk : BitVec 64) (k : Nat) : IntKind.u64.wrap ((8 : Int) * wd tk) / (2 : Int) ^ k % (256 : Int) = wd (((8 * tk) >>> k).setWidth 8) := by
  have e8 : (8 : BitVec 64) * tk = tk <<< 3 := by
    apply BitVec.eq_of_toNat_eq
    rw [BitVec.toNat_mul, BitVec.toNat_shiftLeft, Nat.shiftLeft_eq, Nat.mul_comm]; rfl
  rw [show (8 : Int) * wd tk = wd tk * 2 ^ 3 by rw [Int.mul_comm]; rfl, u64_shl, wd_shr', ← u8_mod, u8_of64, e8]
theorem size8_succ (tk : BitVec 64) (i : Nat) : size8 tk (i + 1) = size8 tk i ++ [((8 * tk) >>> (8 * (7 - i))).setWidth 8] := by
  simp [size8, List.range_succ]
/-- four bytes that are laid -/
theorem holds_lit4 (W : World) (c0 c1 c2 c3 : BitVec 8) (z0 z1 z2 z3 : Int) (h0 : wd c0 = z0) (h1 : wd c1 = z1) (h2 : wd c2 = z2) (h3 : wd c3 = z3) :
    Holds (fun b => W.heap.size ≤ b) (W.alloc (.cells #[.int .u8 z0, .int .u8 z1, .int .u8 z2, .int .u8 z3] 5)) (some ⟨W.heap.size, 0, none⟩) 4 [c0, c1, c2, c3] :=
  ⟨by simp, by unfold maxLen; omega, .inr ⟨_, 0, rfl, fun _ => Nat.le_refl _, fun i d hd => by
    subst h0 h1 h2 h3
    rw [Nat.zero_add]
    match i, hd with
    | 0, hd => simp at hd; subst hd; exact block_cell (World.alloc_heap_new W _) 0 rfl
    | 1, hd => simp at hd; subst hd; exact block_cell (World.alloc_heap_new W _) 1 rfl
    | 2, hd => simp at hd; subst hd; exact block_cell (World.alloc_heap_new W _) 2 rfl
    | 3, hd => simp at hd; subst hd; exact block_cell (World.alloc_heap_new W _) 3 rfl
    | i + 4, hd => simp at hd⟩⟩
theorem holds_lit1g (W : World) (c : BitVec 8) (z : Int) (hz : wd c = z) : Holds (fun b => W.heap.size ≤ b) (W.alloc (.cells #[.int .u8 z] 5)) (some ⟨W.heap.size, 0, none⟩) 1 [c] :=
  ⟨by simp, by unfold maxLen; omega, .inr ⟨_, 0, rfl, fun _ => Nat.le_refl _, fun i d hd => by
    obtain ⟨h1, h2⟩ := List.getElem?_eq_some_iff.1 hd
    simp at h1; subst h1; simp at h2; subst h2
    rw [Nat.add_zero]; rw [hz]; exact block_cell (World.alloc_heap_new W _) 0 rfl⟩⟩

theorem gb_byte (x : BitVec 32) (k : Nat) : wd x / (2 : Int) ^ k % (256 : Int) = wd ((x >>> k).setWidth 8) := by
  rw [wd_shr', ← u8_mod]
  exact u8_of32 _
theorem gb_byte0 (x : BitVec 32) : wd x % (256 : Int) = wd (x.setWidth 8) := by
  rw [← u8_mod]
  exact u8_of32 _

def SumGPost (W : World) (n : Nat) (l : List (BitVec 8)) (e : Ending) (W' : World) : Prop :=
  ∃ g cur, e = .returned (.slice (some ⟨g, 0, none⟩) n n) ∧ W.heap.size ≤ g ∧ W'.heap[g]? = some (.cells cur 5 (0, 0)) ∧ n ≤ cur.size ∧ cur.toList.take n = bv l ∧ l.length = n ∧ Ext Nope W W'

set_option maxHeartbeats 4000000 in
set_option maxRecDepth 100000 in
theorem sumg_any (b : Nat) (sz : Nat) (s8 : G8) (r : List (BitVec 8)) (tk : BitVec 64) (W : World) (hs : Hid (IsG W b sz s8 r tk)) (h0 : 0 < sz) (h32 : sz ≤ 32) (hr : Hid (r.length < 64)) (hcu : Hid (Kubes W)) :
    Calls Tryd.prog 35 #[.pointer (some ⟨b, 0, none⟩)] W (SumGPost W sz (sum6 sz s8 r tk)) := by
  obtain ⟨i0, hi0, hzi, hszi, hby⟩ := info_parts Tryd.infoB
  obtain ⟨a, cap, hst, _⟩ := hs.out
  have hbW := hs.out.lt
  have c0 := (stg_cells hst).1
  have c9 := (stg_cells hst).2.2.2.2.2.2.2.2.2.1
  have c10 := (stg_cells hst).2.2.2.2.2.2.2.2.2.2
  have HST := Lib.hid hst
  have hz : (((sz : Nat) : Int) == 0) = false := by simp; omega
  obtain ⟨m, hm⟩ : ∃ m, r.length = m := ⟨_, rfl⟩
  have HM := Lib.hid hm
  rw [hm] at c9
  have hml : m < 64 := by rw [← hm]; exact hr.out
  clear hst hm
  have HW1 : Hid ((W.alloc (.cells #[.int .u8 128] 5)).ownsRow W.heap.size 5 1 (.slice (some ⟨W.heap.size, 0, none⟩) 1 1) 1 (bv [128])) :=
    ⟨rfl, .inr ⟨_, 1, _, rfl, Nat.le_refl _, World.alloc_heap_new W _, Nat.le_refl _, by unfold maxLen; omega, rfl, rfl⟩⟩
  have hzk : (119 - (m : Int)) % 64 = ((zeros6 m : Nat) : Int) := by unfold zeros6; omega
  have hzl : zeros6 m < 64 := by unfold zeros6; omega
  obtain ⟨zk, hzz⟩ : ∃ zk, zeros6 m = zk := ⟨_, rfl⟩
  rw [hzz] at hzk hzl
  have HZ := Lib.hid hzz
  clear hzz
  go_enter Tryd.func35, Tryd.ntmps35
  go_wp2_with fail
  refine (noneg_some b 0 _ _ c0 hz).mono ?_
  rintro e w' ⟨rfl, rfl⟩
  have c9' := (Ext.alloc Nope W (.cells #[.int .u8 128] 5)).cell c9 (fun h => h)
  go_wp2_with (at_builtin; refine wpList_append_z rfl (.tmp 11) (.tmp 18) _ _ _ rfl Tryd.uB Tryd.underlying3 hi0 hzi hszi hby W.heap.size zk rfl HW1.out rfl hzk (by simp; omega) (Ext.alloc Nope W _).size ?_)
  intro v1 w1 ho1 hg1 _
  have HO1 : Hid (w1.ownsRow W.heap.size 5 1 v1 (1 + zk + 0) (bv ((128 : BitVec 8) :: List.replicate zk 0 ++ size8 tk 0))) := by
    have e : (128 : BitVec 8) :: List.replicate zk 0 ++ size8 tk 0 = (128 : BitVec 8) :: List.replicate zk 0 := by simp [size8]
    rw [e]; exact ho1
  have HX1 : Hid (Ext Nope W w1) := (Ext.alloc Nope W _).trans (Ext.grownBy (D := fun c => W.heap.size ≤ c) hg1 (fun b hb => (HW1.out.lt b hb).1)) (fun _ _ h => h) (fun j hj h => by have : W.heap.size ≤ j := h; omega)
  clear ho1 hg1 c9' c9 c0
  go_wp2_with fail
  go_loopw [3, 20] (fun vo vi V => ∃ i : Nat, i ≤ 8 ∧ vi = .int .i64 i ∧ V.ownsRow W.heap.size 5 1 vo (1 + zk + i) (bv ((128 : BitVec 8) :: List.replicate zk 0 ++ size8 tk i)) ∧ Ext Nope W V) (fun _ i _ => 8 - (intOf i).toNat)
  case atStart => exact ⟨0, by omega, rfl, HO1.out, HX1.out⟩
  case round =>
    obtain ⟨i, hi, rfl, hown, hx⟩ := hrel
    have HOWN := Lib.hid hown
    have HX := Lib.hid hx
    obtain ⟨ao, co, rfl⟩ := owns_slice hown
    clear hown hx
    have HLL : Hid (((128 : BitVec 8) :: List.replicate zk 0 ++ size8 tk i).length = 1 + zk + i) := by unfold Hid; simp [size8]; omega
    by_cases hlt : i < 8
    · have hltI : (i : Int) < 8 := by omega
      obtain ⟨k, hk⟩ : ∃ k, 8 * (7 - i) = k := ⟨_, rfl⟩
      have hkI : 8 * (7 - (i : Int)) = (k : Int) := by omega
      have hkl : k ≤ 56 := by omega
      have hk0 : ¬ ((k : Int) < 0) := by omega
      have hc10 := HX.out.cell c10 (fun h => h)
      have HS : Hid ((128 : BitVec 8) :: List.replicate zk 0 ++ size8 tk (i + 1) = ((128 : BitVec 8) :: List.replicate zk 0 ++ size8 tk i) ++ [((8 * tk) >>> k).setWidth 8]) := by
        unfold Hid; rw [size8_succ, hk]; simp
      clear hk
      have HLB := Lib.hid (holds_lit1g wr _ _ (szg_byte tk k).symm)
      have HOWN2 := Lib.hid ((Ext.alloc Nope wr (.cells #[.int .u8 (IntKind.u64.wrap ((8 : Int) * wd tk) / (2 : Int) ^ k % (256 : Int))] 5)).owns HOWN.out (fun _ _ h => h))
      obtain ⟨E, hE⟩ : ∃ E, (128 : BitVec 8) :: List.replicate zk 0 ++ size8 tk i = E := ⟨_, rfl⟩
      rw [hE] at HOWN2 HOWN HLL HS
      clear hE
      go_wp2_with (at_builtin; refine wpList_append_b rfl (.tmp 23) (.tmp 34) _ _ rfl Tryd.uB hi0 hzi hszi hby W.heap.size rfl HOWN2.out rfl HLB.out (k := 1) rfl ?c1 ?c2 ?_)
      case c1 => have := HLL.out; simp; omega
      case c2 => exact Nat.le_succ_of_le HX.out.size
      intro v3 w3 ho3 hg3 _
      have HO3 : Hid (w3.ownsRow W.heap.size 5 1 v3 (1 + zk + (i + 1)) (bv ((128 : BitVec 8) :: List.replicate zk 0 ++ size8 tk (i + 1)))) := by
        have h1 := ho3
        rw [HS.out]
        have e2 : E.length + 1 = 1 + zk + (i + 1) := by rw [HLL.out]; omega
        first
          | (rw [← e2]; exact h1)
          | (rw [← e2]; simpa using h1)
      have HX3 : Hid (Ext Nope W w3) := (HX.out.trans (Ext.alloc Nope _ _) (fun _ _ h => h) (fun _ _ h => h)).trans (Ext.grownBy (D := fun c => W.heap.size ≤ c) hg3 (fun b hb => (HOWN2.out.lt b hb).1)) (fun _ _ h => h) (fun j hj h => by have : W.heap.size ≤ j := h; omega)
      clear ho3 hg3
      go_wp2_with fail
      exact ⟨⟨i + 1, by omega, by congr 1, HO3.out, HX3.out⟩, by simp [intOf]; omega⟩
    · obtain rfl : i = 8 := by omega
      have HT : Hid ((128 : BitVec 8) :: List.replicate zk 0 ++ size8 tk 8 = tail6 r.length tk) := by unfold Hid tail6; rw [HM.out, HZ.out]
      rw [HT.out] at HOWN HLL
      obtain ⟨n2, hn2⟩ : ∃ n2, 1 + zk + 8 = n2 := ⟨_, rfl⟩
      rw [hn2] at HOWN HLL
      have hn2b : n2 ≤ 100 := by omega
      obtain ⟨wa, hwa⟩ : ∃ wa, wa = wr := ⟨_, rfl⟩
      subst hwa
      have HSG : Hid (IsG wa b sz s8 r tk) := hs.out.grow HX.out
      have HHE : Hid (Holds (fun c => W.heap.size ≤ c ∧ c < wa.heap.size) wa ao co (tail6 r.length tk)) := by
        obtain ⟨_, a', c', e, hh'⟩ := owns_shape HOWN.out
        simp only [Value.slice.injEq] at e
        obtain ⟨rfl, _, rfl⟩ := e
        exact hh'.mono (fun c hc => ⟨hc.1, hc.2.1⟩)
      rw [hn2]
      clear hn2
      go_wp2_with fail
      refine (copyg_any b _ s8 r tk wa HSG hz (by have := HM.out; omega)).mono ?_
      rintro e w2 ⟨b', rfl, hb', hb'2, hs2, hx2⟩
      have HX2 : Hid (Ext Nope W w2) := HX.out.trans hx2 (fun _ _ h => h) (fun _ _ h => h)
      have HS2 := Lib.hid hs2
      have HB' : Hid (W.heap.size ≤ b') := Nat.le_trans HX.out.size hb'
      have HHE2 : Hid (Holds (fun c => W.heap.size ≤ c ∧ c < wa.heap.size) w2 ao co (tail6 r.length tk)) := HHE.out.ext hx2 (fun _ _ h => h)
      have HC2 : Hid (Kubes w2) := hcu.out.ext HX2.out (fun h => h)
      clear hb' hb'2 hs2 hx2
      go_wp2_with fail
      refine (writeg_new b' sz s8 r (tail6 r.length tk) tk ao n2 co w2 HS2 hz HHE2 HLL (by have := HM.out; omega) HC2).mono ?_
      rintro e w3 ⟨rfl, hs3, hx3⟩
      obtain ⟨HH, hHH⟩ : ∃ HH, turnsG s8 (r ++ tail6 r.length tk) = HH := ⟨_, rfl⟩
      rw [hHH] at hs3
      have HHH := Lib.hid hHH
      obtain ⟨ag, cg, hst3, _⟩ := hs3
      obtain ⟨d0, d1, d2, d3, d4, d5, d6, d7, d8, d9, d10⟩ := stg_cells hst3
      have HX3 : Hid (Ext Nope W w3) := HX2.out.trans hx3 (fun _ _ h => h) (fun j hj h => by have := HB'.out; simp only [Just] at h; omega)
      clear hHH hst3 hx3
      go_wp2_with fail
      clear d0 d1 d2 d3 d4 d5 d6 d7 d8 d9 d10
      go_loopw [6, 46] (fun vo i V => ∃ k : Nat, k ≤ 8 ∧ i = .int .i64 k ∧ V.ownsRow W.heap.size 5 1 vo (((gwords HH).take k).flatMap gbytes).length (bv (((gwords HH).take k).flatMap gbytes)) ∧ Ext Nope W V) (fun _ i _ => 8 - (intOf i).toNat)
      case atStart => exact ⟨0, by omega, rfl, ⟨rfl, .inl ⟨rfl, rfl⟩⟩, HX3.out⟩
      case round =>
        obtain ⟨k3, hk3, rfl, hown, hEr⟩ := hrel
        have HOWN4 := Lib.hid hown
        have HER := Lib.hid hEr
        have g0 := hEr.cell (stg_cells HST.out).1 (fun h => h)
        clear hown hEr
        by_cases hlt : k3 < 8
        · obtain ⟨x, hx⟩ : ∃ x, (gwords HH)[k3]? = some x := ⟨_, List.getElem?_eq_getElem (by show k3 < 8; omega)⟩
          have hix := indexg8 (.int .u32 (wd HH.a)) (.int .u32 (wd HH.b)) (.int .u32 (wd HH.c)) (.int .u32 (wd HH.d)) (.int .u32 (wd HH.e)) (.int .u32 (wd HH.f)) (.int .u32 (wd HH.g)) (.int .u32 (wd HH.h)) (.int .u32 (wd x)) k3
            (by have := congrArg (Option.map fun x => Value.int .u32 (wd x)) hx; rw [← List.getElem?_map] at this; exact this)
          have HXX := Lib.hid hx
          have hltI : (k3 : Int) < 8 := by omega
          clear hx
          obtain ⟨P, hP⟩ : ∃ P, ((gwords HH).take k3).flatMap gbytes = P := ⟨_, rfl⟩
          have HP : Hid (((gwords HH).take (k3 + 1)).flatMap gbytes = P ++ gbytes x) := by
            unfold Hid; rw [← hP, List.take_add_one, HXX.out]; simp
          have hPl : P.length ≤ 32 := by
            have := hbytes6_length HH
            rw [← hP]; unfold hbytes6 at this; rw [← List.take_append_drop k3 (gwords HH), List.flatMap_append, List.length_append] at this; omega
          rw [hP] at HOWN4
          clear hP
          obtain ⟨_, a2, cap2, rfl, hh2⟩ := owns_shape HOWN4.out
          clear hh2
          obtain ⟨N, hN⟩ : ∃ N, P.length = N := ⟨_, rfl⟩
          rw [hN] at HOWN4 ⊢
          have HN := Lib.hid hN
          clear hN
          have HLB := Lib.hid (holds_lit4 wr ((x >>> 24).setWidth 8) ((x >>> 16).setWidth 8) ((x >>> 8).setWidth 8) (x.setWidth 8) (wd x / 16777216 % 256) (wd x / 65536 % 256) (wd x / 256 % 256) (wd x % 256) (gb_byte x 24).symm (gb_byte x 16).symm (gb_byte x 8).symm (gb_byte0 x).symm)
          have HOWN5 := Lib.hid ((Ext.alloc Nope wr (.cells #[.int .u8 (wd x / 16777216 % 256), .int .u8 (wd x / 65536 % 256), .int .u8 (wd x / 256 % 256), .int .u8 (wd x % 256)] 5)).owns HOWN4.out (fun _ _ h => h))
          go_wp2_with (at_builtin; refine wpList_append_b rfl (.tmp 49) (.tmp 61) _ _ rfl Tryd.uB hi0 hzi hszi hby W.heap.size rfl HOWN5.out rfl HLB.out (k := 4) rfl ?c1 ?c2 ?_)
          case c1 => have := HN.out; simp; omega
          case c2 => exact Nat.le_succ_of_le HER.out.size
          intro v4 w4 ho4 hg4 _
          rw [(owns_shape ho4).1, show P ++ [(x >>> 24).setWidth 8, (x >>> 16).setWidth 8, (x >>> 8).setWidth 8, x.setWidth 8] = P ++ gbytes x from rfl, ← HP.out] at ho4
          have HO4 := Lib.hid ho4
          have HE4 : Hid (Ext Nope W w4) := (HER.out.trans (Ext.alloc Nope _ _) (fun _ _ h => h) (fun _ _ h => h)).trans (Ext.grownBy (D := fun c => W.heap.size ≤ c) hg4 (fun k hk => (HOWN5.out.lt k hk).1))
            (fun _ _ h => h) (fun i hi h => by have : W.heap.size ≤ i := h; omega)
          clear ho4 hg4
          go_wp2_with fail
          exact ⟨⟨k3 + 1, by omega, by congr 1, HO4.out, HE4.out⟩, by simp [intOf]; omega⟩
        · obtain rfl : k3 = 8 := by omega
          have hall : ((gwords HH).take 8).flatMap gbytes = hbytes6 HH := rfl
          rw [hall] at HOWN4
          have hl32 : (hbytes6 HH).length = 32 := hbytes6_length HH
          rw [hl32] at HOWN4
          obtain ⟨hlen, ⟨_, hno⟩ | ⟨g, cap2, cur, rfl, hg, hheap, hcap, hmax, hcs, htake⟩⟩ := HOWN4.out
          · omega
          have hcap2 : sz ≤ cap2 := by omega
          have HF : Hid (W.heap.size ≤ g ∧ wr.heap[g]? = some (.cells cur 5 (0, 0)) ∧ cur.toList.take 32 = bv (hbytes6 HH) ∧ 32 ≤ cur.size) := ⟨hg, hheap, htake, by omega⟩
          clear hheap htake hlen hcs hmax
          go_wp2_with fail
          refine wp_region_quiet_lit (by kernel_rfl) (by kernel_rfl) ?_
          repeat (go_big_quiet_step (fail))
          refine wpQuiet_nil ?_
          rintro _ ⟨nq, rfl⟩
          go_wp2_with fail
          go_ret
          refine ⟨g, cur, rfl, HF.out.1, HF.out.2.1, ?_, ?_, ?_, HER.out.trans (Ext.drewN Nope _ _) (fun _ _ h => h) (fun _ _ h => h)⟩
          · have := HF.out.2.2.2; omega
          · unfold sum6
            rw [HHH.out]
            have := congrArg (List.take sz) HF.out.2.2.1
            rw [List.take_take, Nat.min_eq_left h32] at this
            rw [this]; simp [bv]
          · unfold sum6; rw [List.length_take, hbytes6_length]; omega
end Go.Proofs.YtjfcldjepgijeaaDoor
