/- The law MaskBegins. -/
import Derived.Test.YtjfcldjepgijeaaDoorMl
import Derived.Test.YtjfcldjepgijeaaDoorMp
namespace Go.Proofs.YtjfcldjepgijeaaDoor
open Go.RowKit Go.Shelf Go.Sort

theorem num4_byte (k : Nat) (hk : k < 256) : num4 k = [0, 0, 0, BitVec.ofNat 8 k] := by
  unfold num4
  rw [Nat.div_eq_of_lt (by omega), Nat.div_eq_of_lt (by omega), Nat.div_eq_of_lt (by omega)]
  rfl
theorem num4_small (k : Nat) (hk : k ≤ 11) : #[Value.int .u8 0, .int .u8 0, .int .u8 0, .int .u8 (k : Int)] = (bv (num4 k)).toArray := by
  rw [num4_byte k (by omega)]
  have h0 : (k : Int) = wd (BitVec.ofNat 8 k) := by unfold wd; simp; omega
  rw [h0]; rfl
theorem stream_split (wide long : Bool) (seed : List (BitVec 8)) (k j : Nat) : ∃ R, streamN wide long seed (k + 1 + j) = streamN wide long seed k ++ (pieceN wide long seed k ++ R) := by
  induction j with
  | zero => exact ⟨[], by rw [Nat.add_zero, streamN_succ]; simp⟩
  | succ j ih =>
    obtain ⟨R, h⟩ := ih
    exact ⟨R ++ pieceN wide long seed (k + 1 + j), by rw [show k + 1 + (j + 1) = (k + 1 + j) + 1 by omega, streamN_succ, h]; simp⟩
theorem mask_piece (wide long : Bool) (seed : List (BitVec 8)) (k g t : Nat) (h : t ≤ szW wide long) (hg : k * szW wide long + t ≤ g) :
    ((maskN wide long seed g).drop (k * szW wide long)).take t = (pieceN wide long seed k).take t := by
  obtain ⟨R, hR⟩ := stream_split wide long seed k g
  have h1 : g ≤ (k + 1 + g) * szW wide long := Nat.le_trans (by omega) (Nat.le_mul_of_pos_right (k + 1 + g) (szW_lo wide long))
  rw [← maskN_of wide long seed g (k + 1 + g) h1, hR, List.drop_take]
  have e := streamN_length wide long seed k
  rw [← e, List.drop_left, List.take_take, Nat.min_eq_left (by rw [e]; omega), List.take_append_of_le_length (by rw [pieceN_length]; exact h)]
theorem mask_begin (wide long : Bool) (seed : List (BitVec 8)) (f g : Nat) (h : f ≤ g) : (maskN wide long seed g).take f = maskN wide long seed f := by
  have h1 : f ≤ g * szW wide long := Nat.le_trans h (Nat.le_mul_of_pos_right g (szW_lo wide long))
  rw [← maskN_of wide long seed f g h1]
  unfold maskN
  rw [List.take_take, Nat.min_eq_left h]
theorem two_mod (x y : Nat) : ∃ f g : Nat, f ≤ g ∧ g ≤ 300 ∧ min ((x : Int) % 301) ((y : Int) % 301) = (f : Int) ∧ max ((x : Int) % 301) ((y : Int) % 301) = (g : Int) :=
  ⟨min (x % 301) (y % 301), max (x % 301) (y % 301), by omega, by omega, by omega, by omega⟩

set_option maxHeartbeats 2000000 in
set_option maxRecDepth 100000 in
theorem begins8 {p : Nat → Prop} (z0 : Int) (h00 : 0 ≤ z0) (h01 : z0 ≤ 255) (a : Option Addr) (n c : Nat) (l : List (BitVec 8)) (x2 x3 : Nat) (hx2 : x2 ≤ 65535) (hx3 : x3 ≤ 65535) (W : World) (hl : Hid (Laid8 W)) (hh : Hid (Holds p W a c l)) (hn : Hid (l.length = n)) :
    Calls Tryd.prog 5 #[.int .u8 z0, .slice a n c, .int .u16 x2, .int .u16 x3] W (TrueOf W) := by
  go_enter Tryd.func5, Tryd.ntmps5
  go_wp2_with fail
  refine (alive_any W hl).mono ?_
  rintro e w1 ⟨rfl, hx1⟩
  have HX1 := Lib.hid hx1
  clear hx1
  go_wp2_with fail
  refine (hash_num z0 h00 h01 _).mono ?_
  rintro e w2 ⟨wide, long, rfl, rfl⟩
  by_cases hbig : (300 : Int) < n
  · go_wp2_with fail
    go_ret
    exact ⟨rfl, HX1.out⟩
  · have hnb : n ≤ 300 := by omega
    obtain ⟨f, g, hfg, hg3, q1, q2⟩ := two_mod x2 x3
    have HFG := Lib.hid (And.intro hfg hg3)
    have HL2 : Hid (Laid8 w2) := hl.out.ext HX1.out
    have HH2 : Hid (Holds p w2 a c l) := hh.out.ext HX1.out (fun _ _ h => h)
    have HNB := Lib.hid hnb
    clear hfg hg3
    go_wp2_with fail
    refine (mask_any wide long a n c l f w2 HH2 hn (by omega) (by have := HFG.out; omega) HL2).mono ?_
    rintro e w3 ⟨a3, rfl, hh3, hx3⟩
    have HH3 := Lib.hid hh3
    have HX3 : Hid (Ext Nope W w3) := HX1.out.trans hx3 (fun _ _ h => h) (fun _ _ h => h)
    have HL3 : Hid (Laid8 w3) := hl.out.ext HX3.out
    have HP3 : Hid (Holds p w3 a c l) := hh.out.ext HX3.out (fun _ _ h => h)
    clear hh3 hx3
    go_wp2_with fail
    refine (mask_any wide long a n c l g w3 HP3 hn (by omega) (by have := HFG.out; omega) HL3).mono ?_
    rintro e w4 ⟨a4, rfl, hh4, hx4⟩
    have HX4 : Hid (Ext Nope W w4) := HX3.out.trans hx4 (fun _ _ h => h) (fun _ _ h => h)
    have HH34 : Hid (Holds (fun _ => True) w4 a3 f (maskN wide long l f)) := (HH3.out.ext hx4 (fun _ _ h => h)).mono (fun _ _ => trivial)
    have HH4 : Hid (Holds (fun _ => True) w4 a4 g (maskN wide long l g)) := hh4.mono (fun _ _ => trivial)
    have HL4 : Hid (Laid8 w4) := hl.out.ext HX4.out
    have hA : ∀ nq, (convert 23 9 (.slice a3 f f)).run Tryd.prog (w4.drewN nq) = .ok (.string (strOf (maskN wide long l f))) (w4.drewN nq) := fun nq => holds_string (HH34.out.ext (Ext.drewN Nope w4 nq) (fun _ _ h => h)) (maskN_length _ _ _ _)
    have hB : ∀ nq, (convert 23 9 (.slice a4 f g)).run Tryd.prog (w4.drewN nq) = .ok (.string (strOf (maskN wide long l f))) (w4.drewN nq) := fun nq => by
      have h1 := (HH4.out.upto (hi := f) (by rw [maskN_length]; exact HFG.out.1))
      rw [mask_begin wide long l f g HFG.out.1] at h1
      exact holds_string (h1.ext (Ext.drewN Nope w4 nq) (fun _ _ h => h)) (maskN_length _ _ _ _)
    have hfI : (f : Int) ≤ g := by have := HFG.out.1; omega
    have hf0 : (0 : Int) ≤ f := by omega
    clear hh4 hx4
    go_wp2_with fail
    refine wp_region_quiet_lit (by kernel_rfl) (by kernel_rfl) ?_
    repeat (go_big_quiet_step (fail))
    refine wpQuiet_nil ?_
    rintro _ ⟨nq, rfl⟩
    clear hA hB
    obtain ⟨w5, hw5⟩ : ∃ w5, w4.drewN nq = w5 := ⟨_, rfl⟩
    have hx5 : Ext Nope w4 w5 := by rw [← hw5]; exact Ext.drewN _ _ _
    have HX5 : Hid (Ext Nope W w5) := HX4.out.trans hx5 (fun _ _ h => h) (fun _ _ h => h)
    have HH5 : Hid (Holds (fun _ => True) w5 a4 g (maskN wide long l g)) := HH4.out.ext hx5 (fun _ _ h => h)
    have HL5 : Hid (Laid8 w5) := hl.out.ext HX5.out
    rw [hw5]
    clear hw5 hx5 HH34 HH3 HH4 HL4 HL3 HL2 HH2 HP3
    go_wp2_with fail
    refine (size_W wide long w5 HL5.out.1).mono ?_
    rintro e w6 ⟨rfl, hw6⟩
    rw [hw6]
    clear hw6 w6
    have HSL : Hid (28 ≤ szW wide long ∧ szW wide long ≤ 64) := by unfold Hid; cases wide <;> cases long <;> decide
    obtain ⟨sz, hsz⟩ : ∃ sz, szW wide long = sz := ⟨_, rfl⟩
    have HSZ := Lib.hid hsz
    rw [hsz] at HSL ⊢
    clear hsz
    obtain ⟨z, hz⟩ : ∃ z, numW wide long = z := ⟨_, rfl⟩
    have HZ := Lib.hid hz
    rw [hz]
    clear hz q1 q2 hfI hf0
    go_wp2_with fail
    go_loopw [18] (fun vi V => ∃ k : Nat, (k = 0 ∨ (k - 1) * sz < g) ∧ vi = .int .i64 k ∧ Ext Nope w5 V) (fun vi _ => g + 1 - (intOf vi).toNat)
    case atStart => exact ⟨0, .inl rfl, rfl, Ext.refl _ _⟩
    case round =>
      obtain ⟨k, hk0, rfl, hx⟩ := hrel
      have hk11 : k ≤ 11 := by
        rcases hk0 with h | h
        · omega
        · have h1 := HFG.out.2
          have h2 : (k - 1) * 28 ≤ (k - 1) * sz := Nat.mul_le_mul_left _ HSL.out.1
          omega
      have HK0 := Lib.hid hk0
      have HX := Lib.hid hx
      obtain ⟨u, hu⟩ : ∃ u, k * sz = u := ⟨_, rfl⟩
      have huI : (k : Int) * (sz : Int) = (u : Int) := by rw [← hu]; push_cast; rfl
      have huB : u ≤ 704 := by rw [← hu]; exact Nat.mul_le_mul hk11 HSL.out.2
      have HU := Lib.hid hu
      clear hk0 hx hu
      by_cases hlt : u < g
      · have hltI : (u : Int) < g := by omega
        obtain ⟨i0, hi0, hzi, hszi, hby⟩ := info_parts Tryd.infoB
        obtain ⟨we, hwe⟩ : ∃ we, wr.alloc (.cells #[] 5) = we := ⟨_, rfl⟩
        have HOW : Hid (we.ownsRow wr.heap.size 5 1 (.slice (some ⟨wr.heap.size, 0, none⟩) 0 0) 0 (bv [])) := by
          rw [← hwe]; exact ⟨rfl, .inr ⟨_, 0, #[], rfl, Nat.le_refl _, World.alloc_heap_new wr _, Nat.le_refl _, Nat.zero_le _, rfl, rfl⟩⟩
        have hxe : Ext Nope wr we := by rw [← hwe]; exact Ext.alloc _ _ _
        have HXE : Hid (Ext Nope w5 we) := HX.out.trans hxe (fun _ _ h => h) (fun _ _ h => h)
        have HPE : Hid (Holds p we a c l) := hh.out.ext (HX5.out.trans HXE.out (fun _ _ h => h) (fun _ _ h => h)) (fun _ _ h => h)
        have HSE := Lib.hid hxe.size
        have HBW : Hid (w5.heap.size ≤ wr.heap.size) := HX.out.size
        obtain ⟨B, hB⟩ : ∃ B, wr.heap.size = B := ⟨_, rfl⟩
        rw [hB] at HOW HSE HBW
        clear hxe
        go_wp2_with (at_builtin; refine wpList_append_b rfl (.tmp 97) (.tmp 98) _ _ rfl Tryd.uB hi0 hzi hszi hby B rfl HOW.out rfl HPE.out hn.out ?c1 ?c2 ?_)
        case c1 => have := hn.out; have := HNB.out; simp; omega
        case c2 => exact HSE.out
        intro v7 w7 ho7 hg7 _
        have ho7 : w7.ownsRow B 5 1 v7 n (bv l) := by have h := ho7; simpa [hn.out] using h
        have hx7 : Ext (fun c => B ≤ c) we w7 := Ext.grownBy hg7 (fun b hb => (HOW.out.lt b hb).1)
        have HX7 : Hid (Ext Nope w5 w7) := HXE.out.trans hx7 (fun _ _ h => h) (fun j hj h => by have h1 : B ≤ j := h; have h2 := HBW.out; omega)
        have HB7 : Hid (B ≤ w7.heap.size) := Nat.le_trans HSE.out hx7.size
        obtain ⟨W8, hW8⟩ : ∃ W8, w7.alloc (.cells #[.int .u8 0, .int .u8 0, .int .u8 0, .int .u8 (k : Int)] 5) = W8 := ⟨_, rfl⟩
        have hx8 : Ext Nope w7 W8 := by rw [← hW8]; exact Ext.alloc _ _ _
        have hb8 : W8.heap[w7.heap.size]? = some (.cells (bv (num4 k)).toArray 5 (0, 0)) := by rw [← hW8, ← num4_small k hk11]; exact World.alloc_heap_new w7 _
        have HR8 : Hid (Holds (fun c => c = w7.heap.size) W8 (some ⟨w7.heap.size, 0, none⟩) 4 (num4 k)) := holds_rowM hb8 (by show 4 ≤ _; omega)
        have HO8 : Hid (W8.ownsRow B 5 1 v7 n (bv l)) := hx8.owns ho7 (fun _ _ h => h)
        have HX8 : Hid (Ext Nope w5 W8) := HX7.out.trans hx8 (fun _ _ h => h) (fun _ _ h => h)
        have HS8 : Hid (B ≤ W8.heap.size) := Nat.le_trans HB7.out hx8.size
        clear ho7 hg7 hx8 hb8 hwe hx7
        go_wp2_with (at_builtin; refine wpList_append_b rfl (.tmp 99) (.tmp 102) _ _ rfl Tryd.uB hi0 hzi hszi hby B rfl HO8.out rfl HR8.out rfl ?c1 ?c2 ?_)
        case c1 => have := hn.out; have := HNB.out; simp [num4]; omega
        case c2 => exact HS8.out
        intro v9 w9 ho9 hg9 _
        have HX9 : Hid (Ext Nope w5 w9) := HX8.out.trans (Ext.grownBy (D := fun c => B ≤ c) hg9 (fun b hb => (HO8.out.lt b hb).1)) (fun _ _ h => h) (fun j hj h => by have h1 : B ≤ j := h; have h2 := HBW.out; omega)
        obtain ⟨_, a9, c9, rfl, hh9⟩ := owns_shape ho9
        obtain ⟨n9, hn9⟩ : ∃ n9, (l ++ num4 k).length = n9 := ⟨_, rfl⟩
        rw [hn9]
        obtain ⟨w10, hw10⟩ : ∃ w10, w9.alloc (.cells #[.slice a9 n9 c9] 23) = w10 := ⟨_, rfl⟩
        have hx10 : Ext Nope w9 w10 := by rw [← hw10]; exact Ext.alloc _ _ _
        have hf10 : w10.heap[w9.heap.size]? = some (.cells #[.slice a9 n9 c9] 23 (0, 0)) := by rw [← hw10]; exact World.alloc_heap_new _ _
        have HX10 : Hid (Ext Nope w5 w10) := HX9.out.trans hx10 (fun _ _ h => h) (fun _ _ h => h)
        have HR10 : Hid (HoldsR (fun _ => True) w10 (some ⟨w9.heap.size, 0, none⟩) 1 [l ++ num4 k]) := ⟨rfl, .inr ⟨_, 0, rfl, fun i l' hi => by
          obtain ⟨h1, h2⟩ := List.getElem?_eq_some_iff.1 hi
          simp at h1; subst h1; simp at h2; subst h2
          rw [hn9]
          exact ⟨_, _, block_cell hf10 0 rfl, (hh9.ext hx10 (fun _ _ h => h)).mono (fun _ _ => trivial)⟩⟩⟩
        have HL10 : Hid (Laid8 w10) := hl.out.ext (HX5.out.trans HX10.out (fun _ _ h => h) (fun _ _ h => h))
        have HLB : Hid (∀ l' ∈ [l ++ num4 k], l'.length ≤ 900000000) := fun l' h => by
          simp at h; subst h; have := hn.out; have := HNB.out; simp [num4]; omega
        have HS := Lib.hid (sumW_any wide long _ 1 1 [l ++ num4 k] w10 HR10 (by omega) HLB.out HL10.out.1 HL10.out.2.1)
        have e1 : [l ++ num4 k].flatten = l ++ num4 k := by simp
        rw [HZ.out, e1] at HS
        clear ho9 hg9 hh9 hn9 hx10 hf10 e1 hW8
        go_wp2_with fail
        refine HS.out.mono ?_
        rintro e w11 ⟨v11, rfl, a11, rfl, hh11, hl11, hx11⟩
        rw [HSZ.out] at hh11 hl11 ⊢
        have HX11 : Hid (Ext Nope w5 w11) := HX10.out.trans hx11 (fun _ _ h => h) (fun _ _ h => h)
        have HH11 := Lib.hid hh11
        have HL11 := Lib.hid hl11
        obtain ⟨v, hv⟩ : ∃ v, u + sz = v := ⟨_, rfl⟩
        have hm1 : ((k : Int) + 1) * (sz : Int) = (v : Int) := by rw [Int.add_mul, huI]; omega
        obtain ⟨t, ht⟩ : ∃ t, min g v = t := ⟨_, rfl⟩
        have hmin : min (g : Int) (v : Int) = (t : Int) := by omega
        obtain ⟨d, hd⟩ : ∃ d, t - u = d := ⟨_, rfl⟩
        have hut : u ≤ t := by have := HSL.out.1; omega
        have hdI : (t : Int) - (u : Int) = (d : Int) := by omega
        have hdz : d ≤ sz := by omega
        have htg : t ≤ g := by omega
        have hudg : u + d ≤ g := by omega
        have hvB : v ≤ 800 := by have := HSL.out.2; omega
        have HD := Lib.hid (And.intro hdz hudg)
        obtain ⟨A1, hA1⟩ : ∃ A1, Option.map (fun x => x.add u) a4 = A1 := ⟨_, rfl⟩
        have HY11 : Hid (Holds (fun _ => True) w11 A1 (g - u) ((maskN wide long l g).drop u)) := by
          have h1 := (HH5.out.ext HX11.out (fun _ _ h => h)).rest (lo := u) (by rw [maskN_length]; omega)
          rw [if_neg (by omega), hA1] at h1
          exact h1
        have hA : ∀ nq, (convert 23 9 (.slice a11 d sz)).run Tryd.prog (w11.drewN nq) = .ok (.string (strOf ((pieceN wide long l k).take d))) (w11.drewN nq) := fun nq =>
          holds_string ((HH11.out.upto (hi := d) (by have := HL11.out; have := HD.out.1; omega)).ext (Ext.drewN Nope w11 nq) (fun _ _ h => h)) (by rw [List.length_take]; have h1 := HL11.out; have h2 := HD.out.1; show min d (pieceN wide long l k).length = d; rw [show (pieceN wide long l k).length = sz from h1]; omega)
        have hB' : ∀ nq, (convert 23 9 (.slice A1 d (g - u))).run Tryd.prog (w11.drewN nq) = .ok (.string (strOf ((pieceN wide long l k).take d))) (w11.drewN nq) := fun nq => by
          have e2 : ((maskN wide long l g).drop u).take d = (pieceN wide long l k).take d := by
            have h3 := mask_piece wide long l k g d (by rw [HSZ.out]; exact HD.out.1) (by rw [HSZ.out, HU.out]; exact HD.out.2)
            rw [HSZ.out, HU.out] at h3; exact h3
          have h1 := HY11.out.upto (hi := d) (by rw [List.length_drop, maskN_length]; have := HD.out.2; omega)
          rw [e2] at h1
          exact holds_string (h1.ext (Ext.drewN Nope w11 nq) (fun _ _ h => h)) (by rw [List.length_take]; have h1 := HL11.out; have h2 := HD.out.1; show min d (pieceN wide long l k).length = d; rw [show (pieceN wide long l k).length = sz from h1]; omega)
        have hutI : (u : Int) ≤ t := by omega
        have htgI : (t : Int) ≤ g := by omega
        have hdzI : (d : Int) ≤ sz := by omega
        have hszB : sz ≤ 64 := HSL.out.2
        clear hh11 hl11 hx11 hv ht hut hdz htg hudg hlt
        go_wp2_with fail
        refine wp_region_quiet_lit (by kernel_rfl) (by kernel_rfl) ?_
        repeat (go_big_quiet_step (fail))
        refine wpQuiet_nil ?_
        rintro _ ⟨nq2, rfl⟩
        clear hA hB' hA1
        go_wp2_with fail
        exact ⟨⟨k + 1, .inr (by rw [Nat.add_sub_cancel, HU.out]; omega), by congr 1, HX11.out.trans (Ext.drewN Nope _ _) (fun _ _ h => h) (fun _ _ h => h)⟩, by
          have : k ≤ u := by rw [← HU.out]; exact Nat.le_mul_of_pos_right _ (by have := HSL.out.1; omega)
          simp [intOf]; omega⟩
      · have hltI : ¬ ((u : Int) < g) := by omega
        go_wp2_with fail
        go_ret
        exact ⟨rfl, HX5.out.trans HX.out (fun _ _ h => h) (fun _ _ h => h)⟩
end Go.Proofs.YtjfcldjepgijeaaDoor
