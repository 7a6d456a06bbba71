/- Masks. -/
import Derived.Test.YtjfcldjepgijeaaDoorMk
namespace Go.Proofs.YtjfcldjepgijeaaDoor
open Go.RowKit Go.Shelf Go.Sort
attribute [local go_sem] Oper.semAt_some

theorem Holds.cut {p : Nat → Prop} {W : World} {a : Option Addr} {cap : Nat} {l : List (BitVec 8)} (h : Holds p W a cap l) {hi : Nat} (h1 : hi ≤ l.length) : Holds p W a hi (l.take hi) :=
  ⟨by rw [List.length_take]; omega, Nat.le_trans h1 (Nat.le_trans h.len h.max), by
    rcases h.lies with ⟨e1, e2⟩ | ⟨b, off, e, hb, hc⟩
    · exact .inl ⟨e1, by have := h.len; omega⟩
    · refine .inr ⟨b, off, e, fun hl => hb (fun h0 => hl (by rw [h0]; simp)), fun i c hi => hc i c ?_⟩
      rw [List.getElem?_take] at hi
      split at hi
      · exact hi
      · cases hi⟩
/-- the first k pieces, one behind the other -/
def streamN (wide long : Bool) (seed : List (BitVec 8)) (k : Nat) : List (BitVec 8) := ((List.range k).map (pieceN wide long seed)).flatten
theorem streamN_succ (wide long : Bool) (seed : List (BitVec 8)) (k : Nat) : streamN wide long seed (k + 1) = streamN wide long seed k ++ pieceN wide long seed k := by
  unfold streamN; rw [List.range_succ]; simp
theorem streamN_length (wide long : Bool) (seed : List (BitVec 8)) (k : Nat) : (streamN wide long seed k).length = k * szW wide long := by
  induction k with
  | zero => simp [streamN]
  | succ k ih => rw [streamN_succ, List.length_append, ih, pieceN_length, Nat.succ_mul]
theorem streamN_take (wide long : Bool) (seed : List (BitVec 8)) (k j : Nat) (s : Nat) (h : s ≤ k * szW wide long) (hj : k ≤ j) : (streamN wide long seed j).take s = (streamN wide long seed k).take s := by
  induction j with
  | zero => obtain rfl : k = 0 := by omega
            rfl
  | succ j ih =>
    by_cases e : k = j + 1
    · rw [e]
    · rw [streamN_succ, List.take_append_of_le_length, ih (by omega)]
      rw [streamN_length]
      exact Nat.le_trans h (Nat.mul_le_mul_right _ (by omega))
/-- a mask -/
def maskN (wide long : Bool) (seed : List (BitVec 8)) (size : Nat) : List (BitVec 8) := (streamN wide long seed size).take size
theorem maskN_of (wide long : Bool) (seed : List (BitVec 8)) (size k : Nat) (h : size ≤ k * szW wide long) : (streamN wide long seed k).take size = maskN wide long seed size := by
  unfold maskN
  have h2 : size ≤ size * szW wide long := Nat.le_mul_of_pos_right _ (szW_lo wide long)
  rcases Nat.le_total k size with h1 | h1
  · exact (streamN_take wide long seed k size size h h1).symm
  · exact streamN_take wide long seed size k size h2 h1
theorem maskN_length (wide long : Bool) (seed : List (BitVec 8)) (size : Nat) : (maskN wide long seed size).length = size := by
  unfold maskN
  have h2 : size ≤ size * szW wide long := Nat.le_mul_of_pos_right _ (szW_lo wide long)
  rw [List.length_take, streamN_length]; omega

theorem mask_none (z : Int) (hz : sizeN z = 0) (a : Option Addr) (n cap : Nat) (size : Int) (W : World) (hm : Hid (Sizes W)) :
    Calls Tryd.prog 11 #[.int .i64 z, .slice a n cap, .int .i64 size] W fun e W' => e = .returned (.tuple #[.slice none 0 0, .int .i64 80]) ∧ Ext Nope W W' := by
  have hx1 : Ext Nope W (W.alloc (.cells #[.int .i64 size] 3)) := Ext.alloc _ _ _
  have HS := Lib.hid (size_any z (W.alloc (.cells #[.int .i64 size] 3)) (hm.out.ext hx1 (fun h => h)))
  have HX1 := Lib.hid hx1
  rw [hz] at HS
  clear hz hx1
  refine (callsIn_wide (n := 9)).1 (callsIn_of_wp_marks Tryd.func11 rfl trivial ?_ rfl)
  simp only [Tryd.ntmps11, List.size_toArray, List.length_cons, List.length_nil, Nat.reduceAdd, Nat.reduceSub, Array.replicate_succ, Array.replicate_zero, List.push_toArray, List.append_toArray, List.nil_append, List.cons_append]
  gi_wp2_with fail
  apply wpIn_scope_straight
  gi_wp2_with fail
  refine ⟨trivial, calls_fr (r := none) (HS.out.mono ?_)⟩
  rintro e w ⟨rfl, hw⟩
  rw [hw]
  clear hw w
  gi_wp2_with fail
  rw [Exit.noGoto_ret]
  gi_wp2_with fail
  exact leave_none (results_tmp2 rfl _ _ _) ⟨rfl, HX1.out⟩
theorem mask_arg (z : Int) (hz : sizeN z ≠ 0) (a : Option Addr) (n cap : Nat) (size : Int) (hs : size < 0 ∨ 65536 < size) (W : World) (hm : Hid (Sizes W)) :
    Calls Tryd.prog 11 #[.int .i64 z, .slice a n cap, .int .i64 size] W fun e W' => e = .returned (.tuple #[.slice none 0 0, .int .i64 2]) ∧ Ext Nope W W' := by
  obtain ⟨W1, hW1⟩ : ∃ W1, W.alloc (.cells #[.int .i64 size] 3) = W1 := ⟨_, rfl⟩
  have hx1 : Ext Nope W W1 := by rw [← hW1]; exact Ext.alloc _ _ _
  have hc1 : W1.cell? ⟨W.heap.size, 0, none⟩ = some (.int .i64 size) := by rw [← hW1]; exact block_cell (World.alloc_heap_new W _) 0 rfl
  have HS := Lib.hid (size_any z W1 (hm.out.ext hx1 (fun h => h)))
  have HX1 := Lib.hid hx1
  obtain ⟨s, hs'⟩ : ∃ s, sizeN z = s := ⟨_, rfl⟩
  rw [hs'] at HS hz
  clear hx1 hs'
  have hb0 : (s == 0) = false := by simpa using hz
  refine (callsIn_wide (n := 9)).1 (callsIn_of_wp_marks Tryd.func11 rfl trivial ?_ rfl)
  simp only [Tryd.ntmps11, List.size_toArray, List.length_cons, List.length_nil, Nat.reduceAdd, Nat.reduceSub, Array.replicate_succ, Array.replicate_zero, List.push_toArray, List.append_toArray, List.nil_append, List.cons_append]
  gi_wp2_with fail
  apply wpIn_scope_straight
  gi_wp2_with fail
  refine ⟨trivial, calls_fr (r := none) (HS.out.mono ?_)⟩
  rintro e w ⟨rfl, hw⟩
  rw [hw]
  clear hw w
  by_cases h0 : size < 0
  · gi_wp2_with fail
    rw [Exit.noGoto_ret]
    gi_wp2_with fail
    exact leave_none (results_tmp2 rfl _ _ _) ⟨rfl, HX1.out⟩
  · have h1 : 65536 < size := by omega
    gi_wp2_with fail
    rw [Exit.noGoto_ret]
    gi_wp2_with fail
    exact leave_none (results_tmp2 rfl _ _ _) ⟨rfl, HX1.out⟩

/-- what holds while pieces are taken: k of them are in -/
def MaskI (wide long : Bool) (seed : List (BitVec 8)) (B size : Nat) (W4 : World) (k : Nat) (V : World) : Prop :=
  Ext (fun i => i = B + 1 ∨ B + 4 ≤ i) W4 V ∧ (k = 0 ∨ (k - 1) * szW wide long < size) ∧
    ∃ a c, V.heap[B + 1]? = some (.cells #[.slice a (streamN wide long seed k).length c] 23 (0, 0)) ∧ V.ownsRow (B + 6) 5 1 (.slice a (streamN wide long seed k).length c) (streamN wide long seed k).length (bv (streamN wide long seed k))
theorem MaskI.ext {wide long : Bool} {seed : List (BitVec 8)} {B size : Nat} {W4 : World} {k : Nat} {V V' : World} (h : MaskI wide long seed B size W4 k V) (he : Ext (Just (B + 5)) V V') : MaskI wide long seed B size W4 k V' := by
  obtain ⟨h1, h2, a, c, h3, h4⟩ := h
  refine ⟨h1.trans he (fun _ _ h => h) (fun i _ h => by have : i = B + 5 := h; omega), h2, a, c, he.heap h3 (fun h => by have : B + 1 = B + 5 := h; omega), he.owns h4 (fun b hb e => ?_)⟩
  have h5 := (h4.lt b hb).1
  have h6 : b = B + 5 := e
  omega

set_option maxHeartbeats 1000000 in
set_option maxRecDepth 100000 in
theorem mask_any {p : Nat → Prop} (wide long : Bool) (a : Option Addr) (n cap : Nat) (seed : List (BitVec 8)) (size : Nat) (W : World) (hh : Hid (Holds p W a cap seed)) (hn : Hid (seed.length = n)) (hnb : n ≤ 1000000) (hsz : size ≤ 900) (hl : Hid (Laid8 W)) :
    Calls Tryd.prog 11 #[.int .i64 (numW wide long), .slice a n cap, .int .i64 size] W fun e W' =>
      ∃ a', e = .returned (.tuple #[.slice a' size size, .int .i64 0]) ∧ Holds (fun c => W.heap.size ≤ c) W' a' size (maskN wide long seed size) ∧ Ext Nope W W' := by
  have hs0 : ¬ ((size : Int) < 0) := by omega
  have hs1 : ¬ (65536 < (size : Int)) := by omega
  obtain ⟨B, hB⟩ : ∃ B, W.heap.size = B := ⟨_, rfl⟩
  obtain ⟨W1, hW1⟩ : ∃ W1, W.alloc (.cells #[.int .i64 (size : Int)] 3) = W1 := ⟨_, rfl⟩
  have hx1 : Ext Nope W W1 := by rw [← hW1]; exact Ext.alloc _ _ _
  have hz1 : W1.heap.size = B + 1 := by rw [← hW1, World.size_alloc, hB]
  have hc1 : W1.cell? ⟨B, 0, none⟩ = some (.int .i64 (size : Int)) := by rw [← hW1, ← hB]; exact block_cell (World.alloc_heap_new W _) 0 rfl
  have HS := Lib.hid (size_W wide long W1 (hl.out.1.ext hx1 (fun h => h)))
  have HNE := Lib.hid (szW_lo wide long)
  obtain ⟨W2, hW2⟩ : ∃ W2, W1.alloc (.cells #[.slice none 0 0] 23) = W2 := ⟨_, rfl⟩
  have hx2 : Ext Nope W1 W2 := by rw [← hW2]; exact Ext.alloc _ _ _
  have hz2 : W2.heap.size = B + 2 := by rw [← hW2, World.size_alloc, hz1]
  have hb2 : W2.heap[B + 1]? = some (.cells #[.slice none 0 0] 23 (0, 0)) := by rw [← hW2, ← hz1]; exact World.alloc_heap_new W1 _
  refine (callsIn_wide (n := 9)).1 (callsIn_of_wp_marks Tryd.func11 rfl trivial ?_ rfl)
  simp only [Tryd.ntmps11, List.size_toArray, List.length_cons, List.length_nil, Nat.reduceAdd, Nat.reduceSub, Array.replicate_succ, Array.replicate_zero, List.push_toArray, List.append_toArray, List.nil_append, List.cons_append]
  gi_wp2_with fail
  apply wpIn_scope_straight
  gi_wp2_with fail
  refine ⟨trivial, calls_fr (r := none) (HS.out.mono ?_)⟩
  rintro e w ⟨rfl, hw⟩
  rw [hw]
  clear hw w
  have hsne : ¬ ((szW wide long : Nat) : Int) = 0 := by have := HNE.out; omega
  gi_wp2_with fail
  apply wpIn_label
  gi_wp2_with fail
  refine ⟨trivial, calls_fr (r := none) ((pieces_any _ a n cap W2).mono ?_)⟩
  rintro e w ⟨rfl, hW4⟩
  obtain ⟨W3, hW3⟩ : ∃ W3, W2.alloc (.cells #[.int .i64 (numW wide long)] 28) = W3 := ⟨_, rfl⟩
  rw [hW3] at hW4
  have hx3 : Ext Nope W2 W3 := by rw [← hW3]; exact Ext.alloc _ _ _
  have hz3 : W3.heap.size = B + 3 := by rw [← hW3, World.size_alloc, hz2]
  have hb3 : W3.heap[B + 2]? = some (.cells #[.int .i64 (numW wide long)] 28 (0, 0)) := by rw [← hW3, ← hz2]; exact World.alloc_heap_new W2 _
  have hx4 : Ext Nope W3 w := by rw [← hW4]; exact Ext.alloc _ _ _
  have hz4 : w.heap.size = B + 4 := by rw [← hW4, World.size_alloc, hz3]
  have hb4 : w.heap[B + 3]? = some (.cells #[.slice a n cap] 23 (0, 0)) := by rw [← hW4, ← hz3]; exact World.alloc_heap_new W3 _
  have hx14 : Ext Nope W1 w := (hx2.trans hx3 (fun _ _ h => h) (fun _ _ h => h)).trans hx4 (fun _ _ h => h) (fun _ _ h => h)
  have HX4 : Hid (Ext Nope W w) := hx1.trans hx14 (fun _ _ h => h) (fun _ _ h => h)
  have HC1 := Lib.hid (hx14.cell hc1 (fun h => h))
  have HB2 := Lib.hid ((hx3.trans hx4 (fun _ _ h => h) (fun _ _ h => h)).heap hb2 (fun h => h) (D := Nope))
  have HB3 := Lib.hid (hx4.heap hb3 (fun h => h))
  have HB4 := Lib.hid hb4
  have HZ4 := Lib.hid hz4
  have HB := Lib.hid hB
  rw [hz2]
  clear hx1 hz1 hc1 hx2 hz2 hb2 hx3 hz3 hb3 hx4 hz4 hb4 hx14 hW1 hW2 hW3 hW4 hB HS
  gi_wp2_with fail
  have HSZ := Lib.hid hsz
  clear hsz
  have HRd : Hid (∀ (k : Nat) (A : World), MaskI wide long seed B size w k A → PieceRd (fun _ => True) wide long (B + 2) (B + 3) a n cap seed A) := fun k A h => by
    have hxA := h.1
    have hxW : Ext Nope W A := HX4.out.trans hxA (fun _ _ h => h) (fun i hi h => by have := HB.out; omega)
    exact ⟨hxA.cell (block_cell HB3.out 0 rfl) (fun h => by have h' : B + 2 = B + 1 ∨ B + 4 ≤ B + 2 := h; omega), hxA.cell (block_cell HB4.out 0 rfl) (fun h => by have h' : B + 3 = B + 1 ∨ B + 4 ≤ B + 3 := h; omega), (hh.out.ext hxW (fun _ _ h => h)).mono (fun _ _ => trivial), hl.out.ext hxW⟩
  apply rangeFunc_lawG (gf := 46) (lb := #[.pointer (some ⟨B + 2, 0, none⟩), .pointer (some ⟨B + 2 + 1, 0, none⟩)]) rfl (enters_of Tryd.func46 (by kernel_rfl) rfl)
    (pieces1_ok (p := fun _ => True) 8 wide long (B + 2) (B + 3) a n cap seed (size + 1) (by have := HSZ.out; omega) hn hnb) rfl
    (MaskI wide long seed B size w)
    (fun c V => c = .exit 1 ∧ ∃ k, MaskI wide long seed B size w k V ∧ size ≤ k * szW wide long)
    (fun k A B' h he => by rw [HZ4.out] at he; exact h.ext he)
    (fun c A B' h he => by rw [HZ4.out] at he; obtain ⟨h1, k, h2, h3⟩ := h; exact ⟨h1, k, h2.ext he, h3⟩)
    (fun k A B' v h he => by obtain ⟨a', h1, h2⟩ := h; exact ⟨a', h1, h2.ext he (fun c hc e => by have h3 : c = w.heap.size + 1 := e; have h4 : w.heap.size + 1 < c := hc; omega)⟩)
    HRd.out
    (fun A h => by
      obtain ⟨_, h2, _⟩ := h
      have h3 : size ≤ size * szW wide long := Nat.le_mul_of_pos_right _ HNE.out
      rw [Nat.add_sub_cancel] at h2
      omega)
    (by
      refine ⟨Ext.refl _ _, .inl rfl, none, 0, ?_, ?_⟩
      · exact HB2.out
      · exact ⟨rfl, .inl ⟨rfl, rfl⟩⟩)
  case hassign =>
    intro l v V K hK
    gi_wp2
    exact hK
  case hbody =>
    rintro lp k v V hk hI ⟨ay, rfl, hhy⟩ hsz2
    have hIc := hI
    obtain ⟨hxV, hk0, ao, co, hbo, hown⟩ := hI
    have hc5 := hxV.cell HC1.out (fun h => by have h' : B = B + 1 ∨ B + 4 ≤ B := h; omega)
    have hc8 := block_cell hbo 0 rfl
    have hf8 := block_free hbo 0
    have HXV := Lib.hid hxV
    have HBO := Lib.hid hbo
    have HOWN := Lib.hid hown
    have HK0 := Lib.hid hk0
    have HHY := Lib.hid hhy
    have HS2 := Lib.hid hsz2
    have HIC := Lib.hid hIc
    have HLN := Lib.hid (streamN_length wide long seed k)
    obtain ⟨m, hm⟩ : ∃ m, (streamN wide long seed k).length = m := ⟨_, rfl⟩
    rw [hm] at hc8
    have HM := Lib.hid hm
    clear hIc hxV hbo hown hk0 hhy hsz2 hm
    by_cases hle : size ≤ m
    · have hleI : (size : Int) ≤ m := by omega
      clear hf8
      gi_wp2_with fail
      exact ⟨Ext.refl _ _, rfl, k, HIC.out, by rw [← HLN.out, HM.out]; exact hle⟩
    · have hleI : ¬ ((size : Int) ≤ m) := by omega
      obtain ⟨i0, hi0, hzi, hszi, hby⟩ := info_parts Tryd.infoB
      have HOWN2 : Hid (V.ownsRow (B + 6) 5 1 (.slice ao m co) m (bv (streamN wide long seed k))) := by have := HOWN.out; rw [HM.out] at this; exact this
      have HPL := Lib.hid (pieceN_length wide long seed k)
      have HS64 := Lib.hid (szW_hi wide long)
      obtain ⟨sz, hsz⟩ : ∃ sz, szW wide long = sz := ⟨_, rfl⟩
      have HSZW := Lib.hid hsz
      rw [hsz] at HHY HPL HS64 ⊢
      clear hsz
      gi_wp2_with (gi_at_builtin; refine wpListIn_append_b rfl (.tmp 29) (.tmp 30) _ _ rfl Tryd.uB hi0 hzi hszi hby (B + 6) rfl HOWN2.out rfl HHY.out HPL.out ?c1 ?c2 ?_)
      case c1 => have := HM.out; have := HPL.out; have := HS64.out; have := HSZ.out; omega
      case c2 => have := HS2.out; have := HZ4.out; omega
      intro v3 V3 ho3 hg3 _
      have hE3 : Ext (fun c => B + 6 ≤ c) V V3 := Ext.grownBy hg3 (fun b hb => (HOWN2.out.lt b hb).1)
      obtain ⟨a3, c3, rfl⟩ := owns_slice ho3
      have hb3' := hE3.heap HBO.out (fun h => by have h' : B + 6 ≤ B + 1 := h; omega)
      have hf3 := block_free hb3' 0
      have hc3 := block_cell hb3' 0 rfl
      have HO3 := Lib.hid ho3
      have HB3' := Lib.hid hb3'
      have HE3 := Lib.hid hE3
      have HLE := Lib.hid hle
      clear ho3 hg3 hE3 hb3' hc8 hf8 hc5 hleI hle
      gi_wp2_with fail
      have hset := block_set HB3'.out 0 (.slice a3 (streamN wide long seed k ++ pieceN wide long seed k).length c3)
      have hxs : Ext (Just (B + 1)) V3 (V3.setCell ⟨B + 1, 0, none⟩ (.slice a3 (streamN wide long seed k ++ pieceN wide long seed k).length c3)) := Ext.setCell (D := Just (B + 1)) _ _ _ rfl
      have hxx : Ext (fun i => i = B + 1 ∨ B + 6 ≤ i) V (V3.setCell ⟨B + 1, 0, none⟩ (.slice a3 (streamN wide long seed k ++ pieceN wide long seed k).length c3)) := HE3.out.trans hxs (fun _ _ h => .inr h) (fun _ _ h => .inl h)
      rw [← List.length_append]
      refine ⟨hxx.mono (fun i _ h => by have := HZ4.out; have h' : i = B + 1 ∨ B + 6 ≤ i := h; omega), HXV.out.trans hxx (fun _ _ h => h) (fun i _ h => by have h' : i = B + 1 ∨ B + 6 ≤ i := h; show i = B + 1 ∨ B + 4 ≤ i; omega), .inr ?_, a3, c3, ?_, ?_⟩
      · rw [Nat.add_sub_cancel, ← HLN.out, HM.out]; have := HLE.out; omega
      · rw [streamN_succ]; simpa using hset
      · rw [streamN_succ]
        have HO4 := HO3.out
        rw [← List.length_append] at HO4
        exact hxs.owns HO4 (fun b hb e => by have h1 := (HO4.lt b hb).1; have h2 : b = B + 1 := e; omega)
  case hstop =>
    rintro c V ⟨rfl, k, hI, hle⟩ hK
    obtain ⟨hxV, hk0, ao, co, hbo, hown⟩ := hI
    have hc5 := hxV.cell HC1.out (fun h => by have h' : B = B + 1 ∨ B + 4 ≤ B := h; omega)
    have hc8 := block_cell hbo 0 rfl
    have HLN := Lib.hid (streamN_length wide long seed k)
    obtain ⟨m, hm⟩ : ∃ m, (streamN wide long seed k).length = m := ⟨_, rfl⟩
    have hle2 : size ≤ m := by rw [← hm, HLN.out]; exact hle
    rw [hm] at hc8
    have HXV := Lib.hid hxV
    have HOWN := Lib.hid hown
    have HLE := Lib.hid hle
    have HM := Lib.hid hm
    have HK := Lib.hid hK
    obtain ⟨_, ao2, co2, he, hho⟩ := owns_shape hown
    simp only [Value.slice.injEq] at he
    obtain ⟨rfl, -, rfl⟩ := he
    have hmc : m ≤ co := by have := hho.len; omega
    have HHO := Lib.hid hho
    have hsc : (size : Int) ≤ co := by omega
    have h00 : (0 : Int) ≤ size := by omega
    clear hxV hbo hown hk0 hm hle hK hho
    gi_wp2_with fail
    refine leave_one HK.out (fun w' => results_tmp2 rfl _ _ _) ⟨ao, rfl, ?_, ?_⟩
    · rw [← maskN_of wide long seed size k HLE.out]
      exact ((HHO.out.cut (by rw [HM.out]; exact hle2)).ext (Ext.putObj (D := Just w.heap.size) _ w.heap.size _ rfl) (fun c hc e => by have h1 := hc.1; have h2 : c = w.heap.size := e; have := HZ4.out; omega)).mono (fun c hc => by have h1 := hc.1; have := HB.out; omega)
    · exact (HX4.out.trans HXV.out (fun _ _ h => h) (fun i hi h => by have h' : i = B + 1 ∨ B + 4 ≤ i := h; have := HB.out; omega)).trans (Ext.putObj (D := Just w.heap.size) _ w.heap.size _ rfl) (fun _ _ h => h) (fun i hi h => by have h2 : i = w.heap.size := h; have := HZ4.out; have := HB.out; omega)
end Go.Proofs.YtjfcldjepgijeaaDoor
