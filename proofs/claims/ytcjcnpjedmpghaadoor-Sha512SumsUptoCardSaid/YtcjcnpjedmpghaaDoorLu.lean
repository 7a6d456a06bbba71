/- Sha512Sums: the law walked. -/
import Derived.Test.YtcjcnpjedmpghaaDoorLb
import Derived.Test.YtcjcnpjedmpghaaDoorFo
import Derived.Test.YtcjcnpjedmpghaaDoorRowU
namespace Go.Proofs.YtcjcnpjedmpghaaDoor
open Go.RowKit Go.Shelf

/-- a state that took x; what it keeps lies in memory from B on -/
def FedN (W : World) (B b : Nat) (long : Bool) (x : List (BitVec 8)) : Prop := IsStN W B b (szOf long) (turns (iniOf long) x) (left5 x) (BitVec.ofNat 64 x.length)
theorem fed_write_new {p : Nat → Prop} (b : Nat) (long : Bool) (x l : List (BitVec 8)) (a : Option Addr) (n cap : Nat) (W : World) (hs : Hid (Fed W b long x))
    (hh : Hid (Holds p W a cap l)) (hn : Hid (l.length = n)) (hb : n ≤ 1000000000) (hcu : Hid (Cubes W)) :
    Calls Tryd.prog 11 #[.pointer (some ⟨b, 0, none⟩), .slice a n cap] W fun e W' => e = .returned (.tuple #[]) ∧ FedN W' W.heap.size b long (x ++ l) ∧ Ext (Just b) W W' := by
  refine (write_new b _ _ (left5 x) l (BitVec.ofNat 64 x.length) a n cap W hs (szOf_ne long) hh hn (by rw [left5_length]; omega) hcu).mono ?_
  rintro e W' ⟨he, hst, hx⟩
  refine ⟨he, ?_, hx⟩
  unfold FedN
  rw [turns_append, left5_append] at hst
  rw [List.length_append, hn.out]
  have : BitVec.ofNat 64 x.length + BitVec.ofNat 64 n = BitVec.ofNat 64 (x.length + n) := by
    apply BitVec.eq_of_toNat_eq; simp
  rw [← this]; exact hst
theorem FedN.fed {W W' : World} {B b g : Nat} {long : Bool} {x : List (BitVec 8)} (hs : FedN W B b long x) (he : Ext (Just g) W W') (hb : g ≠ b) (hg : g < B) : Fed W' b long x := by
  obtain ⟨a, cap, h1, h2⟩ := hs
  exact ⟨a, cap, he.heap h1 (fun e => hb e.symm), (h2.ext he (fun c hc e => by have : c = g := e; omega)).mono (fun c hc => Nat.lt_of_lt_of_le hc.2 he.size)⟩

theorem refof_of {p : Nat → Prop} (long : Bool) (a : Option Addr) (n cap : Nat) (l : List (BitVec 8)) (W : World) (hh : Hid (Holds p W a cap l)) (hn : Hid (l.length = n)) (hnb : n ≤ 100000) :
    Calls Tryd.prog 9 #[.int .i64 (bitsOf long), .slice a n cap] W fun e W' => ∃ (a' : Option Addr) (c' : Nat), e = .returned (.tuple #[.slice a' (szOf long) c', .int .i64 0]) ∧
      Holds (fun c => W.heap.size ≤ c) W' a' c' (hash5 (szOf long) (iniOf long) l) ∧ (hash5 (szOf long) (iniOf long) l).length = szOf long ∧ Ext Nope W W' := by
  have key : ∀ {sz : Nat} {v : Value} {m : List (BitVec 8)} {W' : World}, W'.ownsRow W.heap.size 5 1 v sz (bv m) → ∃ (a' : Option Addr) (c' : Nat), v = .slice a' sz c' ∧ Holds (fun c => W.heap.size ≤ c) W' a' c' m ∧ m.length = sz := fun h => by
    obtain ⟨e, a', c', rfl, hh'⟩ := owns_shape h
    exact ⟨a', c', by rw [e], hh'.mono (fun c hc => hc.1), e.symm⟩
  cases long
  · refine (refof_384 a n cap l W hh hn hnb).mono ?_
    rintro e W' ⟨v, rfl, ho, hx⟩
    obtain ⟨a', c', rfl, h1, h2⟩ := key ho
    exact ⟨a', c', rfl, h1, h2, hx⟩
  · refine (refof_512 a n cap l W hh hn hnb).mono ?_
    rintro e W' ⟨v, rfl, ho, hx⟩
    obtain ⟨a', c', rfl, h1, h2⟩ := key ho
    exact ⟨a', c', rfl, h1, h2, hx⟩

theorem append_w {P : Program} {W : World} {base t ty e : Nat} {i : TypeInfo} (ht : P.underlying t = some (.slice e)) (hi : P.info? e = some i)
    (hz : i.zero = some (.int .u8 0)) (hsize : i.size = 1) (hby : i.bytes = 1)
    {v : Value} {n : Nat} {l m : List (BitVec 8)} {a : Option Addr} {cap k : Nat} (hown : W.ownsRow base e 1 v n (bv l)) (hs : HoldsW W a cap m) (hk : m.length = k)
    (hb : l.length + m.length ≤ 140737488355328) (hbase : base ≤ W.heap.size) :
    ∃ v' W', (Builtin.append_ #[t, t] ty #[v, .slice a k cap]).run P W = .ok v' W' ∧ W'.ownsRow base e 1 v' (l.length + m.length) (bv (l ++ m)) ∧ W.grownBy W' v.ownBlock ∧
      (v' = .slice none 0 0 ↔ v = .slice none 0 0 ∧ m = []) := by
  subst hk
  have hn : n = l.length := (owns_shape hown).1
  subst hn
  cases a with
  | none =>
    obtain rfl : m = [] := hs.none rfl
    refine ⟨v, W, ?_, by simpa using hown, ⟨rfl, rfl, rfl, Nat.le_refl _, fun _ _ _ => rfl⟩, by simp⟩
    obtain ⟨a', cap', rfl, hh⟩ := (owns_shape hown).2
    have hlen := hh.len
    cases a' with
    | none =>
      simp [Builtin.append_, run_underlying ht, sizeOf, typeInfo, hi, Builtin.lenOf, Builtin.firstCells, hlen]
    | some ad =>
      simp [Builtin.append_, run_underlying ht, sizeOf, typeInfo, hi, Builtin.lenOf, Builtin.firstCells, loadCells, hlen, storeCells]
  | some ad =>
    obtain ⟨v', W', h1, h2, h3, h4⟩ := run_append_own (P := P) W base t ty e i (.int .u8 0) 1 1 ht hi hz hsize hby rfl (by decide) v l.length (bv l) hown ad m.length cap (bv m)
      (by rw [bv_length]; omega) (hs.news ad rfl) (bv_one m) (by unfold maxLen; omega) (by omega) hbase
    exact ⟨v', W', h1, by rw [bv_append]; exact h2, h3, by rw [h4]; simp [List.length_eq_zero_iff]⟩
theorem wpList_append_w {P : Program} {W : World} {ops : Array Oper} {rest : List Oper} {o : Oper} {A : Act} {Q : Exit → Act → World → Prop} (hg : o.guard = none) (s x : Operand) (t e : TypeId) (ho : o.op = .call { callee := .builtin .append, args := #[s, x], argTypes := #[t, t] })
    {i : TypeInfo} (ht : P.underlying t = some (.slice e)) (hi : P.info? e = some i)
    (hz : i.zero = some (.int .u8 0)) (hsize : i.size = 1) (hby : i.bytes = 1) (base : Nat)
    {v : Value} {n : Nat} {l m : List (BitVec 8)} {a : Option Addr} {cap k : Nat} (hv : A.eval s = v) (hown : W.ownsRow base e 1 v n (bv l))
    (hx : A.eval x = .slice a k cap) (hs : HoldsW W a cap m) (hk : m.length = k)
    (hb : l.length + m.length ≤ 140737488355328) (hbase : base ≤ W.heap.size)
    (h : ∀ v' W', W'.ownsRow base e 1 v' (l ++ m).length (bv (l ++ m)) → W.grownBy W' v.ownBlock → (v' = .slice none 0 0 ↔ v = .slice none 0 0 ∧ m = []) → wpList P ops Q rest (A.put o.dst v') W') :
    wpList P ops Q (o :: rest) A W := by
  obtain ⟨v', W', h1, h2, h3, h4⟩ := append_w (ty := o.type) ht hi hz hsize hby hown hs hk hb hbase
  exact wpList_value hg (exec_append ho (by rw [hv, hx]; exact h1)) (h v' W' (by rw [List.length_append]; exact h2) h3 h4)
theorem holds_string_w {W : World} {a : Option Addr} {cap n : Nat} {l : List (BitVec 8)} (h : HoldsW W a cap l) (hn : l.length = n) :
    (convert 23 9 (.slice a n cap)).run Tryd.prog W = .ok (.string (strOf l)) W := by
  cases a with
  | none =>
    obtain rfl : l = [] := h.none rfl
    exact run_convert_bytes_nil (P := Tryd.prog) W 23 5 Tryd.uB Tryd.underlying5 n cap _ Tryd.underlying9
  | some ad =>
    have hl := run_loadCells_list (P := Tryd.prog) W ad (bv l) (h.news ad rfl)
    have hb : bv l = (l.map fun c => wd c).map (Value.int .u8) := by unfold bv; rw [List.map_map]; rfl
    have hl2 : (loadCells ad n).run Tryd.prog W = .ok ((l.map fun c => wd c).map (Value.int .u8)).toArray W := by
      rw [← hb, ← hn, ← bv_length]; exact hl
    rw [← strOf_nums, run_convert_bytes_string W 23 9 5 _ n cap Tryd.uB Tryd.underlying5 Tryd.underlying9, run_bytesToString W _ n cap _ hl2, foldl_push_bytes]
    simp [strOfNums, ByteArray.empty, ByteArray.emptyWithCapacity]
    rfl

theorem HoldsL.grow {W W' : World} {a : Option Addr} {n cap : Nat} {L : List (List (BitVec 8))} (h : HoldsL W a n cap L) (he : Ext Nope W W') : HoldsL W' a n cap L :=
  ⟨h.len, h.fits, h.max, h.lies.imp id fun ⟨b, off, e, hc⟩ => ⟨b, off, e, fun i li hi => by
    obtain ⟨ai, ci, h1, h2⟩ := hc i li hi
    exact ⟨ai, ci, he.cell h1 (fun h => h), h2.ext he⟩⟩⟩
theorem HoldsL.at {W : World} {a : Option Addr} {n cap : Nat} {L : List (List (BitVec 8))} (h : HoldsL W a n cap L) {i : Nat} (hi : i < n) :
    ∃ b off li ai ci, a = some ⟨b, off, none⟩ ∧ L[i]? = some li ∧ W.cell? ⟨b, off + i, none⟩ = some (.slice ai li.length ci) ∧ HoldsW W ai ci li := by
  rcases h.lies with h0 | ⟨b, off, e, hc⟩
  · omega
  · have hl : L[i]? = some (L[i]'(by rw [h.len]; exact hi)) := List.getElem?_eq_getElem _
    obtain ⟨ai, ci, h1, h2⟩ := hc i _ hl
    exact ⟨b, off, _, ai, ci, e, hl, h1, h2⟩
theorem flat_next {L : List (List (BitVec 8))} {i : Nat} {li : List (BitVec 8)} (h : L[i]? = some li) : (L.take (i + 1)).flatten = (L.take i).flatten ++ li := by
  rw [List.take_add_one, h]; simp
theorem flat_le (L : List (List (BitVec 8))) (i : Nat) : (L.take i).flatten.length ≤ L.flatten.length := by
  conv => rhs; rw [← List.take_append_drop i L, List.flatten_append, List.length_append]
  omega

theorem u8_inc (x : BitVec 8) : IntKind.u8.wrap (wd x + 1) = wd (x + 1) := by
  rw [wrap8_wd, BitVec.ofInt_add, ofInt_wd]; rfl
/-- k bytes in a block of one's own -/
def Rowb (V : World) (g k : Nat) : Prop := ∃ cs : Array Value, V.heap[g]? = some (.cells cs 5 (0, 0)) ∧ k ≤ cs.size ∧ ∀ x, x < k → ∃ c : BitVec 8, cs[x]? = some (.int .u8 (wd c))
theorem Rowb.free {V : World} {g k : Nat} (h : Rowb V g k) (j : Nat) : V.frozen? ⟨g, j, none⟩ = false := by
  obtain ⟨cs, h1, _⟩ := h; exact block_free h1 j
theorem Rowb.cell {V : World} {g k : Nat} (h : Rowb V g k) {j : Nat} (hj : j < k) : ∃ c : BitVec 8, V.cell? ⟨g, j, none⟩ = some (.int .u8 (wd c)) := by
  obtain ⟨cs, h1, h2, h3⟩ := h; obtain ⟨c, hc⟩ := h3 j hj; exact ⟨c, block_cell h1 j hc⟩
theorem Rowb.set {V : World} {g k : Nat} (h : Rowb V g k) (j : Nat) (v : BitVec 8) : Rowb (V.setCell ⟨g, j, none⟩ (.int .u8 (wd v))) g k := by
  obtain ⟨cs, h1, h2, h3⟩ := h
  refine ⟨_, block_set h1 j _, by simpa using h2, fun x hx => ?_⟩
  by_cases e : x = j
  · subst e; exact ⟨v, by rw [Array.getElem?_setIfInBounds_self_of_lt (by omega)]⟩
  · rw [Array.getElem?_setIfInBounds_ne (fun h => e h.symm)]; exact h3 x hx
theorem Rowb.ext {D : Nat → Prop} {V V' : World} {g k : Nat} (h : Rowb V g k) (he : Ext D V V') (hd : ¬ D g) : Rowb V' g k := by
  obtain ⟨cs, h1, h2⟩ := h; exact ⟨cs, he.heap h1 hd, h2⟩
/-- an owned row with an array -/
theorem owns_some {W : World} {base n : Nat} {v : Value} {l : List (BitVec 8)} (h : W.ownsRow base 5 1 v n (bv l)) (hv : v ≠ .slice none 0 0) :
    ∃ g cap, v = .slice (some ⟨g, 0, none⟩) n cap ∧ n ≤ cap ∧ base ≤ g ∧ g < W.heap.size ∧ Rowb W g n ∧ Holds (fun c => c = g) W (some ⟨g, 0, none⟩) cap l ∧ l.length = n := by
  have hsh := owns_shape h
  obtain ⟨hl, h⟩ := h
  rw [bv_length] at hl
  rcases h with ⟨e, _⟩ | ⟨g, cap, cur, rfl, hb, hg, hc, hm, hcs, ht⟩
  · exact absurd e hv
  · obtain ⟨_, a', c', e, hh⟩ := hsh
    simp only [Value.slice.injEq] at e
    obtain ⟨rfl, _, rfl⟩ := e
    refine ⟨g, cap, rfl, hc, hb, (Array.getElem?_eq_some_iff.1 hg).1, ⟨cur, hg, by omega, fun x hx => ?_⟩, hh.mono (fun c hc => ?_), by omega⟩
    · have hx2 : x < l.length := by omega
      have h1 : (bv l)[x]? = some (.int .u8 (wd l[x])) := by rw [bv_get, List.getElem?_eq_getElem hx2]; rfl
      rw [← ht, List.getElem?_take] at h1
      split at h1
      · exact ⟨l[x], by simpa using h1⟩
      · cases h1
    · have := hc.2.2; simp [Value.ownBlock] at this; exact this.symm
theorem fed_sum_row (b : Nat) (long : Bool) (x : List (BitVec 8)) (W : World) (hs : Hid (Fed W b long x)) (hcu : Hid (Cubes W)) :
    Calls Tryd.prog 12 #[.pointer (some ⟨b, 0, none⟩)] W fun e W' => ∃ g, e = .returned (.slice (some ⟨g, 0, none⟩) (szOf long) (szOf long)) ∧ W.heap.size ≤ g ∧ g < W'.heap.size ∧ Rowb W' g (szOf long) ∧
      Holds (fun c => c = g) W' (some ⟨g, 0, none⟩) (szOf long) (hash5 (szOf long) (iniOf long) x) ∧ Ext Nope W W' := by
  refine (sum_any b (szOf long) _ _ _ W hs (szOf_lo long) (szOf_hi long) (by show (left5 x).length < 128; rw [left5_length]; omega) hcu).mono ?_
  rintro e W' ⟨g, cur, rfl, hg, hh, ht, hl, hx⟩
  rw [sum5_left] at ht hl
  have hlen := hash5_length (szOf long) (iniOf long) x (szOf_hi long)
  have hcell : ∀ (i : Nat) (c : BitVec 8), (hash5 (szOf long) (iniOf long) x)[i]? = some c → cur[i]? = some (Value.int .u8 (wd c)) := fun i c hi => by
    have h1 : (bv (hash5 (szOf long) (iniOf long) x))[i]? = some (.int .u8 (wd c)) := by rw [bv_get, hi]; rfl
    have h2 : bv (sum5 (szOf long) (iniOf long) x (BitVec.ofNat 64 x.length)) = bv (hash5 (szOf long) (iniOf long) x) := rfl
    rw [← h2, ← ht, List.getElem?_take] at h1
    split at h1
    · simpa using h1
    · cases h1
  have hsz : szOf long ≤ cur.size := by
    have := congrArg List.length ht
    rw [List.length_take, bv_length, hl] at this
    simp at this; omega
  refine ⟨g, rfl, hg, (Array.getElem?_eq_some_iff.1 hh).1, ⟨cur, hh, hsz, fun i hi => ?_⟩, ⟨by omega, by have := szOf_hi long; unfold maxLen; omega, .inr ⟨g, 0, rfl, fun _ => rfl, fun i c hi => by rw [Nat.zero_add]; exact block_cell hh i (hcell i c hi)⟩⟩, hx⟩
  exact ⟨_, hcell i _ (List.getElem?_eq_getElem (by omega))⟩

theorem flat_prefix (L : List (List (BitVec 8))) (j : Nat) : L.flatten.take (L.take j).flatten.length = (L.take j).flatten := by
  conv => lhs; rw [← List.take_append_drop j L, List.flatten_append]
  rw [List.take_append_drop]
  exact List.take_left

set_option maxRecDepth 100000 in
set_option maxHeartbeats 20000000 in
theorem sums_384 (a : Option Addr) (n cap : Nat) (L : List (List (BitVec 8))) (W : World) (hq : Hid (Squares W)) (hcu : Hid (Cubes W)) (HL : Hid (HoldsL W a n cap L)) (ht : L.flatten.length ≤ 1048576) :
    Calls Tryd.prog 3 #[.int .i64 384, .slice a n cap] W (TrueOf W) := by
  obtain ⟨i0, hi0, hzi, hszi, hby⟩ := info_parts Tryd.infoB
  have hmx := HL.out.max
  have hcp := HL.out.fits
  unfold maxLen at hmx
  by_cases h20 : n ≤ 20
  · have h20I : ¬ ((20 : Int) < n) := by omega
    go_enter Tryd.func3, Tryd.ntmps3
    go_wp2_with fail
    go_loopw [5, 27] (fun vo vi V => ∃ (i m : Nat) (X : List (BitVec 8)), i ≤ n ∧ vi = .int .i64 i ∧ X = (L.take i).flatten ∧ m ≤ 1048576 ∧ V.ownsRow W.heap.size 5 1 vo m (bv X) ∧ Ext Nope W V) (fun _ i _ => n - (intOf i).toNat)
    case atStart => exact ⟨0, 0, [], by omega, rfl, by simp, by omega, ⟨rfl, .inl ⟨rfl, rfl⟩⟩, Ext.refl _ _⟩
    case round =>
      obtain ⟨i, m, X, hi, rfl, hX, hm, hown, hx⟩ := hrel
      have HX := Lib.hid hX
      have HOWN := Lib.hid hown
      have HE := Lib.hid hx
      obtain ⟨ao, co, rfl⟩ := owns_form hown
      clear hX hown hx
      by_cases hlt : i < n
      · have hltI : (i : Int) < n := by omega
        obtain ⟨b, off, li, ai, ci, rfl, hLi, hcell, hli⟩ := (HL.out.grow HE.out).at hlt
        have HN := Lib.hid (flat_next hLi)
        have HLI := Lib.hid hli
        have HTL : Hid (((L.take (i + 1)).flatten).length ≤ 1048576) := Nat.le_trans (flat_le L _) ht
        obtain ⟨k, hk⟩ : ∃ k, li.length = k := ⟨_, rfl⟩
        have HK := Lib.hid hk
        rw [hk] at hcell
        have HML : Hid (X.length = m) := by have := HOWN.out.1; rw [bv_length] at this; unfold Hid; omega
        clear hLi hli hk
        go_wp2_with (at_builtin; refine wpList_append_w rfl (.tmp 30) (.tmp 34) _ _ rfl Tryd.uB hi0 hzi hszi hby W.heap.size rfl HOWN.out rfl HLI.out HK.out ?c1 ?c2 ?_)
        case c1 => have := HTL.out; rw [HN.out, ← HX.out, List.length_append] at this; omega
        case c2 => exact HE.out.size
        intro v1 w1 ho1 hg1 _
        have HO1 := Lib.hid ho1
        have HE1 : Hid (Ext Nope W w1) := HE.out.trans (Ext.grownBy (D := fun c => W.heap.size ≤ c) hg1 (fun b hb => (HOWN.out.lt b hb).1)) (fun _ _ h => h) (fun j hj h => by have : W.heap.size ≤ j := h; omega)
        clear ho1 hg1
        go_wp2_with fail
        refine ⟨⟨i + 1, X.length + li.length, X ++ li, by omega, by congr 1, by rw [HN.out, HX.out], ?_, HO1.out, HE1.out⟩, by simp [intOf]; omega⟩
        have := HTL.out; rw [HN.out, ← HX.out, List.length_append] at this; exact this
      · obtain rfl : n = i := by omega
        have hltI : ¬ ((n : Int) < n) := by omega
        rw [List.take_of_length_le (by rw [HL.out.len]; exact Nat.le_refl _)] at HX
        obtain ⟨w0, hw0⟩ : ∃ w0, w0 = wr := ⟨_, rfl⟩
        subst hw0
        by_cases hbig : m ≤ 1500
        · have hbigI : ¬ ((1500 : Int) < m) := by omega
          have HA0 : Hid (Holds (fun c => c < w0.heap.size) w0 ao co X) := by
            obtain ⟨_, a', c', e, hh'⟩ := owns_shape HOWN.out
            simp only [Value.slice.injEq] at e
            obtain ⟨rfl, _, rfl⟩ := e
            exact hh'.mono (fun c hc => hc.2.1)
          have HML : Hid (X.length = m) := by have := HOWN.out.1; rw [bv_length] at this; unfold Hid; omega
          obtain ⟨long, hlong, hszI⟩ : ∃ long, bitsOf long = 384 ∧ ((szOf long : Nat) : Int) = 48 := ⟨false, rfl, rfl⟩
          have HQ0 : Hid (Squares w0) := hq.out.ext HE.out (fun h => h)
          have HC0 : Hid (Cubes w0) := hcu.out.ext HE.out (fun h => h)
          have HLG := Lib.hid hlong
          have HSI := Lib.hid hszI
          clear hlong hszI HOWN
          go_wp2_with fail
          refine (of_of long _ HLG.out ao m co X w0 HA0 HML (by omega) HQ0 HC0).mono ?_
          rintro e w1 ⟨v1, rfl, a1, rfl, hh1, hl1, hx1⟩
          have HE1 : Hid (Ext Nope W w1) := HE.out.trans hx1 (fun _ _ h => h) (fun _ _ h => h)
          have HH1 := Lib.hid hh1
          have HL1 := Lib.hid hl1
          have HA1 : Hid (Holds (fun c => c < w0.heap.size) w1 ao co X) := HA0.out.ext hx1 (fun _ _ h => h)
          have HS01 : Hid (w0.heap.size ≤ w1.heap.size) := hx1.size
          have HR := Lib.hid (refof_of long ao m co X w1 HA1 HML (by omega))
          rw [HLG.out] at HR
          clear hh1 hl1 hx1
          go_wp2_with fail
          refine HR.out.mono ?_
          rintro e w2 ⟨a2, c2, rfl, hh2, hl2, hx2⟩
          have HE2 : Hid (Ext Nope W w2) := HE1.out.trans hx2 (fun _ _ h => h) (fun _ _ h => h)
          have HH2 : Hid (Holds (fun c => c < w2.heap.size) w2 a2 c2 (hash5 (szOf long) (iniOf long) X)) := hh2.lt.mono (fun c hc => hc.2)
          have HH12 : Hid (Holds (fun c => c < w2.heap.size) w2 a1 (szOf long) (hash5 (szOf long) (iniOf long) X)) := (HH1.out.ext hx2 (fun _ _ h => h)).lt.mono (fun c hc => hc.2)
          have HA2 : Hid (Holds (fun c => c < w2.heap.size) w2 ao co X) := (HA1.out.ext hx2 (fun _ _ h => h)).lt.mono (fun c hc => hc.2)
          have HQ2 : Hid (Squares w2) := hq.out.ext HE2.out (fun h => h)
          have HNW := Lib.hid (new_of long w2 HQ2)
          rw [HLG.out] at HNW
          clear hh2 hl2 hx2 HR
          go_wp2_with fail
          refine HNW.out.mono ?_
          rintro e w3 ⟨rfl, hs3, hx3⟩
          have HE3 : Hid (Ext Nope W w3) := HE2.out.trans hx3 (fun _ _ h => h) (fun _ _ h => h)
          have HF3 := Lib.hid (fed_new (long := long) hs3)
          obtain ⟨bs, hbs⟩ : ∃ bs, w2.heap.size = bs := ⟨_, rfl⟩
          rw [hbs] at HH2 HH12 HA2 HF3 ⊢
          have HBS : Hid (W.heap.size ≤ bs) := by rw [← hbs]; exact HE2.out.size
          have HH23 : Hid (Holds (fun c => c < bs) w3 a2 c2 (hash5 (szOf long) (iniOf long) X)) := HH2.out.ext hx3 (fun _ _ h => h)
          have HA3 : Hid (Holds (fun c => c < bs) w3 ao co X) := HA2.out.ext hx3 (fun _ _ h => h)
          have hc4 := holds_string (HH12.out.ext hx3 (fun _ _ h => h)) HL1.out
          have hc5 := holds_string HH23.out HL1.out
          clear hs3 hx3 HNW hbs HH2 HH12 HA2
          have HAC : Hid (m ≤ co) := by have := HA3.out.len; have := HML.out; unfold Hid; omega
          have hszI := HSI.out
          go_wp2_with fail
          clear hc4 hc5
          go_loopw [13, 83] (fun vn vi V => ∃ (i k : Nat) (Y : List (BitVec 8)), i ≤ n ∧ vi = .int .i64 i ∧ vn = .int .i64 k ∧ Y = (L.take i).flatten ∧ Y.length = k ∧ Fed V bs long Y ∧ Ext (Just bs) w3 V) (fun _ vi _ => n - (intOf vi).toNat)
          case atStart => exact ⟨0, 0, [], by omega, rfl, rfl, by simp, rfl, HF3.out, Ext.refl _ _⟩
          case round =>
            obtain ⟨i2, k, Y, hi2, rfl, rfl, hY, hYk, hf, hx⟩ := hrel
            have HY := Lib.hid hY
            have HYK := Lib.hid hYk
            have HF := Lib.hid hf
            have HX3 := Lib.hid hx
            have HXW : Hid (Ext Nope W wr) := HE3.out.trans hx (fun _ _ h => h) (fun j hj h => by have := HBS.out; simp only [Just] at h; omega)
            clear hY hYk hf hx
            by_cases hlt : i2 < n
            · have hltI : (i2 : Int) < n := by omega
              obtain ⟨b, off, li, ai, ci, rfl, hLi, hcellW, hliW⟩ := HL.out.at hlt
              have HCW := Lib.hid hcellW
              have HLW := Lib.hid hliW
              have hcell := HXW.out.cell hcellW (fun h => h)
              have HN := Lib.hid (flat_next hLi)
              obtain ⟨q, hq2⟩ : ∃ q, li.length = q := ⟨_, rfl⟩
              have HQL := Lib.hid hq2
              rw [hq2] at hcell HCW
              have HTK : Hid (k + q ≤ m) := by
                have h1 := flat_le L (i2 + 1)
                have h2 := HN.out; rw [← HY.out] at h2
                rw [h2, List.length_append, HYK.out, HQL.out, ← HX.out, HML.out] at h1
                exact h1
              obtain ⟨we, hwe⟩ : ∃ we, wr.alloc (.cells #[] 5) = we := ⟨_, rfl⟩
              have HOW : Hid (we.ownsRow wr.heap.size 5 1 (.slice (some ⟨wr.heap.size, 0, none⟩) 0 0) 0 (bv [])) := by
                rw [← hwe]; exact ⟨rfl, .inr ⟨_, 0, #[], rfl, Nat.le_refl _, World.alloc_heap_new wr _, Nat.le_refl _, Nat.zero_le _, rfl, rfl⟩⟩
              have hxe : Ext Nope wr we := by rw [← hwe]; exact Ext.alloc _ _ _
              have HXE := Lib.hid hxe
              have HLE : Hid (HoldsW we ai ci li) := (hliW.ext HXW.out).ext hxe
              have hcell2 := hxe.cell hcell (fun h => h)
              have HQ2 := Lib.hid hq2
              have HBW : Hid (bs < wr.heap.size) := HF.out.lt
              clear hLi hliW hcellW hxe hq2
              go_wp2_with (at_builtin; refine wpList_append_w rfl (.tmp 86) (.tmp 90) _ _ rfl Tryd.uB hi0 hzi hszi hby wr.heap.size rfl HOW.out rfl HLE.out HQL.out ?c1 ?c2 ?_)
              case c1 => have := HTK.out; have := HQL.out; simp; omega
              case c2 => exact HXE.out.size
              intro v4 w4 ho4 hg4 hne4
              have hv4 : v4 ≠ .slice none 0 0 := fun e => by simp [e] at hne4
              have HO4 : w4.ownsRow wr.heap.size 5 1 v4 q (bv li) := by have h := ho4; simpa [HQ2.out] using h
              obtain ⟨g, co4, rfl, hco4, hg4a, hg4b, hrb4, hh4, hl4⟩ := owns_some HO4 hv4
              have HX4 : Hid (Ext Nope wr w4) := HXE.out.trans (Ext.grownBy (D := fun c => wr.heap.size ≤ c) hg4 (fun b hb => (HOW.out.lt b hb).1)) (fun _ _ h => h) (fun j hj h => by have : wr.heap.size ≤ j := h; omega)
              have HF4 : Hid (Fed w4 bs long Y) := HF.out.grow HX4.out
              have HXW4 : Hid (Ext Nope W w4) := HXW.out.trans HX4.out (fun _ _ h => h) (fun _ _ h => h)
              have HC4 : Hid (Cubes w4) := hcu.out.ext HXW4.out (fun h => h)
              have HG4 : Hid (wr.heap.size ≤ g ∧ g < w4.heap.size) := ⟨hg4a, hg4b⟩
              have HRB4 := Lib.hid hrb4
              have HH4 := Lib.hid hh4
              clear ho4 hg4 hne4 hv4 HO4 hg4a hg4b hrb4 hh4 hl4 hcell hcell2 hwe
              go_wp2_with fail
              refine (fed_write_new bs long Y li (some ⟨g, 0, none⟩) q co4 w4 HF4 HH4 HQ2 (by have := HTK.out; omega) HC4).mono ?_
              rintro e w5 ⟨rfl, hf5, hx5⟩
              have HGB : Hid (g ≠ bs) := by have := HG4.out; have := HBW.out; unfold Hid; omega
              have HFN5 := Lib.hid hf5
              have HXW5 : Hid (Ext Nope W w5) := HXW4.out.trans hx5 (fun _ _ h => h) (fun j hj h => by have := HBS.out; simp only [Just] at h; omega)
              have HX5 : Hid (Ext (Just bs) w3 w5) := (HX3.out.trans HX4.out (E := Just bs) (fun _ _ h => h) (fun _ _ h => h.elim)).trans hx5 (fun _ _ h => h) (fun _ _ h => h)
              have HRB5 : Hid (Rowb w5 g q) := HRB4.out.ext hx5 (fun h => HGB.out h)
              have HH5 : Hid (Holds (fun c => c = g) w5 (some ⟨g, 0, none⟩) co4 li) := HH4.out.ext hx5 (fun c hc h => by have : c = bs := h; have := HGB.out; omega)
              have hcell5 := HXW5.out.cell HCW.out (fun h => h)
              have hA : ∀ nq, (convert 23 9 (.slice (some ⟨g, 0, none⟩) q co4)).run Tryd.prog (w5.drewN nq) = .ok (.string (strOf li)) (w5.drewN nq) := fun nq => holds_string (HH5.out.ext (Ext.drewN Nope w5 nq) (fun _ _ h => h)) HQ2.out
              have hB : ∀ nq, (convert 23 9 (.slice ai q ci)).run Tryd.prog (w5.drewN nq) = .ok (.string (strOf li)) (w5.drewN nq) := fun nq => holds_string_w ((HLW.out.ext HXW5.out).ext (Ext.drewN Nope w5 nq)) HQ2.out
              clear hf5 hx5 HRB4 HH4 HF4
              go_wp2_with fail
              refine wp_region_quiet_lit (by kernel_rfl) (by kernel_rfl) ?_
              repeat (go_big_quiet_step (fail))
              refine wpQuiet_nil ?_
              rintro _ ⟨nq, rfl⟩
              clear hA hB hcell5
              go_wp2_with fail
              have HFN6 : Hid (Ext Nope w5 (w5.drewN nq)) := Ext.drewN Nope w5 nq
              obtain ⟨w6, hw6⟩ : ∃ w6, w5.drewN nq = w6 := ⟨_, rfl⟩
              rw [hw6] at HFN6 ⊢
              clear hw6
              have HRB6 : Hid (Rowb w6 g q) := HRB5.out.ext HFN6.out (fun h => h)
              go_loopw [105] (fun vi V => ∃ j : Nat, j ≤ q ∧ vi = .int .i64 j ∧ Rowb V g q ∧ Ext (Just g) w6 V) (fun vi _ => q - (intOf vi).toNat)
              case atStart => exact ⟨0, by omega, rfl, HRB6.out, Ext.refl _ _⟩
              case round =>
                obtain ⟨j, hj, rfl, hrb, hx⟩ := hrel
                have HRB := Lib.hid hrb
                have HXL := Lib.hid hx
                have hq15 : q ≤ 1500 := by have := HTK.out; omega
                clear hrb hx
                by_cases hlt3 : j < q
                · have hltI3 : (j : Int) < q := by omega
                  obtain ⟨c, hc⟩ := HRB.out.cell hlt3
                  have hfr := HRB.out.free
                  have hinc := u8_inc
                  have hjc : j < co4 := by omega
                  go_wp2_with fail
                  exact ⟨⟨j + 1, by omega, by congr 1, HRB.out.set j _, HXL.out.setCells _ _⟩, by simp [intOf]; omega⟩
                · obtain rfl : q = j := by omega
                  have hltI3 : ¬ ((q : Int) < q) := by omega
                  obtain ⟨w7, hw7⟩ : ∃ w7, w7 = wr := ⟨_, rfl⟩
                  subst hw7
                  have HX57 : Hid (Ext (Just g) w5 w7) := HFN6.out.trans HXL.out (fun _ _ h => h.elim) (fun _ _ h => h)
                  have HF7 : Hid (Fed w7 bs long (Y ++ li)) := HFN5.out.fed HX57.out HGB.out HG4.out.2
                  have HX7 : Hid (Ext (Just bs) w3 w7) := (HX5.out.trans HX57.out (E := fun c => c = bs ∨ c = g) (fun _ _ h => .inl h) (fun _ _ h => .inr h)).mono (fun c hc h => h.resolve_right (by have := HG4.out; have := HX3.out.size; omega))
                  have HXW7 : Hid (Ext Nope W w7) := HE3.out.trans HX7.out (fun _ _ h => h) (fun c hc h => by have := HBS.out; simp only [Just] at h; omega)
                  have HC7 : Hid (Cubes w7) := hcu.out.ext HXW7.out (fun h => h)
                  obtain ⟨kq, hkq⟩ : ∃ kq, k + q = kq := ⟨_, rfl⟩
                  have hkqI : (k : Int) + (q : Int) = (kq : Int) := by omega
                  have HKQ := Lib.hid hkq
                  have hkqm : kq ≤ m := by have := HTK.out; omega
                  clear hkq HRB HXL HFN5 HFN6 HX57
                  go_wp2_with fail
                  refine (fed_sum_row bs long _ w7 HF7 HC7).mono ?_
                  rintro e w8 ⟨g8, rfl, hg8, hg8b, hrb8, hh8, hx8⟩
                  have HG8 : Hid (w7.heap.size ≤ g8 ∧ g8 < w8.heap.size) := ⟨hg8, hg8b⟩
                  have HX78 := Lib.hid hx8
                  have HRB8 := Lib.hid hrb8
                  have HH8 := Lib.hid hh8
                  have HX8 : Hid (Ext (Just bs) w3 w8) := HX7.out.trans hx8 (fun _ _ h => h) (fun _ _ h => h.elim)
                  have HYL : Hid (X.take kq = Y ++ li) := by
                    have h1 := flat_prefix L (i2 + 1)
                    rw [HN.out, ← HY.out, List.length_append, HYK.out, HQL.out, HKQ.out, ← HX.out] at h1
                    exact h1
                  have HA8 : Hid (Holds (fun c => c < bs) w8 ao co (Y ++ li)) := by
                    have h1 := (HA3.out.upto (hi := kq) (by rw [HML.out]; exact hkqm)).ext HX8.out (fun c hc h => by have : c = bs := h; omega)
                    rw [HYL.out] at h1; exact h1
                  have HYN : Hid ((Y ++ li).length = kq) := by unfold Hid; rw [List.length_append, HYK.out, HQL.out, HKQ.out]
                  have HR := Lib.hid (refof_of long ao kq co (Y ++ li) w8 HA8 HYN (by omega))
                  rw [HLG.out] at HR
                  have hkc : kq ≤ co := by have := HAC.out; omega
                  clear hg8 hg8b hrb8 hh8 hx8
                  go_wp2_with fail
                  refine HR.out.mono ?_
                  rintro e w9 ⟨a9, c9, rfl, hh9, hl9, hx9⟩
                  have HX79 : Hid (Ext Nope w7 w9) := HX78.out.trans hx9 (fun _ _ h => h) (fun _ _ h => h)
                  have HF9 : Hid (Fed w9 bs long (Y ++ li)) := HF7.out.grow HX79.out
                  have hcx := holds_string (HH8.out.ext hx9 (fun _ _ h => h)) hl9
                  have hcy := holds_string hh9 hl9
                  have HRB9 : Hid (Rowb w9 g8 (szOf long)) := HRB8.out.ext hx9 (fun h => h)
                  clear hh9 hx9 HR HRB8 HH8
                  go_wp2_with fail
                  refine (fed_len bs long (Y ++ li) _ HF9).mono ?_
                  rintro e w10 ⟨rfl, rfl⟩
                  have hw : wd (BitVec.ofNat 64 (Y ++ li).length) = ((kq : Nat) : Int) := by rw [HYN.out]; exact wd_ofNat (by omega)
                  rw [hw]
                  clear hw
                  go_wp2_with fail
                  clear hcx hcy
                  go_loopw [154] (fun vi V => ∃ j : Nat, j ≤ szOf long ∧ vi = .int .i64 j ∧ Rowb V g8 (szOf long) ∧ Ext (Just g8) w9 V) (fun vi _ => szOf long - (intOf vi).toNat)
                  case atStart => exact ⟨0, by omega, rfl, HRB9.out, Ext.refl _ _⟩
                  case round =>
                    obtain ⟨j, hj, rfl, hrb, hx⟩ := hrel
                    have HRB := Lib.hid hrb
                    have HXL := Lib.hid hx
                    have hsz64 := szOf_hi long
                    clear hrb hx
                    by_cases hlt3 : j < szOf long
                    · have hltI3 : (j : Int) < ((szOf long : Nat) : Int) := by omega
                      rw [HSI.out] at hltI3
                      obtain ⟨c, hc⟩ := HRB.out.cell hlt3
                      have hfr := HRB.out.free
                      have hinc := u8_inc
                      have hszI := HSI.out
                      go_wp2_with fail
                      exact ⟨⟨j + 1, by omega, by congr 1, HRB.out.set j _, HXL.out.setCells _ _⟩, by simp [intOf]; omega⟩
                    · have hjz : ((szOf long : Nat) : Int) = (j : Int) := by omega
                      have hltI3 : ¬ ((j : Int) < ((szOf long : Nat) : Int)) := by omega
                      rw [HSI.out] at hltI3
                      have hszI := HSI.out
                      have HXF : Hid (Ext Nope w7 wr) := HX79.out.trans HXL.out (fun _ _ h => h) (fun c hc h => by have := HG8.out; simp only [Just] at h; omega)
                      have HFF : Hid (Fed wr bs long (Y ++ li)) := HF7.out.grow HXF.out
                      have HX3F : Hid (Ext (Just bs) w3 wr) := HX7.out.trans HXF.out (fun _ _ h => h) (fun _ _ h => h.elim)
                      have HI2 : Hid (i2 + 1 ≤ n) := by unfold Hid; omega
                      clear HXL HRB HXF hjz hj hlt3
                      go_wp2_with fail
                      exact ⟨⟨i2 + 1, kq, Y ++ li, HI2.out, by congr 1, rfl, by rw [HN.out, HY.out], HYN.out, HFF.out, HX3F.out⟩, by have := HI2.out; simp [intOf]; omega⟩
            · obtain rfl : n = i2 := by omega
              have hltI : ¬ ((n : Int) < n) := by omega
              have HYX : Hid (Y = X) := by rw [HY.out, HX.out, List.take_of_length_le (by rw [HL.out.len]; exact Nat.le_refl _)]; exact rfl
              have HCU : Hid (Cubes wr) := hcu.out.ext HXW.out (fun h => h)
              go_wp2_with fail
              refine (fed_sum bs long _ _ HF HCU).mono ?_
              rintro e w5 ⟨v5, rfl, a5, rfl, hh5, hl5, hx5⟩
              have HXW5 : Hid (Ext Nope W w5) := HXW.out.trans hx5 (fun _ _ h => h) (fun _ _ h => h)
              have hc5 := holds_string hh5 hl5
              rw [HYX.out] at hc5
              have hc4 := holds_string ((HH23.out.ext HX3.out (fun c hc h => by have : c = bs := h; omega)).ext hx5 (fun _ _ h => h)) HL1.out
              clear hh5 hl5 hx5
              go_wp2_with fail
              go_ret
              exact ⟨rfl, HXW5.out⟩
        · have hbigI : (1500 : Int) < m := by omega
          go_wp2_with fail
          go_ret
          exact ⟨rfl, HE.out⟩
  · have h20I : (20 : Int) < n := by omega
    go_enter Tryd.func3, Tryd.ntmps3
    go_wp2_with fail
    go_ret
    exact ⟨rfl, Ext.refl _ _⟩
end Go.Proofs.YtcjcnpjedmpghaaDoor
