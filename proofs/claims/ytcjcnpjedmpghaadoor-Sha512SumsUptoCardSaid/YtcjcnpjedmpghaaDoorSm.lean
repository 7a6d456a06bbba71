/- The law's helper: state. -/
import Derived.Test.YtcjcnpjedmpghaaDoorSl
import Derived.Handy
namespace Go.Proofs.YtcjcnpjedmpghaaDoor
open Go.RowKit Go.Shelf

def bitsOf (long : Bool) : Int := if long then 512 else 384
def szOf (long : Bool) : Nat := if long then 64 else 48
def iniOf (long : Bool) : H8 := if long then init512 else init384
theorem szOf_lo (long : Bool) : 0 < szOf long := by cases long <;> decide
theorem szOf_hi (long : Bool) : szOf long ≤ 64 := by cases long <;> decide
theorem szOf_ne (long : Bool) : (((szOf long : Nat) : Int) == 0) = false := by cases long <;> decide
theorem new_of (long : Bool) (W : World) (hq : Hid (Squares W)) : Calls Tryd.prog 10 #[.int .i64 (bitsOf long)] W (NewPost W (szOf long) (iniOf long)) := by
  cases long
  · exact new_384 W hq
  · exact new_512 W hq

/-- a state that took x -/
def Fed (W : World) (b : Nat) (long : Bool) (x : List (BitVec 8)) : Prop := IsSt W b (szOf long) (turns (iniOf long) x) (left5 x) (BitVec.ofNat 64 x.length)
theorem fed_new {W : World} {long : Bool} {b : Nat} (h : IsSt W b (szOf long) (iniOf long) [] 0) : Fed W b long [] := h
theorem fed_write {p : Nat → Prop} (b : Nat) (long : Bool) (x l : List (BitVec 8)) (a : Option Addr) (n cap : Nat) (W : World) (hs : Hid (Fed W b long x))
    (hh : Hid (Holds p W a cap l)) (hn : Hid (l.length = n)) (hb : n ≤ 1000000000) (hcu : Hid (Cubes W)) :
    Calls Tryd.prog 11 #[.pointer (some ⟨b, 0, none⟩), .slice a n cap] W fun e W' => e = .returned (.tuple #[]) ∧ Fed W' b long (x ++ l) ∧ Ext (Just b) W W' := by
  have h0 : Hid (Took W b (szOf long) (iniOf long) [] x 0) := by have := hs.out; unfold Fed at this; unfold Hid Took; simpa using this
  refine (took_write b _ _ [] x l 0 a n cap W h0 (szOf_ne long) hh hn (by omega) hcu).mono ?_
  rintro e W' ⟨rfl, ht, hx⟩
  refine ⟨rfl, ?_, hx⟩
  unfold Took at ht
  unfold Fed
  simpa using ht
theorem fed_sum (b : Nat) (long : Bool) (x : List (BitVec 8)) (W : World) (hs : Hid (Fed W b long x)) (hcu : Hid (Cubes W)) :
    Calls Tryd.prog 12 #[.pointer (some ⟨b, 0, none⟩)] W fun e W' => ∃ v, e = .returned v ∧ RowPost W (szOf long) (hash5 (szOf long) (iniOf long) x) v W' := by
  refine (sum_any b (szOf long) _ _ _ W hs (szOf_lo long) (szOf_hi long) (by show (left5 x).length < 128; rw [left5_length]; omega) hcu).mono ?_
  intro e W' hp
  obtain ⟨v, rfl, hr⟩ := hp.row (szOf_hi long)
  rw [sum5_left] at hr
  exact ⟨v, rfl, hr⟩
theorem Fed.grow {W W' : World} {b : Nat} {long : Bool} {x : List (BitVec 8)} (hs : Fed W b long x) (he : Ext Nope W W') : Fed W' b long x := IsSt.grow hs he

/-- a slice from k on -/
theorem Holds.rest {p : Nat → Prop} {W : World} {a : Option Addr} {cap : Nat} {l : List (BitVec 8)} (h : Holds p W a cap l) {lo : Nat} (h1 : lo ≤ l.length) :
    Holds p W (if cap = lo then a else Option.map (fun x => x.add lo) a) (cap - lo) (l.drop lo) := by
  have hc := h.len
  split
  · rw [show cap - lo = 0 by omega]
    exact h.none_left (by omega)
  · exact h.from h1 (by omega)
theorem min_wd (c : BitVec 8) (r : Nat) : ∃ t : Nat, min (wrap64 (wd c)) (r : Int) = (t : Int) ∧ t ≤ r := by
  have h : wrap64 (wd c) = wd c := by have := wd_hi8 c; have := wd_lo c; unfold wrap64; omega
  rw [h]
  have := wd_lo c
  rcases Int.le_total (wd c) r with h1 | h1
  · exact ⟨(wd c).toNat, by rw [Int.min_eq_left h1]; omega, by omega⟩
  · exact ⟨r, by rw [Int.min_eq_right h1], Nat.le_refl _⟩

def StatePost (W : World) (long : Bool) (l : List (BitVec 8)) (e : Ending) (W' : World) : Prop :=
  ∃ b, e = .returned (.pointer (some ⟨b, 0, none⟩)) ∧ W.heap.size ≤ b ∧ Fed W' b long l ∧ Ext Nope W W'

set_option maxRecDepth 100000 in
set_option maxHeartbeats 2000000 in
theorem state_any {p q : Nat → Prop} (long ask : Bool) (a : Option Addr) (n cap : Nat) (l : List (BitVec 8)) (a2 : Option Addr) (n2 cap2 : Nat) (m : List (BitVec 8)) (W : World)
    (hq : Hid (Squares W)) (hcu : Hid (Cubes W)) (hh : Hid (Holds p W a cap l)) (hn : Hid (l.length = n)) (hb : n ≤ 1000000) (hh2 : Hid (Holds q W a2 cap2 m)) (hn2 : Hid (m.length = n2)) :
    Calls Tryd.prog 17 #[.bool long, .slice a n cap, .slice a2 n2 cap2, .bool ask] W (StatePost W long l) := by
  have hN := Lib.hid (new_of long W hq)
  have HB : Hid (bitsOf long = if long then 512 else 384) := rfl
  obtain ⟨bits, hbits⟩ : ∃ bits, bitsOf long = bits := ⟨_, rfl⟩
  rw [hbits] at hN HB
  clear hbits
  obtain ⟨lg, hlg⟩ : ∃ lg, lg = long := ⟨_, rfl⟩
  rw [← hlg] at HB ⊢
  cases lg
  all_goals
    have hB := HB.out
    simp at hB
    subst hB
    go_enter Tryd.func17, Tryd.ntmps17
    go_wp2_with fail
    refine hN.out.mono ?_
    rintro e w1 ⟨rfl, hs1, hE1⟩
    have HF1 := Lib.hid (fed_new (long := long) hs1)
    have HE1 := Lib.hid hE1
    have HLG := Lib.hid hlg
    clear hs1 hE1 hN hlg HB
    go_wp2_with fail
    go_loopw [1, 24] (fun vb vi V => ∃ (j k rest : Nat) (a' : Option Addr) (cap' : Nat), vi = .int .i64 j ∧ j ≤ n2 ∧ vb = .slice a' rest cap' ∧ k + rest = n ∧ Holds p W a' cap' (l.drop k) ∧ Fed V W.heap.size long (l.take k) ∧ Ext Nope W V) (fun _ i _ => n2 - (intOf i).toNat)
    case atStart => exact ⟨0, 0, n, a, cap, rfl, by omega, rfl, by omega, by simpa using hh.out, by simpa using HF1.out, HE1.out⟩
    case round =>
      obtain ⟨j, k, rest, a', cap', rfl, hj, rfl, hk, hhk, hfk, hEk⟩ := hrel
      have HHK := Lib.hid hhk
      have HFK := Lib.hid hfk
      have HEK := Lib.hid hEk
      have HK := Lib.hid hk
      have hlr : Hid ((l.drop k).length = rest) := by have := hn.out; unfold Hid; rw [List.length_drop]; omega
      clear hhk hfk hEk hk
      by_cases hjn : j < n2
      · obtain ⟨b2, off2, rfl, _, hb2, hc2⟩ := hh2.out.cells (by intro e; have := hn2.out; subst e; simp at this; omega)
        obtain ⟨c, hcl⟩ : ∃ c, m[j]? = some c := by have := hn2.out; exact ⟨_, List.getElem?_eq_getElem (by omega)⟩
        have hcell := HEK.out.cell (hc2 j c hcl) (fun h => h)
        have hmx : n2 ≤ 9223372036854775807 := by have := hh2.out.max; have := hh2.out.len; have := hn2.out; unfold maxLen at *; omega
        have hcap2 : n2 ≤ cap2 := by have := hh2.out.len; have := hn2.out; omega
        have hjI : (j : Int) < n2 := by omega
        have hcapr : rest ≤ cap' := by have := HHK.out.len; have := hlr.out; omega
        obtain ⟨t, hmin, htr⟩ := min_wd c rest
        have htc : t ≤ cap' := by omega
        have HK1 : Hid (Holds p wr a' cap' ((l.drop k).take t)) := (HHK.out.upto (by rw [hlr.out]; exact htr)).ext HEK.out (fun _ _ h => h)
        have HL1 : Hid (((l.drop k).take t).length = t) := by unfold Hid; rw [List.length_take, hlr.out]; omega
        have HCU : Hid (Cubes wr) := hcu.out.ext HEK.out (fun h => h)
        have HK3 := Lib.hid (HHK.out.rest (lo := t) (by rw [hlr.out]; exact htr))
        rw [List.drop_drop] at HK3
        obtain ⟨a3, ha3⟩ : ∃ a3, (if cap' = t then a' else Option.map (fun x => x.add t) a') = a3 := ⟨_, rfl⟩
        rw [ha3] at HK3
        clear hc2 hcl
        go_wp2_with fail
        refine (fed_write W.heap.size long (l.take k) ((l.drop k).take t) a' t cap' wr HFK HK1 HL1 (by have := HK.out; omega) HCU).mono ?_
        rintro e w2 ⟨rfl, hf2, hx2⟩
        rw [← List.take_add] at hf2
        have HF2 := Lib.hid hf2
        have HE2 : Hid (Ext Nope W w2) := HEK.out.trans hx2 (fun _ _ h => h) (fun i hi h => by have : i = W.heap.size := h; omega)
        clear hf2 hx2
        cases ask
        · go_wp2_with fail
          exact ⟨⟨j + 1, k + t, rest - t, a3, cap' - t, by go_num, by omega, rfl, by have := HK.out; omega, HK3.out, HF2.out, HE2.out⟩, by simp [intOf]; omega⟩
        · have HCU2 : Hid (Cubes w2) := hcu.out.ext HE2.out (fun h => h)
          go_wp2_with fail
          refine (fed_sum W.heap.size long _ _ HF2 HCU2).mono ?_
          rintro e w3 ⟨v, rfl, a4, rfl, _, _, hx3⟩
          have HE3 : Hid (Ext Nope W w3) := HE2.out.trans hx3 (fun _ _ h => h) (fun _ _ h => h)
          have HF3 : Hid (Fed w3 W.heap.size long (l.take (k + t))) := HF2.out.grow hx3
          clear hx3
          go_wp2_with fail
          exact ⟨⟨j + 1, k + t, rest - t, a3, cap' - t, by go_num, by omega, rfl, by have := HK.out; omega, HK3.out, HF3.out, HE3.out⟩, by simp [intOf]; omega⟩
      · obtain rfl : j = n2 := by omega
        have HCU : Hid (Cubes wr) := hcu.out.ext HEK.out (fun h => h)
        have HK1 : Hid (Holds p wr a' cap' (l.drop k)) := HHK.out.ext HEK.out (fun _ _ h => h)
        go_wp2_with fail
        refine (fed_write W.heap.size long (l.take k) (l.drop k) a' rest cap' wr HFK HK1 hlr (by have := HK.out; omega) HCU).mono ?_
        rintro e w2 ⟨rfl, hf2, hx2⟩
        rw [List.take_append_drop] at hf2
        have HF2 := Lib.hid hf2
        have HE2 : Hid (Ext Nope W w2) := HEK.out.trans hx2 (fun _ _ h => h) (fun i hi h => by have : i = W.heap.size := h; omega)
        clear hf2 hx2
        go_wp2_with fail
        go_ret
        rw [HLG.out]
        exact ⟨_, rfl, Nat.le_refl _, HF2.out, HE2.out⟩
end Go.Proofs.YtcjcnpjedmpghaaDoor
