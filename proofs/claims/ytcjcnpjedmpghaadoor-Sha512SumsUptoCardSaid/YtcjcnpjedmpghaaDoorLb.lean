/- Sha512Pieces. -/
import Derived.Test.YtcjcnpjedmpghaaDoorLa
namespace Go.Proofs.YtcjcnpjedmpghaaDoor
open Go.RowKit Go.Shelf

theorem of_of {p : Nat → Prop} (long : Bool) (bits : Int) (hb : bitsOf long = bits) (a : Option Addr) (n cap : Nat) (l : List (BitVec 8)) (W : World)
    (hh : Hid (Holds p W a cap l)) (hn : Hid (l.length = n)) (hb2 : n ≤ 1000000000) (hq : Hid (Squares W)) (hcu : Hid (Cubes W)) :
    Calls Tryd.prog 8 #[.int .i64 bits, .slice a n cap] W (OfPost W (szOf long) (hash5 (szOf long) (iniOf long) l)) := by
  subst hb
  exact of_new _ _ _ a n cap l W (new_of long W hq) (szOf_lo long) (szOf_hi long) hh hn hb2 hcu

set_option maxRecDepth 100000 in
set_option maxHeartbeats 4000000 in
theorem pieces_law {p : Nat → Prop} (long : Bool) (a : Option Addr) (n cap : Nat) (l : List (BitVec 8)) (a1 : Option Addr) (n1 cap1 : Nat) (l1 : List (BitVec 8)) (a2 : Option Addr) (n2 cap2 : Nat) (l2 : List (BitVec 8)) (W : World)
    (hq : Hid (Squares W)) (hcu : Hid (Cubes W)) (hh : Hid (Holds p W a cap l)) (hn : Hid (l.length = n)) (hh1 : Hid (Holds p W a1 cap1 l1)) (hn1 : Hid (l1.length = n1)) (hh2 : Hid (Holds p W a2 cap2 l2)) (hn2 : Hid (l2.length = n2)) :
    Calls Tryd.prog 5 #[.bool long, .slice a n cap, .slice a1 n1 cap1, .slice a2 n2 cap2] W (TrueOf W) := by
  go_enter Tryd.func5, Tryd.ntmps5
  go_wp2_with fail
  refine (alive_any W hq hcu).mono ?_
  rintro e w1 ⟨rfl, hx1⟩
  have HX1 := Lib.hid hx1
  have HQ1 : Hid (Squares w1) := hq.out.ext hx1 (fun h => h)
  have HC1 : Hid (Cubes w1) := hcu.out.ext hx1 (fun h => h)
  have HH1 : Hid (Holds p w1 a cap l) := hh.out.ext hx1 (fun _ _ h => h)
  have HA1 : Hid (Holds p w1 a1 cap1 l1) := hh1.out.ext hx1 (fun _ _ h => h)
  clear hx1
  by_cases hbig : n ≤ 3000 ∧ n1 ≤ 100 ∧ n2 ≤ 100
  · obtain ⟨hb0, hb1, hb2⟩ := hbig
    have hbI : ¬ ((3000 : Int) < n) := by omega
    have hbI1 : ¬ ((100 : Int) < n1) := by omega
    have hbI2 : ¬ ((100 : Int) < n2) := by omega
    go_wp2_with fail
    refine (state_any long true a n cap l a1 n1 cap1 l1 w1 HQ1 HC1 HH1 hn (by omega) HA1 hn1).mono ?_
    rintro e w2 ⟨bs, rfl, hbs, hf1, hx2⟩
    have HX2 : Hid (Ext Nope W w2) := HX1.out.trans hx2 (fun _ _ h => h) (fun _ _ h => h)
    have HQ2 : Hid (Squares w2) := hq.out.ext HX2.out (fun h => h)
    have HC2 : Hid (Cubes w2) := hcu.out.ext HX2.out (fun h => h)
    have HF1 := Lib.hid hf1
    have HH2 : Hid (Holds p w2 a cap l) := hh.out.ext HX2.out (fun _ _ h => h)
    have HA2 : Hid (Holds p w2 a2 cap2 l2) := hh2.out.ext HX2.out (fun _ _ h => h)
    clear hx2 hf1 hbs
    go_wp2_with fail
    refine (state_any long false a n cap l a2 n2 cap2 l2 w2 HQ2 HC2 HH2 hn (by omega) HA2 hn2).mono ?_
    rintro e w3 ⟨bt, rfl, hbt, hf2, hx3⟩
    have HX3 : Hid (Ext Nope W w3) := HX2.out.trans hx3 (fun _ _ h => h) (fun _ _ h => h)
    have HQ3 : Hid (Squares w3) := hq.out.ext HX3.out (fun h => h)
    have HC3 : Hid (Cubes w3) := hcu.out.ext HX3.out (fun h => h)
    have HF2 := Lib.hid hf2
    have HF1b : Hid (Fed w3 bs long l) := HF1.out.grow hx3
    have HH3 : Hid (Holds p w3 a cap l) := hh.out.ext HX3.out (fun _ _ h => h)
    clear hx3 hf2 hbt
    rcases Bool.eq_false_or_eq_true long with hl | hl
    all_goals
      go_wp2_with fail
      refine (of_of long _ (by rw [hl]; rfl) a n cap l w3 HH3 hn (by omega) HQ3 HC3).mono ?_
      rintro e w4 ⟨v4, rfl, a4, rfl, hh4, hl4, hx4⟩
      have HX4 : Hid (Ext Nope W w4) := HX3.out.trans hx4 (fun _ _ h => h) (fun _ _ h => h)
      have HC4 : Hid (Cubes w4) := hcu.out.ext HX4.out (fun h => h)
      have HF14 : Hid (Fed w4 bs long l) := HF1b.out.grow hx4
      have HF24 : Hid (Fed w4 bt long l) := HF2.out.grow hx4
      have HH4 := Lib.hid hh4
      have HL4 := Lib.hid hl4
      first
        | have hszI : ((szOf long : Nat) : Int) = 64 := by rw [hl]; rfl
        | have hszI : ((szOf long : Nat) : Int) = 48 := by rw [hl]; rfl
      have HSI := Lib.hid hszI
      clear hx4 hh4 hl4 hl hszI
      go_wp2_with fail
      refine (fed_sum bs long _ _ HF14 HC4).mono ?_
      rintro e w5 ⟨v5, rfl, a5, rfl, hh5, hl5, hx5⟩
      have HX5 : Hid (Ext Nope W w5) := HX4.out.trans hx5 (fun _ _ h => h) (fun _ _ h => h)
      have HC5 : Hid (Cubes w5) := hcu.out.ext HX5.out (fun h => h)
      have HF15 : Hid (Fed w5 bs long l) := HF14.out.grow hx5
      have HF25 : Hid (Fed w5 bt long l) := HF24.out.grow hx5
      have HH45 : Hid (Holds (fun c => w3.heap.size ≤ c) w5 a4 (szOf long) (hash5 (szOf long) (iniOf long) l)) := HH4.out.ext hx5 (fun _ _ h => h)
      have HH5 := Lib.hid hh5
      have HL5 := Lib.hid hl5
      clear hx5 hh5 hl5
      go_wp2_with fail
      refine (fed_sum bt long _ _ HF25 HC5).mono ?_
      rintro e w6 ⟨v6, rfl, a6, rfl, hh6, hl6, hx6⟩
      have HX6 : Hid (Ext Nope W w6) := HX5.out.trans hx6 (fun _ _ h => h) (fun _ _ h => h)
      have HF16 : Hid (Fed w6 bs long l) := HF15.out.grow hx6
      have HF26 : Hid (Fed w6 bt long l) := HF25.out.grow hx6
      have HH46 : Hid (Holds (fun c => w3.heap.size ≤ c) w6 a4 (szOf long) (hash5 (szOf long) (iniOf long) l)) := HH45.out.ext hx6 (fun _ _ h => h)
      have HH56 : Hid (Holds (fun c => w4.heap.size ≤ c) w6 a5 (szOf long) (hash5 (szOf long) (iniOf long) l)) := HH5.out.ext hx6 (fun _ _ h => h)
      have HH6 := Lib.hid hh6
      have HL6 := Lib.hid hl6
      clear hx6 hh6 hl6
      have hc4 := holds_string HH46.out HL6.out
      have hc5 := holds_string HH56.out HL6.out
      have hc6 := holds_string HH6.out HL6.out
      have hszI := HSI.out
      go_wp2_with fail
      refine (fed_len bs long l _ HF16).mono ?_
      rintro e w7 ⟨rfl, rfl⟩
      have hw : wd (BitVec.ofNat 64 l.length) = ((n : Nat) : Int) := by rw [hn.out]; exact wd_ofNat (by omega)
      rw [hw]
      go_wp2_with fail
      refine (fed_len bt long l _ HF26).mono ?_
      rintro e w7 ⟨rfl, rfl⟩
      rw [hw]
      go_wp2_with fail
      refine (fed_len bs long l _ HF16).mono ?_
      rintro e w7 ⟨rfl, rfl⟩
      rw [hw]
      go_wp2_with fail
      go_ret
      exact ⟨rfl, HX6.out⟩
  · have hbig2 : 3000 < n ∨ 100 < n1 ∨ 100 < n2 := by omega
    by_cases h0 : (3000 : Int) < n
    · go_wp2_with fail
      go_ret
      exact ⟨rfl, HX1.out⟩
    · by_cases h1 : (100 : Int) < n1
      · go_wp2_with fail
        go_ret
        exact ⟨rfl, HX1.out⟩
      · have h2 : (100 : Int) < n2 := by omega
        go_wp2_with fail
        go_ret
        exact ⟨rfl, HX1.out⟩
end Go.Proofs.YtcjcnpjedmpghaaDoor
