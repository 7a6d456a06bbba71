/- The states of the four hashes. -/
import Derived.Test.YtjfcldjepgijeaaDoorGh
import Derived.Test.YtjfcldjepgijeaaDoorSj
import Derived.Handy
namespace Go.Proofs.YtjfcldjepgijeaaDoor
open Go.RowKit Go.Shelf

/-- the four hashes: sha256's two (wide: false), and sha512's two -/
def szW (wide long : Bool) : Nat := match wide, long with | false, false => 28 | false, true => 32 | true, false => 48 | true, true => 64
def bitsW (wide long : Bool) : Int := match wide, long with | false, false => 224 | false, true => 256 | true, false => 384 | true, true => 512
def ini6 (long : Bool) : G8 := if long then init256 else init224
def ini5 (long : Bool) : H8 := if long then init512 else init384
def hashW (wide long : Bool) (x : List (BitVec 8)) : List (BitVec 8) := match wide with | false => hash6 (szW false long) (ini6 long) x | true => hash5 (szW true long) (ini5 long) x
/-- a state that took x -/
def FedW (W : World) (b : Nat) (wide long : Bool) (x : List (BitVec 8)) : Prop :=
  match wide with
  | false => IsG W b (szW false long) (turnsG (ini6 long) x) (left6 x) (BitVec.ofNat 64 x.length)
  | true => IsSt W b (szW true long) (turns (ini5 long) x) (left5 x) (BitVec.ofNat 64 x.length)
/-- the tables -/
def Tabs (W : World) : Prop := Kubes W ∧ Firsts W ∧ Cubes W ∧ Squares W
theorem szW_lo (wide long : Bool) : 0 < szW wide long := by cases wide <;> cases long <;> decide
theorem szW_hi (wide long : Bool) : szW wide long ≤ 64 := by cases wide <;> cases long <;> decide
theorem szW_ne (wide long : Bool) : (((szW wide long : Nat) : Int) == 0) = false := by cases wide <;> cases long <;> decide
theorem hashW_length (wide long : Bool) (x : List (BitVec 8)) : (hashW wide long x).length = szW wide long := by
  cases wide
  · exact hash6_length _ _ _ (by cases long <;> decide)
  · have h := szW_hi true long
    show (hash5 _ _ _).length = szW true long
    unfold hash5 sum5; rw [List.length_take, hbytes_length]; omega
theorem FedW.grow {W W' : World} {b : Nat} {wide long : Bool} {x : List (BitVec 8)} (hs : FedW W b wide long x) (he : Ext Nope W W') : FedW W' b wide long x := by
  cases wide
  · exact IsG.grow hs he
  · exact IsSt.grow hs he
def fNewW (wide : Bool) : FuncId := match wide with | false => 33 | true => 36
def fWriteW (wide : Bool) : FuncId := match wide with | false => 34 | true => 37
def fSumW (wide : Bool) : FuncId := match wide with | false => 35 | true => 38
theorem fedW_new (wide long : Bool) (W : World) (ht : Hid (Tabs W)) : Calls Tryd.prog (fNewW wide) #[.int .i64 (bitsW wide long)] W fun e W' =>
    e = .returned (.tuple #[.pointer (some ⟨W.heap.size, 0, none⟩), .int .i64 0]) ∧ FedW W' W.heap.size wide long [] ∧ Ext Nope W W' := by
  cases wide <;> cases long
  · exact new_224 W ht.out.2.1
  · exact new_256 W ht.out.2.1
  · exact new_384 W ht.out.2.2.2
  · exact new_512 W ht.out.2.2.2
theorem fedW_write {p : Nat → Prop} (b : Nat) (wide long : Bool) (x l : List (BitVec 8)) (a : Option Addr) (n cap : Nat) (W : World) (hs : Hid (FedW W b wide long x))
    (hh : Hid (Holds p W a cap l)) (hn : Hid (l.length = n)) (hb : n ≤ 900000000) (ht : Hid (Tabs W)) :
    Calls Tryd.prog (fWriteW wide) #[.pointer (some ⟨b, 0, none⟩), .slice a n cap] W fun e W' => e = .returned (.tuple #[]) ∧ FedW W' b wide long (x ++ l) ∧ Ext (Just b) W W' := by
  cases wide
  · refine (writeg_new b (szW false long) _ (left6 x) l _ a n cap W hs (szW_ne false long) hh hn (by rw [left6_length]; omega) ht.out.1).mono ?_
    rintro e W' ⟨rfl, h, hx⟩
    refine ⟨rfl, ?_, hx⟩
    have h1 := h.st
    rw [turnsG_append, left6_append] at h1
    show IsG _ _ _ _ _ _
    have e1 : BitVec.ofNat 64 x.length + BitVec.ofNat 64 n = BitVec.ofNat 64 (x ++ l).length := by
      rw [← hn.out, List.length_append]
      apply BitVec.eq_of_toNat_eq; simp [BitVec.toNat_add, BitVec.toNat_ofNat]
    rw [e1] at h1
    exact h1
  · have h0 : Hid (Took W b (szW true long) (ini5 long) [] x 0) := by have := hs.out; unfold FedW at this; unfold Hid Took; simpa using this
    refine (took_write b _ _ [] x l 0 a n cap W h0 (szW_ne true long) hh hn (by omega) ht.out.2.2.1).mono ?_
    rintro e W' ⟨rfl, ht, hx⟩
    refine ⟨rfl, ?_, hx⟩
    unfold Took at ht
    unfold FedW
    simpa using ht
theorem SumGPost.row {W W' : World} {n : Nat} {l : List (BitVec 8)} {e : Ending} (h : SumGPost W n l e W') (hn : n ≤ 64) : ∃ v, e = .returned v ∧ RowPost W n l v W' := by
  obtain ⟨g, cur, rfl, hg, hh, hc, ht, hl, hx⟩ := h
  exact SumPost.row ⟨g, cur, rfl, hg, hh, ht, hl, hx⟩ hn
theorem fedW_sum (b : Nat) (wide long : Bool) (x : List (BitVec 8)) (W : World) (hs : Hid (FedW W b wide long x)) (ht : Hid (Tabs W)) :
    Calls Tryd.prog (fSumW wide) #[.pointer (some ⟨b, 0, none⟩)] W fun e W' => ∃ v, e = .returned v ∧ RowPost W (szW wide long) (hashW wide long x) v W' := by
  cases wide
  · refine (sumg_any b (szW false long) _ _ _ W hs (szW_lo false long) (by cases long <;> decide) (by show (left6 x).length < 64; rw [left6_length]; omega) ht.out.1).mono ?_
    intro e W' hp
    obtain ⟨v, rfl, hr⟩ := hp.row (szW_hi false long)
    rw [sum6_left] at hr
    exact ⟨v, rfl, hr⟩
  · refine (sum_any b (szW true long) _ _ _ W hs (szW_lo true long) (szW_hi true long) (by show (left5 x).length < 128; rw [left5_length]; omega) ht.out.2.2.1).mono ?_
    intro e W' hp
    obtain ⟨v, rfl, hr⟩ := hp.row (szW_hi true long)
    rw [sum5_left] at hr
    exact ⟨v, rfl, hr⟩
theorem Tabs.ext {D : Nat → Prop} {W W' : World} (h : Tabs W) (he : Ext D W W') (h1 : ¬ D 4) (h2 : ¬ D 1) (h3 : ¬ D 5) (h4 : ¬ D 2) : Tabs W' :=
  ⟨h.1.ext he h1, h.2.1.ext he h2, h.2.2.1.ext he h3, fun t ht => he.cell (h.2.2.2 t ht) h4⟩
end Go.Proofs.YtjfcldjepgijeaaDoor
