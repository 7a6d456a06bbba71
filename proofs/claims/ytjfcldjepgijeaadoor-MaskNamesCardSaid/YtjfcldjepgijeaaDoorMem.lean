/- Memory: what a slice of bytes holds; how a world grows. No program stands here. -/
import Derived.Test.YtjfcldjepgijeaaDoorWd
import Derived.Below
import Derived.Laws.AppendOwn
import Derived.Laws.AppendOwnNone
import Derived.Laws.BytesArg
import Derived.Deep.Draws
namespace Go.Proofs.YtjfcldjepgijeaaDoor
open Go.RowKit

/-- bytes as cells -/
def bv (l : List (BitVec 8)) : List Value := l.map fun c => .int .u8 (wd c)
theorem bv_length (l : List (BitVec 8)) : (bv l).length = l.length := by simp [bv]
theorem bv_append (l m : List (BitVec 8)) : bv (l ++ m) = bv l ++ bv m := by simp [bv]
theorem bv_one (l : List (BitVec 8)) : ∀ u ∈ bv l, u.oneCell' = true := by
  intro u hu; obtain ⟨c, _, rfl⟩ := List.mem_map.1 hu; rfl
theorem bv_get (l : List (BitVec 8)) (j : Nat) : (bv l)[j]? = (l[j]?).map fun c => Value.int .u8 (wd c) := by simp [bv]

/-- The world has grown: what lay stands but for the blocks of D. -/
structure Ext (D : Nat → Prop) (w w' : World) : Prop where
  os : w'.os = w.os
  tape : w'.tape = w.tape
  output : w'.output = w.output
  size : w.heap.size ≤ w'.heap.size
  block : ∀ k, k < w.heap.size → ¬ D k → w'.heap[k]? = w.heap[k]?

def Nope : Nat → Prop := fun _ => False
def Just (b : Nat) : Nat → Prop := fun k => k = b

theorem Ext.refl (D : Nat → Prop) (w : World) : Ext D w w := ⟨rfl, rfl, rfl, Nat.le_refl _, fun _ _ _ => rfl⟩
theorem Ext.trans {D D' E : Nat → Prop} {a b c : World} (h : Ext D a b) (k : Ext D' b c) (h1 : ∀ i, i < a.heap.size → D i → E i) (h2 : ∀ i, i < a.heap.size → D' i → E i) : Ext E a c :=
  ⟨k.os.trans h.os, k.tape.trans h.tape, k.output.trans h.output, Nat.le_trans h.size k.size,
    fun i hi hn => (k.block i (Nat.lt_of_lt_of_le hi h.size) (fun hd => hn (h2 i hi hd))).trans (h.block i hi (fun hd => hn (h1 i hi hd)))⟩
theorem Ext.mono {D E : Nat → Prop} {a b : World} (h : Ext D a b) (hd : ∀ i, i < a.heap.size → D i → E i) : Ext E a b :=
  ⟨h.os, h.tape, h.output, h.size, fun i hi hn => h.block i hi (fun hx => hn (hd i hi hx))⟩
theorem Ext.drew (D : Nat → Prop) (w : World) : Ext D w w.drew := ⟨rfl, rfl, rfl, Nat.le_refl _, fun _ _ _ => rfl⟩
theorem Ext.drewN (D : Nat → Prop) (w : World) (n : Nat) : Ext D w (w.drewN n) := ⟨rfl, rfl, rfl, Nat.le_refl _, fun _ _ _ => rfl⟩
theorem Ext.alloc (D : Nat → Prop) (w : World) (o : Obj) : Ext D w (w.alloc o) :=
  ⟨rfl, rfl, rfl, by simp, fun k hk _ => Below.heap_alloc _ _ _ hk⟩
theorem Ext.setCell {D : Nat → Prop} (w : World) (p : Addr) (u : Value) (hp : D p.block) : Ext D w (w.setCell p u) :=
  ⟨rfl, rfl, rfl, by simp [World.setCell], fun k _ hn => Below.heap_setCell _ _ _ _ (fun e => hn (e ▸ hp))⟩
theorem Ext.grownBy {D : Nat → Prop} {w w' : World} {row : Option Nat} (h : w.grownBy w' row) (hr : ∀ k, row = some k → D k) : Ext D w w' :=
  ⟨h.os, h.tape, h.output, h.size, fun k hk hn => h.block k hk (fun e => hn (hr k e.symm))⟩
theorem Ext.ofBelow {B : Nat} {w w' : World} (h : Below B w w') : Ext (fun k => B ≤ k) w w' :=
  ⟨h.os, h.tape, h.output, h.size, fun k _ hn => h.block k (by omega)⟩
theorem Ext.below {B : Nat} {w w' : World} (h : Ext (fun k => B ≤ k) w w') (hB : B ≤ w.heap.size) : Below B w w' :=
  ⟨h.os, h.tape, h.output, h.size, fun k hk => h.block k (by omega) (by omega)⟩
theorem Ext.cell {D : Nat → Prop} {w w' : World} (h : Ext D w w') {p : Addr} {v : Value} (hc : w.cell? p = some v) (hn : ¬ D p.block) : w'.cell? p = some v :=
  (World.cell?_of_block (h.block p.block (World.block_lt_of_cell? w p hc) hn)).trans hc
theorem Ext.frozen {D : Nat → Prop} {w w' : World} (h : Ext D w w') {p : Addr} {v : Value} (hc : w.cell? p = some v) (hn : ¬ D p.block) : w'.frozen? p = w.frozen? p :=
  World.frozen?_of_block (h.block p.block (World.block_lt_of_cell? w p hc) hn)
theorem block_cell {w : World} {b : Nat} {cs : Array Value} {e : TypeId} {fz : Nat × Nat} (h : w.heap[b]? = some (.cells cs e fz)) (j : Nat) {v : Value} (hv : cs[j]? = some v) : w.cell? ⟨b, j, none⟩ = some v := by
  simp [World.cell?, h, hv]
theorem block_free {w : World} {b : Nat} {cs : Array Value} {e : TypeId} (h : w.heap[b]? = some (.cells cs e (0, 0))) (j : Nat) : w.frozen? ⟨b, j, none⟩ = false := by
  simp [World.frozen?, h]
theorem block_set {w : World} {b : Nat} {cs : Array Value} {e : TypeId} {fz : Nat × Nat} (h : w.heap[b]? = some (.cells cs e fz)) (j : Nat) (v : Value) : (w.setCell ⟨b, j, none⟩ v).heap[b]? = some (.cells (cs.setIfInBounds j v) e fz) := by
  simp [World.setCell, Array.getElem?_modify, h]
theorem Ext.heap {D : Nat → Prop} {w w' : World} (h : Ext D w w') {k : Nat} {o : Obj} (hc : w.heap[k]? = some o) (hn : ¬ D k) : w'.heap[k]? = some o :=
  (h.block k (Array.getElem?_eq_some_iff.1 hc).1 hn).trans hc
theorem Ext.owns {D : Nat → Prop} {w w' : World} (h : Ext D w w') {base e size n : Nat} {v : Value} {xs : List Value} (ho : w.ownsRow base e size v n xs) (hn : ∀ b, v.ownBlock = some b → ¬ D b) :
    w'.ownsRow base e size v n xs := by
  refine ⟨ho.1, ?_⟩
  rcases ho.2 with hx | ⟨g, cap, cur, rfl, hb, hg, rest⟩
  · exact .inl hx
  · exact .inr ⟨g, cap, cur, rfl, hb, h.heap hg (hn g rfl), rest⟩

theorem cell_other (w : World) {a c : Addr} (v u : Value) (hc : w.cell? c = some u) (h : c.block ≠ a.block) : (w.setCell a v).cell? c = some u :=
  (Ext.setCell (D := Just a.block) w a v rfl).cell hc h
theorem block_cells_other {w : World} {b : Nat} {cs : Array Value} {e : TypeId} {fz : Nat × Nat} (h : w.heap[b]? = some (.cells cs e fz)) (i j : Nat) (v u : Value) (hij : i ≠ j) (hu : cs[j]? = some u) :
    (w.setCell ⟨b, i, none⟩ v).cell? ⟨b, j, none⟩ = some u := by
  rw [cell_of_row _ b j _ _ _ (block_set h i v), Array.getElem?_setIfInBounds_ne hij]; exact hu
theorem Ext.setCells {B : Nat} {w w' : World} (h : Ext (Just B) w w') (j : Nat) (v : Value) : Ext (Just B) w (w'.setCell ⟨B, j, none⟩ v) :=
  h.trans (Ext.setCell (D := Just B) _ _ _ rfl) (fun _ _ h => h) (fun _ _ h => h)
theorem set8 {V : World} {B : Nat} {c0 c1 c2 c3 c4 c5 c6 c7 : Value} {e : TypeId} (h : V.heap[B]? = some (.cells #[c0, c1, c2, c3, c4, c5, c6, c7] e (0, 0))) (v0 v1 v2 v3 v4 v5 v6 v7 : Value) :
    ((((((((V.setCell ⟨B, 0, none⟩ v0).setCell ⟨B, 1, none⟩ v1).setCell ⟨B, 2, none⟩ v2).setCell ⟨B, 3, none⟩ v3).setCell ⟨B, 4, none⟩ v4).setCell ⟨B, 5, none⟩ v5).setCell ⟨B, 6, none⟩ v6).setCell ⟨B, 7, none⟩ v7).heap[B]? =
      some (.cells #[v0, v1, v2, v3, v4, v5, v6, v7] e (0, 0)) ∧
    Ext (Just B) V ((((((((V.setCell ⟨B, 0, none⟩ v0).setCell ⟨B, 1, none⟩ v1).setCell ⟨B, 2, none⟩ v2).setCell ⟨B, 3, none⟩ v3).setCell ⟨B, 4, none⟩ v4).setCell ⟨B, 5, none⟩ v5).setCell ⟨B, 6, none⟩ v6).setCell ⟨B, 7, none⟩ v7) := by
  have := block_set (block_set (block_set (block_set (block_set (block_set (block_set (block_set h 0 v0) 1 v1) 2 v2) 3 v3) 4 v4) 5 v5) 6 v6) 7 v7
  exact ⟨by simpa using this, ((((((((Ext.refl (Just B) V).setCells 0 v0).setCells 1 v1).setCells 2 v2).setCells 3 v3).setCells 4 v4).setCells 5 v5).setCells 6 v6).setCells 7 v7⟩

/-- What a slice of bytes holds; p: where its array lies. -/
structure Holds (p : Nat → Prop) (W : World) (a : Option Addr) (cap : Nat) (l : List (BitVec 8)) : Prop where
  len : l.length ≤ cap
  max : cap ≤ maxLen
  lies : (a = none ∧ cap = 0) ∨ ∃ b off, a = some ⟨b, off, none⟩ ∧ (l ≠ [] → p b) ∧ ∀ i c, l[i]? = some c → W.cell? ⟨b, off + i, none⟩ = some (.int .u8 (wd c))

section
variable {p q : Nat → Prop} {W W' : World} {a : Option Addr} {cap : Nat} {l : List (BitVec 8)}

theorem Holds.nil (p : Nat → Prop) (W : World) : Holds p W none 0 [] := ⟨Nat.le_refl _, Nat.zero_le _, .inl ⟨rfl, rfl⟩⟩
theorem Holds.mono (h : Holds p W a cap l) (hp : ∀ b, p b → q b) : Holds q W a cap l :=
  ⟨h.len, h.max, h.lies.imp id fun ⟨b, off, e, hb, hc⟩ => ⟨b, off, e, fun hl => hp b (hb hl), hc⟩⟩
theorem Holds.ext {D : Nat → Prop} (h : Holds p W a cap l) (he : Ext D W W') (hd : ∀ b, p b → ¬ D b) : Holds p W' a cap l :=
  ⟨h.len, h.max, h.lies.imp id fun ⟨b, off, e, hb, hc⟩ => ⟨b, off, e, hb, fun i c hi => he.cell (hc i c hi) (hd b (hb (by intro hl; subst hl; simp at hi)))⟩⟩
theorem Holds.lt (h : Holds p W a cap l) : Holds (fun b => p b ∧ b < W.heap.size) W a cap l :=
  ⟨h.len, h.max, h.lies.imp id fun ⟨b, off, e, hb, hc⟩ => ⟨b, off, e, fun hl => ⟨hb hl, by
    cases l with
    | nil => exact absurd rfl hl
    | cons c l => exact World.block_lt_of_cell? W ⟨b, off + 0, none⟩ (hc 0 c rfl)⟩, hc⟩⟩
/-- the cells, where the slice is not empty -/
theorem Holds.cells (h : Holds p W a cap l) (hl : l ≠ []) : ∃ b off, a = some ⟨b, off, none⟩ ∧ p b ∧ b < W.heap.size ∧ ∀ i c, l[i]? = some c → W.cell? ⟨b, off + i, none⟩ = some (.int .u8 (wd c)) := by
  rcases h.lies with ⟨_, hc⟩ | ⟨b, off, e, hb, hc⟩
  · have := h.len; cases l with
    | nil => exact absurd rfl hl
    | cons c l => simp at this; omega
  · cases l with
    | nil => exact absurd rfl hl
    | cons c l => exact ⟨b, off, e, hb hl, World.block_lt_of_cell? W ⟨b, off + 0, none⟩ (hc 0 c rfl), hc⟩
theorem addr_add (b off j : Nat) : (⟨b, off, none⟩ : Addr).add j = ⟨b, off + j, none⟩ := by unfold Addr.add; split <;> simp_all
theorem Holds.news (h : Holds p W a cap l) : ∀ ad, a = some ad → ∀ j u, (bv l)[j]? = some u → W.cell? (ad.add j) = some u := by
  intro ad had j u hu
  rcases h.lies with ⟨e, _⟩ | ⟨b, off, e, hb, hc⟩
  · rw [e] at had; cases had
  · rw [e] at had; cases had
    rw [bv_get] at hu
    obtain ⟨c, hc1, rfl⟩ := Option.map_eq_some_iff.1 hu
    rw [addr_add]; exact hc j c hc1
/-- a piece of a slice, as the model writes it -/
theorem Holds.sliced (h : Holds p W a cap l) {lo hi mx : Nat} (h1 : lo ≤ hi) (h2 : hi ≤ l.length) (h3 : hi ≤ mx) (h4 : mx ≤ cap) :
    Holds p W (if mx = lo then a else a.map (·.add (lo * 1))) (mx - lo) ((l.take hi).drop lo) := by
  refine ⟨by simp; omega, by have := h.max; omega, ?_⟩
  rcases h.lies with ⟨e, hc⟩ | ⟨b, off, e, hb, hc⟩
  · left; subst e; refine ⟨by split <;> rfl, by omega⟩
  · right; subst e
    by_cases hm : mx = lo
    · rw [if_pos hm]
      refine ⟨b, off, rfl, fun hl => hb (by intro e; subst e; simp at hl), fun i c hi => ?_⟩
      rw [List.getElem?_drop] at hi
      have := (List.getElem?_eq_some_iff.1 hi).1
      simp at this; omega
    · rw [if_neg hm]
      refine ⟨b, off + lo * 1, by simp [addr_add], fun hl => hb (by intro e; subst e; simp at hl), fun i c hi => ?_⟩
      rw [List.getElem?_drop, List.getElem?_take] at hi
      split at hi
      · have := hc _ _ hi; rw [show off + lo * 1 + i = off + (lo + i) by omega]; exact this
      · cases hi

theorem Holds.from (h : Holds p W a cap l) {lo : Nat} (h1 : lo ≤ l.length) (h2 : lo < cap) : Holds p W (Option.map (fun x => x.add lo) a) (cap - lo) (l.drop lo) := by
  have := h.sliced h1 (Nat.le_refl _) h.len (Nat.le_refl _)
  rw [if_neg (by omega), List.take_length, Nat.mul_one] at this
  exact this
theorem Holds.none_left (h : Holds p W a cap l) {lo : Nat} (h1 : l.length ≤ lo) : Holds p W a 0 (l.drop lo) := by
  have e : l.drop lo = [] := List.drop_eq_nil_of_le h1
  rw [e]
  refine ⟨Nat.le_refl _, Nat.zero_le _, ?_⟩
  rcases h.lies with ⟨ha, _⟩ | ⟨b, off, ha, _, _⟩
  · exact .inl ⟨ha, rfl⟩
  · exact .inr ⟨b, off, ha, fun h => absurd rfl h, fun i c hi => by simp at hi⟩
theorem Holds.upto (h : Holds p W a cap l) {hi : Nat} (h1 : hi ≤ l.length) : Holds p W a cap (l.take hi) :=
  ⟨by simp; have := h.len; omega, h.max, h.lies.imp id fun ⟨b, off, e, hb, hc⟩ => ⟨b, off, e, fun hl => hb (by intro e; subst e; simp at hl), fun i c hi => by
    rw [List.getElem?_take] at hi; split at hi
    · exact hc i c hi
    · cases hi⟩⟩
end

/-- what an owned row is as a slice -/
theorem owns_shape {W : World} {base e : Nat} {v : Value} {n : Nat} {l : List (BitVec 8)} (h : W.ownsRow base e 1 v n (bv l)) :
    n = l.length ∧ ∃ a cap, v = .slice a l.length cap ∧ Holds (fun b => base ≤ b ∧ b < W.heap.size ∧ v.ownBlock = some b) W a cap l := by
  obtain ⟨hl, h⟩ := h
  have hn : n = l.length := by rw [bv_length] at hl; omega
  subst hn
  refine ⟨rfl, ?_⟩
  rcases h with ⟨rfl, h0⟩ | ⟨g, cap, cur, rfl, hb, hg, hc, hm, hcs, ht⟩
  · have : l = [] := List.eq_nil_of_length_eq_zero h0
    subst this
    exact ⟨none, 0, rfl, Holds.nil _ _⟩
  · refine ⟨_, cap, rfl, hc, hm, .inr ⟨g, 0, rfl, fun _ => ⟨hb, (Array.getElem?_eq_some_iff.1 hg).1, rfl⟩, fun i c hi => ?_⟩⟩
    have h1 : (bv l)[i]? = some (.int .u8 (wd c)) := by rw [bv_get, hi]; rfl
    rw [← ht, List.getElem?_take] at h1
    split at h1
    · rw [Nat.zero_add, cell_of_row W g i cur e (0, 0) hg]; simpa using h1
    · cases h1

/-- append of bytes onto a slice of the call's own -/
theorem append_bytes {P : Program} {W : World} {base t ty e : Nat} {i : TypeInfo} (ht : P.underlying t = some (.slice e)) (hi : P.info? e = some i)
    (hz : i.zero = some (.int .u8 0)) (hsize : i.size = 1) (hby : i.bytes = 1) {p : Nat → Prop}
    {v : Value} {n : Nat} {l m : List (BitVec 8)} {a : Option Addr} {cap k : Nat} (hown : W.ownsRow base e 1 v n (bv l)) (hs : Holds p W a cap m) (hk : m.length = k)
    (hb : l.length + m.length ≤ 140737488355328) (hbase : base ≤ W.heap.size) :
    ∃ v' W', (Builtin.append_ #[t, t] ty #[v, .slice a k cap]).run P W = .ok v' W' ∧ W'.ownsRow base e 1 v' (l.length + m.length) (bv (l ++ m)) ∧ W.grownBy W' v.ownBlock ∧
      (v' = .slice none 0 0 ↔ v = .slice none 0 0 ∧ m = []) := by
  subst hk
  have hn : n = l.length := (owns_shape hown).1
  subst hn
  cases a with
  | none =>
    have hm : m = [] := by
      rcases hs.lies with ⟨_, hc⟩ | ⟨b, off, e, _⟩
      · have := hs.len; exact List.eq_nil_of_length_eq_zero (by omega)
      · cases e
    subst hm
    refine ⟨v, W, ?_, by simpa using hown, ⟨rfl, rfl, rfl, Nat.le_refl _, fun _ _ _ => rfl⟩, by simp⟩
    obtain ⟨a', cap', rfl, hh⟩ := (owns_shape hown).2
    have hlen := hh.len
    cases a' with
    | none =>
      simp [Builtin.append_, run_underlying ht, sizeOf, typeInfo, hi, Builtin.lenOf, Builtin.firstCells, hlen]
    | some ad =>
      simp [Builtin.append_, run_underlying ht, sizeOf, typeInfo, hi, Builtin.lenOf, Builtin.firstCells, loadCells, hlen, storeCells]
  | some ad =>
    obtain ⟨v', W', h1, h2, h3, h4⟩ := run_append_own (P := P) W base t ty e i (.int .u8 0) 1 1 ht hi hz hsize hby rfl (by decide) v l.length (bv l) hown ad m.length cap (bv m)
      (by rw [bv_length]; omega) (hs.news ad rfl) (bv_one m) (by unfold maxLen; omega) (by omega) hbase
    exact ⟨v', W', h1, by rw [bv_append]; exact h2, h3, by rw [h4]; simp [List.length_eq_zero_iff]⟩

theorem flip_w {P : Program} {f : FuncId} {args : Array Value} {w : World} {v : Value} (h : Calls P f args w fun e w' => e = .returned v ∧ w = w') : Calls P f args w fun e w' => e = .returned v ∧ w' = w :=
  h.mono fun _ _ ⟨a, b⟩ => ⟨a, b.symm⟩

section laws
variable {P : Program} {W : World} {ops : Array Oper} {rest : List Oper} {o : Oper} {A : Act} {Q : Exit → Act → World → Prop}

theorem wpList_value {v' : Value} {W' : World} (hg : o.guard = none) (hr : (execOp A.eval o).run P W = .ok (.value v') W')
    (h : wpList P ops Q rest (A.put o.dst v') W') : wpList P ops Q (o :: rest) A W := by
  refine wpList_plain hg fun K hK => ?_
  unfold Oper.wp; rw [hr]; exact hK _ _ h

theorem exec_append {s x : Operand} {t t' : TypeId} {v' : Value} {W' : World} (ho : o.op = .call { callee := .builtin .append, args := #[s, x], argTypes := #[t, t'] })
    (hr : (Builtin.append_ #[t, t'] o.type #[A.eval s, A.eval x]).run P W = .ok v' W') : (execOp A.eval o).run P W = .ok (.value v') W' := by
  simp [execOp, ho, resolve, invoke, builtin, hr, Result.andThen]

/-- append of bytes, at the operation -/
theorem wpList_append_b (hg : o.guard = none) (s x : Operand) (t e : TypeId) (ho : o.op = .call { callee := .builtin .append, args := #[s, x], argTypes := #[t, t] })
    {i : TypeInfo} (ht : P.underlying t = some (.slice e)) (hi : P.info? e = some i)
    (hz : i.zero = some (.int .u8 0)) (hsize : i.size = 1) (hby : i.bytes = 1) {p : Nat → Prop} (base : Nat)
    {v : Value} {n : Nat} {l m : List (BitVec 8)} {a : Option Addr} {cap k : Nat} (hv : A.eval s = v) (hown : W.ownsRow base e 1 v n (bv l))
    (hx : A.eval x = .slice a k cap) (hs : Holds p W a cap m) (hk : m.length = k)
    (hb : l.length + m.length ≤ 140737488355328) (hbase : base ≤ W.heap.size)
    (h : ∀ v' W', W'.ownsRow base e 1 v' (l ++ m).length (bv (l ++ m)) → W.grownBy W' v.ownBlock → (v' = .slice none 0 0 ↔ v = .slice none 0 0 ∧ m = []) → wpList P ops Q rest (A.put o.dst v') W') :
    wpList P ops Q (o :: rest) A W := by
  obtain ⟨v', W', h1, h2, h3, h4⟩ := append_bytes (ty := o.type) ht hi hz hsize hby hown hs hk hb hbase
  exact wpList_value hg (exec_append ho (by rw [hv, hx]; exact h1)) (h v' W' (by rw [List.length_append]; exact h2) h3 h4)
end laws
end Go.Proofs.YtjfcldjepgijeaaDoor
