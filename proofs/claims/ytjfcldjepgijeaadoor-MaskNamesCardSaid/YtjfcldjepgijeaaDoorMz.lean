/- Zeros appended: 'append(x, make([]byte, k)...)'. No program stands here. -/
import Derived.Test.YtjfcldjepgijeaaDoorMem
namespace Go.Proofs.YtjfcldjepgijeaaDoor
open Go.RowKit

theorem zeroCells_b (k : Nat) : Builtin.zeroCells #[Value.int .u8 0] k = (bv (List.replicate k 0)).toArray := by
  apply Array.ext_getElem?
  intro i
  unfold Builtin.zeroCells bv
  by_cases h : i < k
  · simp [h, Nat.mod_one]; rfl
  · simp [h]
theorem wrap_nat {k : Nat} (h : k ≤ 140737488355328) : IntKind.i64.wrap (k : Int) = k := by
  simp only [IntKind.wrap, IntKind.bits, IntKind.signed]
  simp
  omega

theorem append_zeros {P : Program} {W : World} {base t ti ty e : Nat} {i : TypeInfo} (ht : P.underlying t = some (.slice e)) (hti : P.underlying ti = some (.int .i64)) (hi : P.info? e = some i)
    (hz : i.zero = some (.int .u8 0)) (hsize : i.size = 1) (hby : i.bytes = 1) {v : Value} {n : Nat} {l : List (BitVec 8)} {k : Nat} (hown : W.ownsRow base e 1 v n (bv l))
    (hb : l.length + k ≤ 140737488355328) (hbase : base ≤ W.heap.size) :
    ∃ v' W', (Builtin.append_ #[t, ti] ty #[v, .int .i64 k]).run P W = .ok v' W' ∧ W'.ownsRow base e 1 v' (l.length + k) (bv (l ++ List.replicate k 0)) ∧ W.grownBy W' v.ownBlock ∧
      (v' = .slice none 0 0 ↔ v = .slice none 0 0 ∧ k = 0) := by
  have hn : n = l.length := (owns_shape hown).1
  subst hn
  have hw := wrap_nat (k := k) (by omega)
  have h0 : ¬ ((k : Int) < 0) := by omega
  have h48 : ¬ ((281474976710656 : Int) < (k : Int)) := by omega
  have hzc : ∀ k, Builtin.zeroCells (Value.int .u8 0).cells k = (bv (List.replicate k 0)).toArray := zeroCells_b
  have hlen : (bv (l ++ List.replicate k 0)).length = (l.length + k) * 1 := by rw [bv_length]; simp
  have grown : ∀ (old : Nat), old < l.length + k → ∀ (row : Option Nat),
      (W.drew.alloc (.cells ((bv l).toArray ++ (bv (List.replicate k 0)).toArray ++ (bv (List.replicate (grownCap W (l.length + k) old e - (l.length + k)) 0)).toArray) e)).ownsRow base e 1
        (.slice (some ⟨W.heap.size, 0, none⟩) (l.length + k) (grownCap W (l.length + k) old e)) (l.length + k) (bv (l ++ List.replicate k 0)) ∧
      W.grownBy (W.drew.alloc (.cells ((bv l).toArray ++ (bv (List.replicate k 0)).toArray ++ (bv (List.replicate (grownCap W (l.length + k) old e - (l.length + k)) 0)).toArray) e)) row := by
    intro old ho row
    have hge := grownCap_ge W (l.length + k) old e
    have hcm : grownCap W (l.length + k) old e ≤ maxLen := grownCap_le_maxLen W (l.length + k) old e (by unfold maxLen; omega)
    refine ⟨⟨hlen, .inr ⟨W.heap.size, _, _, rfl, hbase, heap_alloc_new W.drew _, hge, hcm, ?_, ?_⟩⟩, ⟨rfl, rfl, rfl, by simp, fun j hj _ => Below.heap_alloc W.drew _ _ hj⟩⟩
    · simp only [Array.size_append, List.size_toArray, bv_length, List.length_replicate]; omega
    · simp only [Array.toList_append, List.append_assoc]
      rw [← List.append_assoc, ← bv_append, ← hlen]
      exact List.take_left
  rcases hown.2 with ⟨rfl, hl0⟩ | ⟨g, cap, cur, rfl, hbg, hg, hnc, hcm, hcs, htake⟩
  · have hx : l = [] := List.eq_nil_of_length_eq_zero (by omega)
    subst hx
    by_cases hk : k = 0
    · subst hk
      refine ⟨.slice none 0 0, W, ?_, World.ownsRow_nil W base e 1, ⟨rfl, rfl, rfl, Nat.le_refl _, fun _ _ _ => rfl⟩, by simp⟩
      simp [Builtin.append_, run_underlying ht, run_underlying hti, sizeOf, typeInfo, hi, hby, asInt, asIntOf, IntKind.wrap, IntKind.bits, IntKind.signed]
    · have hgr := grown 0 (by simp; omega) (Value.ownBlock (.slice none 0 0))
      refine ⟨_, _, ?_, hgr.1, hgr.2, by simp [hk]⟩
      have h63 : ¬ ((9223372036854775807 : Int) < (k : Int)) := by omega
      have hfit : ¬ (281474976710656 < Builtin.nextslicecap k 0) := by have := growslice_fits (need := k) (old := 0) (bytes := 1) (by omega) (by simp at hb; omega); omega
      simp [Builtin.append_, run_underlying ht, run_underlying hti, sizeOf, typeInfo, zeroValue, hi, hz, hsize, hby, asInt, asIntOf, hw, h0, h48, hk, h63, hfit, hzc, Question.forced, newRow, grownCap, Builtin.firstCells]
      rfl
  · have hcell : ∀ j u, (bv l)[j]? = some u → W.cell? ((⟨g, 0, none⟩ : Addr).add j) = some u := hown.cells (g := g) rfl
    by_cases hroom : l.length + k ≤ cap
    · by_cases hk : k = 0
      · subst hk
        refine ⟨.slice (some ⟨g, 0, none⟩) l.length cap, W, ?_, by simpa using hown, ⟨rfl, rfl, rfl, Nat.le_refl _, fun _ _ _ => rfl⟩, by simp⟩
        simp [Builtin.append_, run_underlying ht, run_underlying hti, sizeOf, typeInfo, hi, hby, asInt, asIntOf, IntKind.wrap, IntKind.bits, IntKind.signed, hnc, storeCells]
      · have hfit : l.length + (bv (List.replicate k 0)).length ≤ cur.size := by rw [bv_length, List.length_replicate, hcs]; omega
        have hst := run_storeCells_at P g l.length e (bv (List.replicate k 0)) 0 cur W hg (by simpa using hfit) (bv_one _)
        simp only [Nat.add_zero] at hst
        have hadd : (⟨g, 0, none⟩ : Addr).add l.length = ⟨g, l.length, none⟩ := by rw [addr_add, Nat.zero_add]
        refine ⟨.slice (some ⟨g, 0, none⟩) (l.length + k) cap, W.setRow g (cur.toList.take l.length ++ bv (List.replicate k 0) ++ cur.toList.drop (l.length + (bv (List.replicate k 0)).length)).toArray, ?_,
          ⟨hlen, .inr ⟨g, cap, _, rfl, hbg, setRow_heap W g cur _ e _ hg, hroom, hcm, ?_, ?_⟩⟩, ⟨rfl, rfl, rfl, by simp, fun j _ hj => setRow_other W g j _ (fun e => hj (by simp [Value.ownBlock, e]))⟩, by simp⟩
        · simp [Builtin.append_, run_underlying ht, run_underlying hti, sizeOf, typeInfo, zeroValue, hi, hz, hsize, hby, asInt, asIntOf, hw, h0, h48, hroom, hzc, hk, hadd]
          simp only [BitVec.ofNat_eq_ofNat] at hst
          rw [hst]
          simp [Result.andThen, List.append_assoc]
        · simp only [List.size_toArray, List.length_append, List.length_take, List.length_drop, Array.length_toList]
          omega
        · rw [Nat.mul_one] at htake
          rw [htake, ← bv_append, ← hlen]
          exact List.take_left
    · have hgr := grown cap (by omega) (Value.ownBlock (.slice (some ⟨g, 0, none⟩) l.length cap))
      have hl := run_loadCells_list (P := P) W.drew ⟨g, 0, none⟩ (bv l) (fun j u hu => by have := hcell j u hu; simpa using this)
      refine ⟨_, _, ?_, hgr.1, hgr.2, by simp⟩
      have h63 : ¬ ((9223372036854775807 : Int) < (l.length : Int) + (k : Int)) := by omega
      have hfit : ¬ (281474976710656 < Builtin.nextslicecap (l.length + k) cap) := by have := growslice_fits (need := l.length + k) (old := cap) (bytes := 1) (by omega) (by omega); omega
      rw [bv_length] at hl
      have hk0 : ¬ k = 0 := by omega
      simp [Builtin.append_, run_underlying ht, run_underlying hti, sizeOf, typeInfo, zeroValue, hi, hz, hsize, hby, asInt, asIntOf, hw, h0, h48, hroom, h63, hfit, hzc, hl, hk0, Question.forced, newRow, grownCap, Builtin.firstCells]
theorem wpList_append_z {P : Program} {W : World} {ops : Array Oper} {rest : List Oper} {o : Oper} {A : Act} {Q : Exit → Act → World → Prop} (hg : o.guard = none) (s x : Operand) (t ti e : TypeId) (ho : o.op = .call { callee := .builtin .append, args := #[s, x], argTypes := #[t, ti] })
    {i : TypeInfo} (ht : P.underlying t = some (.slice e)) (hti : P.underlying ti = some (.int .i64)) (hi : P.info? e = some i)
    (hz : i.zero = some (.int .u8 0)) (hsize : i.size = 1) (hby : i.bytes = 1) (base : Nat)
    {v : Value} {n : Nat} {l : List (BitVec 8)} {z : Int} (k : Nat) (hv : A.eval s = v) (hown : W.ownsRow base e 1 v n (bv l))
    (hx : A.eval x = .int .i64 z) (hzk : z = k) (hb : l.length + k ≤ 140737488355328) (hbase : base ≤ W.heap.size)
    (h : ∀ v' W', W'.ownsRow base e 1 v' (l.length + k) (bv (l ++ List.replicate k 0)) → W.grownBy W' v.ownBlock → (v' = .slice none 0 0 ↔ v = .slice none 0 0 ∧ k = 0) → wpList P ops Q rest (A.put o.dst v') W') :
    wpList P ops Q (o :: rest) A W := by
  subst hzk
  obtain ⟨v', W', h1, h2, h3, h4⟩ := append_zeros (ty := o.type) ht hti hi hz hsize hby hown hb hbase
  refine wpList_value hg ?_ (h v' W' h2 h3 h4)
  simp [execOp, ho, resolve, invoke, builtin, hv, hx, h1, Result.andThen]
end Go.Proofs.YtjfcldjepgijeaaDoor
