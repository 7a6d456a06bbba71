/- The words of a block, all at once. -/
import Derived.Test.YtjfcldjepgijeaaDoorGa
import Derived.Test.YtjfcldjepgijeaaDoorSlb
import Derived.Test.YtjfcldjepgijeaaDoorRf
import Derived.StillTailTactics
import Derived.WalkMore
import Derived.Deep.WholeRow
namespace Go.Proofs.YtjfcldjepgijeaaDoor
open Go.RowKit
attribute [local go_sem] Oper.semAt_some

def zg64 : Array Value := Array.replicate 64 (.int .u32 0)
theorem zerog64 (w : World) : (zeroValue 76).run Tryd.prog w = .ok (.agg zg64) w := by kernel_rfl
theorem garr64N (W : World) : ∃ W', W.alloc (.cells zg64 76) = W' ∧ GArr W' W.heap.size 76 64 (fun _ => 0) ∧ Ext Nope W W' ∧ W'.heap.size = W.heap.size + 1 :=
  ⟨_, rfl, ⟨zg64, World.alloc_heap_new W _, by simp [zg64], fun j hj => by unfold zg64; rw [Array.getElem?_replicate, if_pos hj]; rfl⟩, Ext.alloc _ _ _, by simp⟩

theorem u32_mod (z : Int) : IntKind.u32.wrap z = z % 4294967296 := by simp [IntKind.wrap, IntKind.bits, IntKind.signed]
theorem u32_shm (x : BitVec 32) (k : Nat) : wd x * 2 ^ k % 4294967296 = wd (x <<< k) := by rw [← u32_mod, u32_shl]
theorem be32_fin (x0 x1 x2 x3 : BitVec 8) : bits BinOp.or IntKind.u32 (bits BinOp.or IntKind.u32 (bits BinOp.or IntKind.u32 (wd (x0.setWidth 32) * 16777216 % 4294967296) (wd (x1.setWidth 32) * 65536 % 4294967296)) (wd (x2.setWidth 32) * 256 % 4294967296)) (wd (x3.setWidth 32)) =
    wd (x0.setWidth 32 <<< 24 ||| x1.setWidth 32 <<< 16 ||| x2.setWidth 32 <<< 8 ||| x3.setWidth 32) := by
  have e24 := u32_shm (x0.setWidth 32) 24
  have e16 := u32_shm (x1.setWidth 32) 16
  have e8 := u32_shm (x2.setWidth 32) 8
  rw [show (2 : Int) ^ 24 = 16777216 from rfl] at e24
  rw [show (2 : Int) ^ 16 = 65536 from rfl] at e16
  rw [show (2 : Int) ^ 8 = 256 from rfl] at e8
  rw [e24, e16, e8, u32_or, u32_or, u32_or]

section laws
variable {P : Program} {W : World} {ops : Array Oper} {rest : List Oper} {o : Oper} {A : Act} {Q : Exit → Act → World → Prop}
/-- an array, by value, out of its block -/
theorem wpList_load_arr (hg : o.guard = none) (x : Operand) (t : TypeId) (ho : o.op = .load t x) {B : Nat} {cs : Array Value} (hx : A.eval x = .pointer (some ⟨B, 0, none⟩)) (hl : (loadVar t ⟨B, 0, none⟩).run P W = .ok (.agg cs) W)
    (h : wpList P ops Q rest (A.put o.dst (.agg cs)) W) : wpList P ops Q (o :: rest) A W := by
  refine wpList_value hg ?_ h
  unfold execOp
  rw [ho]
  simp only [hx, Instr.loadAt, Instr.sureAddr, Sem.run_bind, Sem.run_pure, Result.andThen, hl]
/-- .. into its block -/
theorem wpList_store_arr (hg : o.guard = none) (hd : o.dst = none) (x y : Operand) (t : TypeId) (ho : o.op = .store t x y) {B : Nat} {v : Value} {W' : World} (hx : A.eval x = .pointer (some ⟨B, 0, none⟩)) (hy : A.eval y = v) (hl : (storeVar t ⟨B, 0, none⟩ v).run P W = .ok () W')
    (h : wpList P ops Q rest A W') : wpList P ops Q (o :: rest) A W := by
  refine wpList_plain hg fun K hK => ?_
  unfold Oper.wp execOp
  rw [ho]
  simp only [hx, hy, Instr.storeAt, Instr.sureAddr, Sem.run_bind, Sem.run_pure, Result.andThen, hl]
  have := hK A W' h
  simpa [Oper.upon, Act.put, hd] using this
end laws

/-- the words that are handed back -/
def GVal (cs : Array Value) (f : Nat → BitVec 32) : Prop := cs.size = 64 ∧ ∀ j, j < 64 → cs[j]? = some (.int .u32 (wd (f j)))

theorem GVal.one {cs : Array Value} {f : Nat → BitVec 32} (h : GVal cs f) : cs.all (·.oneCell') = true := by
  rw [Array.all_eq_true]
  intro i hi
  have h1 := h.2 i (by have := h.1; omega)
  rw [Array.getElem?_eq_getElem hi] at h1
  rw [Option.some.inj h1]; rfl
theorem setRow_heap {w : World} {B : Nat} {old cs : Array Value} {t : TypeId} {fz : Nat × Nat} (h : w.heap[B]? = some (.cells old t fz)) : (w.setRow B cs).heap[B]? = some (.cells cs t fz) := by
  simp [World.setRow, Array.getElem?_modify, h]
theorem Ext.setRow (w : World) (B : Nat) (cs : Array Value) : Ext (Just B) w (w.setRow B cs) := by
  refine ⟨rfl, rfl, rfl, by simp [World.setRow], fun k _ hn => ?_⟩
  have hk : ¬ B = k := fun e => hn e.symm
  simp [World.setRow, Array.getElem?_modify, hk]
theorem store_arr {w : World} {B : Nat} {old cs : Array Value} (h : w.heap[B]? = some (.cells old 76 (0, 0))) (ho : old.size = 64) {f : Nat → BitVec 32} (hv : GVal cs f) :
    ∃ W', (storeVar 76 ⟨B, 0, none⟩ (.agg cs)).run Tryd.prog w = .ok () W' ∧ W'.heap[B]? = some (.cells cs 76 (0, 0)) ∧ Ext (Just B) w W' :=
  ⟨_, run_storeVar_row _ B _ _ old cs h (by rw [hv.1]; kernel_rfl) (by rw [ho, hv.1]) hv.one, setRow_heap h, Ext.setRow _ _ _⟩

set_option maxRecDepth 100000 in
set_option maxHeartbeats 4000000 in
theorem spreadg_any {p : Nat → Prop} (a : Option Addr) (cap : Nat) (l : List (BitVec 8)) (W : World) (hh : Hid (Holds p W a cap l)) (hn : Hid (l.length = 64)) :
    Calls Tryd.prog 70 #[.slice a 64 cap] W fun e W' => ∃ cs, e = .returned (.agg cs) ∧ GVal cs (word6 (be32 l)) ∧ Ext Nope W W' := by
  have hz := zerog64
  have HZ := Lib.hid (garr64N W)
  go_enter Tryd.func70, Tryd.ntmps70
  go_wp2_with fail
  obtain ⟨W1, hW1, hg1, hx1, hs1⟩ := HZ.out
  rw [hW1]
  have HG1 := Lib.hid hg1
  have HX1 := Lib.hid hx1
  obtain ⟨bw, hbw⟩ : ∃ bw, W.heap.size = bw := ⟨_, rfl⟩
  rw [hbw] at HG1 ⊢
  have HBW := Lib.hid hbw
  have hcap : 64 ≤ cap := by have := hh.out.len; have := hn.out; omega
  obtain ⟨b, off, rfl, _, hb, hc⟩ := hh.out.cells (by intro e; have := hn.out; subst e; simp at this)
  have HC : Hid (∀ V, Ext (Just bw) W1 V → ∀ x, x < 64 → V.cell? ⟨b, off + x, none⟩ = some (.int .u8 (wd (l.getD x 0)))) := fun V hx x hx2 => by
    have h1 : l[x]? = some (l.getD x 0) := by rw [List.getD, List.getElem?_eq_getElem (by have := hn.out; omega)]; rfl
    exact hx.cell (hx1.cell (hc x _ h1) (fun h => h)) (fun h => by simp only [Just] at h; omega)
  clear hz HZ hW1 hg1 hx1 hs1 hc hbw
  go_loopw [6] (fun vi V => ∃ (i : Nat) (f : Nat → BitVec 32), i ≤ 64 ∧ vi = .int .i64 i ∧ GArr V bw 76 64 f ∧ (∀ j, j < i → f j = word6 (be32 l) j) ∧ Ext (Just bw) W1 V) (fun i _ => 64 - (intOf i).toNat)
  case atStart => exact ⟨0, _, by omega, rfl, HG1.out, fun j hj => by omega, Ext.refl _ _⟩
  case round =>
    obtain ⟨i, f, hi, rfl, hg, hf, hx⟩ := hrel
    have HG := Lib.hid hg
    have HF := Lib.hid hf
    have HX := Lib.hid hx
    clear hg hf hx
    by_cases hlt : i < 64
    · have hltI : (i : Int) < 64 := by omega
      have ci := HG.out.cell hlt
      have hfr := HG.out.free
      by_cases h16 : i < 16
      · have h16I : (i : Int) < 16 := by omega
        have c0 := HC.out _ HX.out (4 * i) (by omega)
        have c1 := HC.out _ HX.out (4 * i + 1) (by omega)
        have c2 := HC.out _ HX.out (4 * i + 2) (by omega)
        have c3 := HC.out _ HX.out (4 * i + 3) (by omega)
        have HV : Hid (be32 l i = (l.getD (4 * i) 0).setWidth 32 <<< 24 ||| (l.getD (4 * i + 1) 0).setWidth 32 <<< 16 ||| (l.getD (4 * i + 2) 0).setWidth 32 <<< 8 ||| (l.getD (4 * i + 3) 0).setWidth 32) := rfl
        generalize l.getD (4 * i) 0 = x0 at c0 HV
        generalize l.getD (4 * i + 1) 0 = x1 at c1 HV
        generalize l.getD (4 * i + 2) 0 = x2 at c2 HV
        generalize l.getD (4 * i + 3) 0 = x3 at c3 HV
        obtain ⟨i0, hi0⟩ : ∃ i0, 4 * i = i0 := ⟨_, rfl⟩
        obtain ⟨i1, hi1⟩ : ∃ i1, 4 * i + 1 = i1 := ⟨_, rfl⟩
        obtain ⟨i2, hi2⟩ : ∃ i2, 4 * i + 2 = i2 := ⟨_, rfl⟩
        obtain ⟨i3, hi3⟩ : ∃ i3, 4 * i + 3 = i3 := ⟨_, rfl⟩
        rw [hi0] at c0
        rw [hi1] at c1
        rw [hi2] at c2
        rw [hi3] at c3
        have hi0I : 4 * (i : Int) = (i0 : Int) := by omega
        have hi1I : (i0 : Int) + 1 = (i1 : Int) := by omega
        have hi2I : (i0 : Int) + 2 = (i2 : Int) := by omega
        have hi3I : (i0 : Int) + 3 = (i3 : Int) := by omega
        have hb3 : i3 < 64 := by omega
        have hb0 : i0 < 64 := by omega
        have hb1 : i1 < 64 := by omega
        have hb2 : i2 < 64 := by omega
        clear hi0 hi1 hi2 hi3
        go_wp2_with fail
        have uc := u32_of8
        have uo := u32_or
        have us := u32_shl
        refine (wpIn_wide (n := 0)).1 (wpIn_region_quiet_tail (r := none) 35 (by kernel_rfl) (by kernel_rfl) (by kernel_rfl) ?_)
        simp only [List.take_succ_cons, List.take_zero, List.drop_succ_cons, List.drop_zero]
        repeat (go_big_quiet_step (fail))
        refine wpQuiet_nil ?_
        rintro _ ⟨nq, rfl⟩
        rw [fr_none]
        gi_wp2_with fail
        go_wp2_with fail
        rw [be32_fin, ← HV.out]
        have HST := HG.out.set i (be32 l i)
        exact ⟨⟨i + 1, _, by omega, by congr 1, HST, fun j hj => by
          by_cases e : j = i
          · subst e; rw [updg_at, word6_lo _ h16]
          · rw [updg_ne _ _ e]; exact HF.out j (by omega), (HX.out.trans (Ext.drewN Nope wr nq) (E := Just bw) (fun _ _ h => h) (fun _ _ h => h.elim)).setCells _ _⟩, by simp [intOf]; omega⟩
      · have h16I : ¬ ((i : Int) < 16) := by omega
        have h15 : (i : Int) - 15 = ((i - 15 : Nat) : Int) := by omega
        have h2 : (i : Int) - 2 = ((i - 2 : Nat) : Int) := by omega
        have h16' : (i : Int) - 16 = ((i - 16 : Nat) : Int) := by omega
        have h7 : (i : Int) - 7 = ((i - 7 : Nat) : Int) := by omega
        have c15 := HG.out.cell (j := i - 15) (by omega)
        have c2 := HG.out.cell (j := i - 2) (by omega)
        have c16 := HG.out.cell (j := i - 16) (by omega)
        have c7 := HG.out.cell (j := i - 7) (by omega)
        rw [HF.out _ (by omega)] at c15 c2 c16 c7
        have HA := Lib.hid (word6_hi (be32 l) (show 16 ≤ i by omega))
        generalize word6 (be32 l) (i - 15) = x15 at c15 HA
        generalize word6 (be32 l) (i - 2) = x2 at c2 HA
        generalize word6 (be32 l) (i - 7) = x7 at c7 HA
        generalize word6 (be32 l) (i - 16) = x16 at c16 HA
        go_wp2_with fail
        refine wp_region_quiet_lit (by kernel_rfl) (by kernel_rfl) ?_
        repeat (go_big_quiet_step (fail))
        refine wpQuiet_nil ?_
        rintro _ ⟨nq, rfl⟩
        obtain ⟨V1, hV1⟩ : ∃ V1, wr.drewN nq = V1 := ⟨_, rfl⟩
        have HX1 : Hid (Ext (Just bw) W1 V1) := by rw [← hV1]; exact HX.out.trans (Ext.drewN Nope wr nq) (fun _ _ h => h) (fun _ _ h => h.elim)
        have HV1 : Hid (Ext Nope wr V1) := by rw [← hV1]; exact Ext.drewN Nope wr nq
        rw [hV1]
        clear hV1 c15 c2 hfr
        have HG1 : Hid (GArr V1 bw 76 64 f) := HG.out.ext HV1.out (fun h => h)
        have hfr := HG1.out.free
        have c16 := HV1.out.cell c16 (fun h => h)
        have c7 := HV1.out.cell c7 (fun h => h)
        have ci := HG1.out.cell hlt
        go_wp2_with fail
        have e3 : wd x15 / (8 : Int) = wd (x15 >>> 3) := wd_shr' x15 3
        have e10 : wd x2 / (1024 : Int) = wd (x2 >>> 10) := wd_shr' x2 10
        have ua := u32_add
        refine (wpIn_wide (n := 0)).1 (wpIn_region_quiet_tail (r := none) 21 (by kernel_rfl) (by kernel_rfl) (by kernel_rfl) ?_)
        simp only [List.take_succ_cons, List.take_zero, List.drop_succ_cons, List.drop_zero]
        iterate 13 (go_big_quiet_step (fail))
        go_big_quiet_step (exact Calls.quiet_of_same (flip_w (turned_any x15 (x15 >>> 3) 7 18 7 18 rfl rfl (by omega) (by omega) (by omega) (by omega) _)))
        iterate 4 (go_big_quiet_step (fail))
        go_big_quiet_step (exact Calls.quiet_of_same (flip_w (turned_any x2 (x2 >>> 10) 17 19 17 19 rfl rfl (by omega) (by omega) (by omega) (by omega) _)))
        repeat (go_big_quiet_step (fail))
        refine wpQuiet_nil ?_
        rintro _ ⟨nq2, rfl⟩
        rw [fr_none]
        clear ua e3 e10
        gi_wp2_with fail
        go_wp2_with fail
        have HST := HG1.out.set i (x16 + x7 + (x15.rotateRight 7 ^^^ x15.rotateRight 18 ^^^ x15 >>> 3) + (x2.rotateRight 17 ^^^ x2.rotateRight 19 ^^^ x2 >>> 10))
        exact ⟨⟨i + 1, _, by omega, by congr 1, HST, fun j hj => by
          by_cases e : j = i
          · subst e; rw [updg_at, HA.out]; rfl
          · rw [updg_ne _ _ e]; exact HF.out j (by omega), (HX1.out.trans (Ext.drewN Nope V1 nq2) (E := Just bw) (fun _ _ h => h) (fun _ _ h => h.elim)).setCells _ _⟩, by simp [intOf]; omega⟩
    · obtain rfl : i = 64 := by omega
      obtain ⟨cs, hcs, hsz, hcc⟩ := HG.out
      have hlv : (loadVar 76 ⟨bw, 0, none⟩).run Tryd.prog wr = .ok (.agg cs) wr := run_loadVar_row _ _ _ _ cs (0, 0) _ hcs Tryd.underlying76 rfl (by rw [hsz]; kernel_rfl)
      have HLV := Lib.hid hlv
      have HGV : Hid (GVal cs (word6 (be32 l))) := ⟨hsz, fun j hj => by rw [← HF.out j hj]; exact hcc j hj⟩
      have HCS := Lib.hid hcs
      obtain ⟨W2, hst, hh2, hx2⟩ := store_arr hcs hsz HGV.out
      have HST := Lib.hid hst
      have HH2 := Lib.hid hh2
      have HX2 := Lib.hid hx2
      clear hcs hsz hcc hlv hst hh2 hx2
      go_wp2_with (first | (refine wpList_load_arr rfl (.tmp 2) 76 rfl rfl HLV.out ?_) | (refine wpList_store_arr rfl rfl (.tmp 2) (.tmp 79) 76 rfl rfl rfl HST.out ?_))
      refine bodyPost_ret (results_cell_row rfl _ _ bw _ _ _ _ rfl HH2.out Tryd.underlying76 rfl (by rw [HGV.out.1]; kernel_rfl)) rfl ⟨cs, rfl, HGV.out, ?_⟩
      exact (HX1.out.trans HX.out (E := Nope) (fun _ _ h => h) (fun j hj h => by have := HBW.out; simp only [Just] at h; omega)).trans HX2.out (fun _ _ h => h) (fun j hj h => by have := HBW.out; simp only [Just] at h; omega)
end Go.Proofs.YtjfcldjepgijeaaDoor
