/- The reference's hash: its numbers. -/
import Derived.Test.YtcjcnpjedmpghaaDoorFl
import Derived.Test.YtcjcnpjedmpghaaDoorSe
namespace Go.Proofs.YtcjcnpjedmpghaaDoor
open Go.RowKit

def z80 : Array Value := Array.replicate 80 (.int .u64 0)
theorem zero80 (w : World) : (zeroValue 50).run Tryd.prog w = .ok (.agg z80) w := by kernel_rfl
theorem warr80 (W : World) : WArr (W.alloc (.cells z80 50)) W.heap.size 50 80 (fun _ => 0) :=
  ⟨z80, World.alloc_heap_new W _, by simp [z80], fun j hj => by unfold z80; rw [Array.getElem?_replicate, if_pos hj]; rfl⟩
theorem warr80N (W : World) : ∃ W', W.alloc (.cells z80 50) = W' ∧ WArr W' W.heap.size 50 80 (fun _ => 0) ∧ Ext Nope W W' ∧ W'.heap.size = W.heap.size + 1 := ⟨_, rfl, warr80 W, Ext.alloc _ _ _, by simp⟩
theorem warr8N (W : World) (h : H8) : ∃ W', W.alloc (.cells #[.int .u64 (wd h.a), .int .u64 (wd h.b), .int .u64 (wd h.c), .int .u64 (wd h.d), .int .u64 (wd h.e), .int .u64 (wd h.f), .int .u64 (wd h.g), .int .u64 (wd h.h)] 38) = W' ∧
    W'.heap[W.heap.size]? = some (.cells (h8cells h) 38 (0, 0)) ∧ Ext Nope W W' ∧ W'.heap.size = W.heap.size + 1 := ⟨_, rfl, World.alloc_heap_new W _, Ext.alloc _ _ _, by simp⟩
def z8 : Array Value := #[.int .u64 0, .int .u64 0, .int .u64 0, .int .u64 0, .int .u64 0, .int .u64 0, .int .u64 0, .int .u64 0]
theorem warrz8N (W : World) : ∃ W', W.alloc (.cells #[.int .u64 0, .int .u64 0, .int .u64 0, .int .u64 0, .int .u64 0, .int .u64 0, .int .u64 0, .int .u64 0] 38) = W' ∧ WArr W' W.heap.size 38 8 (fun _ => 0) ∧ Ext Nope W W' ∧ W'.heap.size = W.heap.size + 1 :=
  ⟨_, rfl, ⟨z8, World.alloc_heap_new W _, rfl, fun j hj => by
    obtain rfl | rfl | rfl | rfl | rfl | rfl | rfl | rfl : j = 0 ∨ j = 1 ∨ j = 2 ∨ j = 3 ∨ j = 4 ∨ j = 5 ∨ j = 6 ∨ j = 7 := by omega
    all_goals rfl⟩, Ext.alloc _ _ _, by simp⟩

theorem owns_weaken {W : World} {b b' e size n : Nat} {v : Value} {xs : List Value} (h : W.ownsRow b e size v n xs) (hb : b' ≤ b) : W.ownsRow b' e size v n xs :=
  ⟨h.1, h.2.elim Or.inl (fun ⟨g, cap, cur, hv, hg, r⟩ => Or.inr ⟨g, cap, cur, hv, Nat.le_trans hb hg, r⟩)⟩
/-- an owned row of bytes, its cells -/
theorem owns_bytes {W : World} {base e n : Nat} {v : Value} {l : List (BitVec 8)} (h : W.ownsRow base e 1 v n (bv l)) (hn : 0 < n) :
    ∃ g cap, v = .slice (some ⟨g, 0, none⟩) n cap ∧ l.length = n ∧ base ≤ g ∧ n ≤ cap ∧ g < W.heap.size ∧ ∀ (j : Nat) (c : BitVec 8), l[j]? = some c → W.cell? ⟨g, j, none⟩ = some (.int .u8 (wd c)) := by
  obtain ⟨hl, h⟩ := h
  rw [bv_length] at hl
  rcases h with ⟨_, h0⟩ | ⟨g, cap, cur, rfl, hb, hg, hc, hm, hcs, ht⟩
  · omega
  · refine ⟨g, cap, rfl, by omega, hb, by simpa using hc, (Array.getElem?_eq_some_iff.1 hg).1, fun j x hx => ?_⟩
    have h1 : (bv l)[j]? = some (.int .u8 (wd x)) := by rw [bv_get, hx]; rfl
    rw [← ht, List.getElem?_take] at h1
    split at h1
    · rw [cell_of_row W g j cur e (0, 0) hg]; simpa using h1
    · cases h1
/-- an owned row of numbers, its cells -/
theorem owns_ints {W : World} {base e n : Nat} {v : Value} {l : List Nat} (h : W.ownsRow base e 1 v n (iv l)) (hn : 0 < n) :
    ∃ g cap, v = .slice (some ⟨g, 0, none⟩) n cap ∧ base ≤ g ∧ n ≤ cap ∧ g < W.heap.size ∧ ∀ (j x : Nat), l[j]? = some x → W.cell? ⟨g, j, none⟩ = some (.int .i64 (x : Int)) := by
  obtain ⟨hl, h⟩ := h
  rcases h with ⟨_, h0⟩ | ⟨g, cap, cur, rfl, hb, hg, hc, hm, hcs, ht⟩
  · omega
  · refine ⟨g, cap, rfl, hb, by simpa using hc, (Array.getElem?_eq_some_iff.1 hg).1, fun j x hx => ?_⟩
    have h1 : (iv l)[j]? = some (.int .i64 (x : Int)) := by unfold iv; rw [List.getElem?_map, hx]; rfl
    rw [← ht, List.getElem?_take] at h1
    split at h1
    · rw [cell_of_row W g j cur e (0, 0) hg]; simpa using h1
    · cases h1
def prm (t : Nat) : Nat := primesL.getD t 0
theorem prm_lt : ∀ t, t < 80 → prm t < 512 := by decide
theorem prm_get {t : Nat} (ht : t < 80) : (List.take 80 primesL)[t]? = some (prm t) := by
  have hl : t < primesL.length := by rw [primesL_length]; exact ht
  rw [List.getElem?_take_of_lt ht, List.getElem?_eq_getElem hl]
  unfold prm
  rw [List.getD, List.getElem?_eq_getElem hl]; rfl
theorem frac_cube (t : Nat) (ht : t < 80) (W : World) :
    Calls Tryd.prog 19 #[.int .i64 (prm t : Nat), .int .i64 3, .int .i64 64] W fun e W' => e = .returned (.int .u64 (wd (cube t))) ∧ Ext Nope W W' := by
  refine (fraction_any (4294967296 ^ 8) (Lib.hid rfl) (prm t) 3 64 (prm_lt t ht) (.inr rfl) (.inr rfl) W).mono ?_
  rintro e w ⟨rfl, hx⟩
  refine ⟨?_, hx⟩
  unfold prm wd
  rw [cube_frac t ht]
theorem frac_square (t : Nat) (ht : t < 16) (W : World) :
    Calls Tryd.prog 19 #[.int .i64 (prm t : Nat), .int .i64 2, .int .i64 64] W fun e W' => e = .returned (.int .u64 (wd (sqr t))) ∧ Ext Nope W W' := by
  refine (fraction_any (4294967296 ^ 8) (Lib.hid rfl) (prm t) 2 64 (prm_lt t (by omega)) (.inl rfl) (.inr rfl) W).mono ?_
  rintro e w ⟨rfl, hx⟩
  refine ⟨?_, hx⟩
  unfold prm wd
  rw [square_frac t ht]

/-- the loops of a piece of code that stand inside no other -/
def loopsOf : Code → List Code
  | .loop c => [c]
  | .seq a b => loopsOf a ++ loopsOf b
  | .block _ c => loopsOf c
  | .scope c => loopsOf c
  | .cond _ a b => loopsOf a ++ loopsOf b
  | _ => []
noncomputable def refLoop (k : Nat) : Code := ((Tryd.f9.body.map loopsOf).getD []).getD k .skip

theorem wp_code {P : Program} {c c' : Code} {Q : Exit → Act → World → Prop} {a : Act} {w : World} (h : c = c') (h' : Code.wp P c' Q a w) : Code.wp P c Q a w := by rw [h]; exact h'

set_option maxRecDepth 1000000 in
set_option maxHeartbeats 40000000 in
theorem blocks_loop (W w4 : World) (bk gm N q cm : Nat) (ini : H8) (L : List (BitVec 8)) (Q0 : Exit → Act → World → Prop) (c0 c1 c2 c3 c4 c5 c6 c7 c10 c11 c14 c15 c16 c17 c18 c19 c20 c21 c22 c23 c24 c25 c26 c27 c28 c29 c30 c31 c32 c33 c34 c35 c36 c37 c38 c39 c40 c41 c42 c43 c44 c45 c46 c47 c48 c49 c50 c51 c52 c53 c54 c55 c56 c57 c58 c59 c60 c61 c62 c63 c64 c65 c66 c67 c68 c69 c70 c71 c72 c73 c74 c75 c76 c77 c78 c79 c80 c81 c82 c83 c84 c85 c86 c87 c88 c89 c90 c91 c92 c93 c94 c95 c96 c97 c98 c99 c100 c101 c102 c103 c104 c105 c106 c107 c108 c109 c110 c111 c112 c113 c114 c115 c116 c117 c118 c119 c120 c121 c122 c123 c124 c125 c126 c127 c128 c129 c130 c131 c132 c133 c134 c135 c136 c137 c138 c139 c140 c141 c142 c143 c144 c145 c146 c147 c148 c149 c150 c151 c152 c153 c154 c155 c156 c157 c158 c159 c160 c161 c162 c163 c164 c165 c166 c167 c168 c169 c170 c171 c172 c173 c174 c175 c176 c177 c178 c179 c180 c181 c182 c183 c184 c185 c186 c187 c188 c189 c190 c191 c192 c193 c194 c195 c196 c197 c198 c199 c200 c201 c202 c203 c204 c205 c206 c207 c208 c209 c210 c211 c212 c213 c214 c215 c216 c217 c218 c219 c220 c221 c222 c223 c224 c225 c226 c227 c228 c229 c230 c231 c232 c233 c234 c235 c236 c237 c238 c239 c240 c241 c242 c243 c244 c245 c246 c247 c248 c249 c250 c251 c252 c253 c254 c255 c256 c257 c258 c259 c260 c261 c262 c263 c264 c265 c266 : Value)
    (HLN : Hid (L.length = N)) (HQ : Hid (N = 128 * q)) (hNl : N ≤ 200000) (hcm : N ≤ cm) (HG0 : Hid (bk + 2 ≤ gm)) (HG1 : Hid (gm < w4.heap.size)) (HLTH : Hid (bk + 2 ≤ w4.heap.size))
    (HGM : Hid (∀ (j : Nat) (c : BitVec 8), L[j]? = some c → w4.cell? ⟨gm, j, none⟩ = some (.int .u8 (wd c))))
    (HK4 : Hid (∀ V, Ext (Just (bk + 1)) w4 V → ∀ j, j < 80 → V.cell? ⟨bk, j, none⟩ = some (.int .u64 (wd (cube j)))))
    (HS4 : Hid (WArr w4 (bk + 1) 38 8 (hws ini)))
    (HEX : Hid (∀ (u13 u14 u15 u16 u17 u18 u19 u20 u21 u22 u23 u24 u25 u26 u76 u77 u78 u79 u80 u81 u82 u83 u84 u85 u86 u87 u88 u89 u90 u91 u92 u93 u94 u95 u96 u97 u98 u99 u100 u101 u102 u103 u104 u105 u106 u107 u108 u109 u110 u111 u112 u113 u114 u115 u116 u117 u118 u119 u120 u121 u122 u123 u124 u125 u126 u127 u128 u129 u130 u131 u132 u133 u134 u135 u136 u137 u138 u139 u140 u141 u142 u143 u144 u145 u146 u147 u148 u149 u150 u151 u152 u153 u154 u155 u156 u157 u158 u159 u160 u161 u162 u163 u164 u165 u166 u167 u168 u169 u170 u171 u172 u173 u174 u175 u176 u177 u178 u179 u180 u181 u182 u183 u184 u185 u186 u187 u188 u189 u190 u191 u192 u193 u194 u195 u196 u197 u198 u199 u200 u201 u202 u203 u204 u205 u206 u207 u208 u209 u210 u211 u212 u213 u214 u215 u216 u217 u218 u219 u220 u221 u222 u223 u224 u225 u226 u227 u228 u229 u230 u231 u232 u233 u234 u235 u236 u237 u238 u239 u240 u241 : Value) (V : World), WArr V (bk + 1) 38 8 (hws (turns ini L)) → Ext (Just (bk + 1)) w4 V → Q0 (.exit 4) ⟨List.toArray (c0 :: c1 :: c2 :: c3 :: c4 :: c5 :: c6 :: c7 :: .pointer (some ⟨bk, 0, none⟩) :: .pointer (some ⟨bk + 1, 0, none⟩) :: c10 :: c11 :: .slice (some ⟨gm, 0, none⟩) N cm :: u13 :: u14 :: u15 :: u16 :: u17 :: u18 :: u19 :: u20 :: u21 :: u22 :: u23 :: u24 :: u25 :: u26 :: c27 :: c28 :: c29 :: c30 :: c31 :: c32 :: c33 :: c34 :: c35 :: c36 :: c37 :: c38 :: c39 :: c40 :: c41 :: c42 :: c43 :: c44 :: c45 :: c46 :: c47 :: c48 :: c49 :: c50 :: c51 :: c52 :: c53 :: c54 :: c55 :: c56 :: c57 :: c58 :: c59 :: c60 :: c61 :: c62 :: c63 :: c64 :: c65 :: c66 :: c67 :: c68 :: c69 :: c70 :: c71 :: c72 :: c73 :: c74 :: c75 :: u76 :: u77 :: u78 :: u79 :: u80 :: u81 :: u82 :: u83 :: u84 :: u85 :: u86 :: u87 :: u88 :: u89 :: u90 :: u91 :: u92 :: u93 :: u94 :: u95 :: u96 :: u97 :: u98 :: u99 :: u100 :: u101 :: u102 :: u103 :: u104 :: u105 :: u106 :: u107 :: u108 :: u109 :: u110 :: u111 :: u112 :: u113 :: u114 :: u115 :: u116 :: u117 :: u118 :: u119 :: u120 :: u121 :: u122 :: u123 :: u124 :: u125 :: u126 :: u127 :: u128 :: u129 :: u130 :: u131 :: u132 :: u133 :: u134 :: u135 :: u136 :: u137 :: u138 :: u139 :: u140 :: u141 :: u142 :: u143 :: u144 :: u145 :: u146 :: u147 :: u148 :: u149 :: u150 :: u151 :: u152 :: u153 :: u154 :: u155 :: u156 :: u157 :: u158 :: u159 :: u160 :: u161 :: u162 :: u163 :: u164 :: u165 :: u166 :: u167 :: u168 :: u169 :: u170 :: u171 :: u172 :: u173 :: u174 :: u175 :: u176 :: u177 :: u178 :: u179 :: u180 :: u181 :: u182 :: u183 :: u184 :: u185 :: u186 :: u187 :: u188 :: u189 :: u190 :: u191 :: u192 :: u193 :: u194 :: u195 :: u196 :: u197 :: u198 :: u199 :: u200 :: u201 :: u202 :: u203 :: u204 :: u205 :: u206 :: u207 :: u208 :: u209 :: u210 :: u211 :: u212 :: u213 :: u214 :: u215 :: u216 :: u217 :: u218 :: u219 :: u220 :: u221 :: u222 :: u223 :: u224 :: u225 :: u226 :: u227 :: u228 :: u229 :: u230 :: u231 :: u232 :: u233 :: u234 :: u235 :: u236 :: u237 :: u238 :: u239 :: u240 :: u241 :: c242 :: c243 :: c244 :: c245 :: c246 :: c247 :: c248 :: c249 :: c250 :: c251 :: c252 :: c253 :: c254 :: c255 :: c256 :: c257 :: c258 :: c259 :: c260 :: c261 :: c262 :: c263 :: c264 :: c265 :: c266 :: []), []⟩ V)) :
    Code.wp Tryd.prog (Code.loop (refLoop 2)) Q0 ⟨List.toArray (c0 :: c1 :: c2 :: c3 :: c4 :: c5 :: c6 :: c7 :: .pointer (some ⟨bk, 0, none⟩) :: .pointer (some ⟨bk + 1, 0, none⟩) :: c10 :: c11 :: .slice (some ⟨gm, 0, none⟩) N cm :: .int .i64 0 :: c14 :: c15 :: c16 :: c17 :: c18 :: c19 :: c20 :: c21 :: c22 :: c23 :: c24 :: c25 :: c26 :: c27 :: c28 :: c29 :: c30 :: c31 :: c32 :: c33 :: c34 :: c35 :: c36 :: c37 :: c38 :: c39 :: c40 :: c41 :: c42 :: c43 :: c44 :: c45 :: c46 :: c47 :: c48 :: c49 :: c50 :: c51 :: c52 :: c53 :: c54 :: c55 :: c56 :: c57 :: c58 :: c59 :: c60 :: c61 :: c62 :: c63 :: c64 :: c65 :: c66 :: c67 :: c68 :: c69 :: c70 :: c71 :: c72 :: c73 :: c74 :: c75 :: c76 :: c77 :: c78 :: c79 :: c80 :: c81 :: c82 :: c83 :: c84 :: c85 :: c86 :: c87 :: c88 :: c89 :: c90 :: c91 :: c92 :: c93 :: c94 :: c95 :: c96 :: c97 :: c98 :: c99 :: c100 :: c101 :: c102 :: c103 :: c104 :: c105 :: c106 :: c107 :: c108 :: c109 :: c110 :: c111 :: c112 :: c113 :: c114 :: c115 :: c116 :: c117 :: c118 :: c119 :: c120 :: c121 :: c122 :: c123 :: c124 :: c125 :: c126 :: c127 :: c128 :: c129 :: c130 :: c131 :: c132 :: c133 :: c134 :: c135 :: c136 :: c137 :: c138 :: c139 :: c140 :: c141 :: c142 :: c143 :: c144 :: c145 :: c146 :: c147 :: c148 :: c149 :: c150 :: c151 :: c152 :: c153 :: c154 :: c155 :: c156 :: c157 :: c158 :: c159 :: c160 :: c161 :: c162 :: c163 :: c164 :: c165 :: c166 :: c167 :: c168 :: c169 :: c170 :: c171 :: c172 :: c173 :: c174 :: c175 :: c176 :: c177 :: c178 :: c179 :: c180 :: c181 :: c182 :: c183 :: c184 :: c185 :: c186 :: c187 :: c188 :: c189 :: c190 :: c191 :: c192 :: c193 :: c194 :: c195 :: c196 :: c197 :: c198 :: c199 :: c200 :: c201 :: c202 :: c203 :: c204 :: c205 :: c206 :: c207 :: c208 :: c209 :: c210 :: c211 :: c212 :: c213 :: c214 :: c215 :: c216 :: c217 :: c218 :: c219 :: c220 :: c221 :: c222 :: c223 :: c224 :: c225 :: c226 :: c227 :: c228 :: c229 :: c230 :: c231 :: c232 :: c233 :: c234 :: c235 :: c236 :: c237 :: c238 :: c239 :: c240 :: c241 :: c242 :: c243 :: c244 :: c245 :: c246 :: c247 :: c248 :: c249 :: c250 :: c251 :: c252 :: c253 :: c254 :: c255 :: c256 :: c257 :: c258 :: c259 :: c260 :: c261 :: c262 :: c263 :: c264 :: c265 :: c266 :: []), []⟩ w4 := by
  conv => arg 2; arg 1; whnf
  have HT0 : Hid (turnsL ini L (List.range 0) = ini) := rfl
  go_loopw [13] (fun vi V => ∃ (t at0 : Nat), t ≤ q ∧ at0 = 128 * t ∧ vi = .int .i64 at0 ∧ WArr V (bk + 1) 38 8 (hws (turnsL ini L (List.range t))) ∧ Ext (Just (bk + 1)) w4 V) (fun i _ => N - (intOf i).toNat)
  case atStart => exact ⟨0, 0, by omega, rfl, rfl, HS4.out, Ext.refl _ _⟩
  case round =>
    obtain ⟨t, at0, ht, hat, rfl, hs, hx⟩ := hrel
    have HS := Lib.hid hs
    have HX := Lib.hid hx
    have HAT := Lib.hid hat
    obtain ⟨S, hS⟩ : ∃ S, turnsL ini L (List.range t) = S := ⟨_, rfl⟩
    rw [hS] at HS
    have HSE := Lib.hid hS
    clear hs hx hat hS
    by_cases hlt : t < q
    · have hltI : (at0 : Int) < (N : Int) := by have := HQ.out; have := HAT.out; omega
      have hz := zero80
      have HZ1 := Lib.hid (warr80N wr)
      have hatl : at0 + 128 ≤ N := by have := HQ.out; have := HAT.out; omega
      obtain ⟨bl, hbl⟩ : ∃ bl, (L.drop (128 * t)).take 128 = bl := ⟨_, rfl⟩
      have HBL := Lib.hid hbl
      have HBC : Hid (∀ V, Ext (Just (bk + 1)) w4 V → ∀ x, x < 128 → ∃ c, bl[x]? = some c ∧ V.cell? ⟨gm, at0 + x, none⟩ = some (.int .u8 (wd c))) := fun V hx x hx1 => by
        have h1 : at0 + x < L.length := by rw [HLN.out]; omega
        refine ⟨L[at0 + x], ?_, hx.cell (HGM.out _ _ (List.getElem?_eq_getElem h1)) (fun h => by have := HG0.out; have := HLTH.out; simp only [Just] at h; omega)⟩
        rw [← HBL.out, List.getElem?_take_of_lt hx1, List.getElem?_drop, ← HAT.out, List.getElem?_eq_getElem h1]
      clear hbl
      go_wp2_with fail
      obtain ⟨W5, hW5, hw5, hx5, hs5⟩ := HZ1.out
      rw [hW5]
      have HX5 : Hid (Ext (Just (bk + 1)) w4 W5) := HX.out.trans hx5 (fun _ _ h => h) (fun _ _ h => h.elim)
      have HW5 : Hid (WArr W5 wr.heap.size 50 80 (wfun bl 0)) := by rw [wfun_zero]; exact hw5
      have HS5 : Hid (WArr W5 (bk + 1) 38 8 (hws S)) := HS.out.ext hx5 (fun h => h)
      have HSZ5 := Lib.hid hs5
      obtain ⟨bw, hbw⟩ : ∃ bw, wr.heap.size = bw := ⟨_, rfl⟩
      have HBW : Hid (w4.heap.size ≤ bw) := by rw [← hbw]; exact HX.out.size
      rw [hbw] at HW5 HSZ5 ⊢
      have hkl := HS.out.lt
      rw [hbw] at hkl
      have HKL := Lib.hid hkl
      clear hz HZ1 hW5 hw5 hx5 hs5 HS HX hbw hkl
      go_loopw [15] (fun vi V => ∃ (i : Nat), i ≤ 16 ∧ vi = .int .i64 i ∧ WArr V bw 50 80 (wfun bl i) ∧ Ext (Just bw) W5 V) (fun i _ => 16 - (intOf i).toNat)
      case atStart => exact ⟨0, by omega, rfl, HW5.out, Ext.refl _ _⟩
      case round =>
        obtain ⟨i, hi, rfl, hw, hx⟩ := hrel
        have HW := Lib.hid hw
        have HX := Lib.hid hx
        clear hw hx
        by_cases hlt2 : i < 16
        · have hlt2I : (i : Int) < 16 := by omega
          obtain ⟨wi, hwi⟩ : ∃ wi, wi = wr := ⟨_, rfl⟩
          go_wp2_with fail
          go_loopw [16] (fun vn V => ∃ (k : Nat), k ≤ 8 ∧ vn = .int .i64 k ∧ WArr V bw 50 80 (updw (wfun bl i) i (be64 ((bl.drop (8 * i)).take k))) ∧ Ext (Just bw) W5 V) (fun i _ => 8 - (intOf i).toNat)
          case atStart => exact ⟨0, by omega, rfl, by rw [wfun_start]; exact HW.out, HX.out⟩
          case round =>
            obtain ⟨k, hk, rfl, hw, hx⟩ := hrel
            have HW2 := Lib.hid hw
            have HX2 := Lib.hid hx
            clear hw hx
            by_cases hlt3 : k < 8
            · have hlt3I : (k : Int) < 8 := by omega
              obtain ⟨c, hc1, hc2⟩ := HBC.out _ (Ext.refl _ _) (8 * i + k) (by omega)
              have hc3 := HX2.out.cell (HX5.out.cell hc2 (fun h => by have := HG0.out; have := HLTH.out; simp only [Just] at h; omega)) (fun h => by have := HG1.out; have := HBW.out; simp only [Just] at h; omega)
              have HN := Lib.hid (be64_next bl i k c hc1)
              have hixI : (at0 : Int) + 8 * (i : Int) + (k : Int) = ((at0 + (8 * i + k) : Nat) : Int) := by omega
              have hcw := HW2.out.cell (j := i) (by omega)
              rw [updw_at] at hcw
              have hfr := HW2.out.free
              obtain ⟨x, hxx⟩ : ∃ x, be64 ((bl.drop (8 * i)).take k) = x := ⟨_, rfl⟩
              rw [hxx] at HN hcw HW2
              have hbt : at0 + (8 * i + k) < N := by omega
              obtain ⟨ix, hix⟩ : ∃ ix, at0 + (8 * i + k) = ix := ⟨_, rfl⟩
              rw [hix] at hc3 hixI hbt
              clear hc1 hc2 hxx hix
              go_wp2_with fail
              refine (wpIn_wide (n := 0)).1 (wpIn_region_quiet_tail (r := none) 17 (by kernel_rfl) (by kernel_rfl) (by kernel_rfl) ?_)
              simp only [List.take_succ_cons, List.take_zero, List.drop_succ_cons, List.drop_zero]
              repeat (go_big_quiet_step (fail))
              refine wpQuiet_nil ?_
              rintro _ ⟨nq, rfl⟩
              rw [fr_none]
              gi_wp2_with fail
              go_wp2_with fail
              rw [refword_step]
              have HST := HW2.out.set i (x <<< 8 ||| c.setWidth 64)
              rw [updw_updw, ← HN.out] at HST
              refine ⟨⟨k + 1, by omega, by congr 1, ?_, (HX2.out.trans (Ext.drewN Nope wr nq) (E := Just bw) (fun _ _ h => h) (fun _ _ h => h.elim)).setCells _ _⟩, by simp [intOf]; omega⟩
              rw [← HN.out]; exact HST
            · obtain rfl : k = 8 := by omega
              have HW3 : Hid (WArr wr bw 50 80 (wfun bl (i + 1))) := by have := HW2.out; rw [wfun_step] at this; exact this
              clear HW2
              go_wp2_with fail
              exact ⟨⟨i + 1, by omega, by congr 1, HW3.out, HX2.out⟩, by simp [intOf]; omega⟩
        · obtain rfl : i = 16 := by omega
          have HW6 : Hid (WArr wr bw 50 80 (wfun bl 16)) := HW.out
          obtain ⟨w6, hw6⟩ : ∃ w6, w6 = wr := ⟨_, rfl⟩
          subst hw6
          have HX6 : Hid (Ext (Just bw) W5 w6) := HX.out
          clear HX HW HW5 HBC
          go_wp2_with fail
          go_loopw [17] (fun vi V => ∃ (i : Nat) (f : Nat → BitVec 64), 16 ≤ i ∧ i ≤ 80 ∧ vi = .int .i64 i ∧ WArr V bw 50 80 f ∧ (∀ j, j < i → f j = wordAt (blk64 bl) j) ∧ Ext (Just bw) W5 V) (fun i _ => 80 - (intOf i).toNat)
          case atStart => exact ⟨16, _, by omega, by omega, rfl, HW6.out, fun j hj => by unfold wfun; rw [if_pos hj, wordAt_lo _ hj], HX6.out⟩
          case round =>
            obtain ⟨i, f, hi16, hi, rfl, hw, hf, hx⟩ := hrel
            have HW := Lib.hid hw
            have HF := Lib.hid hf
            have HX := Lib.hid hx
            clear hw hf hx
            by_cases hlt2 : i < 80
            · have hlt2I : (i : Int) < 80 := by omega
              have h15 : (i : Int) - 15 = ((i - 15 : Nat) : Int) := by omega
              have h2 : (i : Int) - 2 = ((i - 2 : Nat) : Int) := by omega
              have h16 : (i : Int) - 16 = ((i - 16 : Nat) : Int) := by omega
              have h7 : (i : Int) - 7 = ((i - 7 : Nat) : Int) := by omega
              have hfr := HW.out.free
              have c15 := HW.out.cell (j := i - 15) (by omega)
              have c2 := HW.out.cell (j := i - 2) (by omega)
              have c16 := HW.out.cell (j := i - 16) (by omega)
              have c7 := HW.out.cell (j := i - 7) (by omega)
              have ci := HW.out.cell hlt2
              rw [HF.out _ (by omega)] at c15 c2 c16 c7
              have HA := Lib.hid (wordAt_hi (blk64 bl) hi16)
              generalize wordAt (blk64 bl) (i - 15) = x15 at c15 HA
              generalize wordAt (blk64 bl) (i - 2) = x2 at c2 HA
              generalize wordAt (blk64 bl) (i - 7) = x7 at c7 HA
              generalize wordAt (blk64 bl) (i - 16) = x16 at c16 HA
              go_wp2_with fail
              have ua := u64_add
              have ux := u64_xor
              refine (wpIn_wide (n := 0)).1 (wpIn_region_quiet_tail (r := none) 29 (by kernel_rfl) (by kernel_rfl) (by kernel_rfl) ?_)
              simp only [List.take_succ_cons, List.take_zero, List.drop_succ_cons, List.drop_zero]
              iterate 11 (go_big_quiet_step (fail))
              go_big_quiet_step (exact Calls.quiet_of_same (flip_w (right_any x15 1 (by omega) _)))
              iterate 1 (go_big_quiet_step (fail))
              go_big_quiet_step (exact Calls.quiet_of_same (flip_w (right_any x15 8 (by omega) _)))
              iterate 2 (go_big_quiet_step (fail))
              go_big_quiet_step (exact Calls.quiet_of_same (flip_w (down_any x15 7 (by omega) _)))
              iterate 3 (go_big_quiet_step (fail))
              go_big_quiet_step (exact Calls.quiet_of_same (flip_w (right_any x2 19 (by omega) _)))
              iterate 1 (go_big_quiet_step (fail))
              go_big_quiet_step (exact Calls.quiet_of_same (flip_w (right_any x2 61 (by omega) _)))
              iterate 2 (go_big_quiet_step (fail))
              go_big_quiet_step (exact Calls.quiet_of_same (flip_w (down_any x2 6 (by omega) _)))
              repeat (go_big_quiet_step (fail))
              refine wpQuiet_nil ?_
              rintro _ ⟨nq, rfl⟩
              rw [fr_none]
              clear ua ux
              gi_wp2_with fail
              go_wp2_with fail
              have HST := HW.out.set i (x16 + x7 + (x15.rotateRight 1 ^^^ x15.rotateRight 8 ^^^ x15 >>> 7) + (x2.rotateRight 19 ^^^ x2.rotateRight 61 ^^^ x2 >>> 6))
              exact ⟨⟨i + 1, _, by omega, by omega, by congr 1, HST, fun j hj => by
                by_cases e : j = i
                · subst e; rw [updw_at, HA.out, ref_sched]
                · rw [updw_ne _ _ e]; exact HF.out j (by omega), (HX.out.trans (Ext.drewN Nope wr nq) (E := Just bw) (fun _ _ h => h) (fun _ _ h => h.elim)).setCells _ _⟩, by simp [intOf]; omega⟩
            · obtain rfl : i = 80 := by omega
              have hwa := HW.out.same (g := wordAt (blk64 bl)) HF.out
              have HSR : Hid (WArr wr (bk + 1) 38 8 (hws S)) := HS5.out.ext HX.out (fun h => by have := HKL.out; simp only [Just] at h; omega)
              have HKR : Hid (∀ j, j < 80 → wr.cell? ⟨bk, j, none⟩ = some (.int .u64 (wd (cube j)))) := fun j hj => HX.out.cell (HK4.out _ HX5.out j hj) (fun h => by have := HKL.out; simp only [Just] at h; omega)
              have HWA := Lib.hid hwa
              clear hwa HF HW HX6 HW6 HS5
              have e0 : wr.cell? ⟨bk + 1, 0, none⟩ = some (.int .u64 (wd S.a)) := HSR.out.cell (by omega)
              have e1 : wr.cell? ⟨bk + 1, 1, none⟩ = some (.int .u64 (wd S.b)) := HSR.out.cell (by omega)
              have e2 : wr.cell? ⟨bk + 1, 2, none⟩ = some (.int .u64 (wd S.c)) := HSR.out.cell (by omega)
              have e3 : wr.cell? ⟨bk + 1, 3, none⟩ = some (.int .u64 (wd S.d)) := HSR.out.cell (by omega)
              have e4 : wr.cell? ⟨bk + 1, 4, none⟩ = some (.int .u64 (wd S.e)) := HSR.out.cell (by omega)
              have e5 : wr.cell? ⟨bk + 1, 5, none⟩ = some (.int .u64 (wd S.f)) := HSR.out.cell (by omega)
              have e6 : wr.cell? ⟨bk + 1, 6, none⟩ = some (.int .u64 (wd S.g)) := HSR.out.cell (by omega)
              have e7 : wr.cell? ⟨bk + 1, 7, none⟩ = some (.int .u64 (wd S.h)) := HSR.out.cell (by omega)
              have HAL := Lib.hid (warr8N wr S)
              go_wp2_with fail
              obtain ⟨W7, hW7, hb7, hx7, hs7⟩ := HAL.out
              rw [hW7]
              obtain ⟨bs, hbs⟩ : ∃ bs, wr.heap.size = bs := ⟨_, rfl⟩
              rw [hbs] at hb7 hs7 ⊢
              have HBS : Hid (bw < bs) := by rw [← hbs]; exact HWA.out.lt
              have HK7 : Hid (∀ V, Ext (Just bs) W7 V → ∀ j, j < 80 → V.cell? ⟨bk, j, none⟩ = some (.int .u64 (wd (cube j)))) := fun V hx j hj =>
                hx.cell (hx7.cell (HKR.out j hj) (fun h => h)) (fun h => by have := HKL.out; have := HBS.out; simp only [Just] at h; omega)
              have HW7 : Hid (∀ V, Ext (Just bs) W7 V → ∀ j, j < 80 → V.cell? ⟨bw, j, none⟩ = some (.int .u64 (wd (wordAt (blk64 bl) j)))) := fun V hx j hj =>
                hx.cell (hx7.cell (HWA.out.cell hj) (fun h => h)) (fun h => by have := HBS.out; simp only [Just] at h; omega)
              have HS7 : Hid (WArr W7 (bk + 1) 38 8 (hws S)) := HSR.out.ext hx7 (fun h => h)
              have HX7 : Hid (Ext (Just (bk + 1)) w4 W7) := (HX5.out.trans HX.out (E := fun j => j = bk + 1 ∨ j = bw) (fun _ _ h => .inl h) (fun _ _ h => .inr h)).trans hx7 (E := Just (bk + 1)) (fun j hj h => h.resolve_right (by have := HBW.out; omega)) (fun _ _ h => h.elim)
              have HB7 := Lib.hid hb7
              clear e0 e1 e2 e3 e4 e5 e6 e7 HAL hW7 hb7 hx7 hs7 hbs HX HX5 HKR HSR HWA
              go_wp2_with fail
              go_loopw [21] (fun vi V => ∃ (i : Nat), i ≤ 80 ∧ vi = .int .i64 i ∧ V.heap[bs]? = some (.cells (h8cells (rounds5 S (told (blk64 bl) i))) 38 (0, 0)) ∧ Ext (Just bs) W7 V) (fun i _ => 80 - (intOf i).toNat)
              case atStart => exact ⟨0, by omega, rfl, HB7.out, Ext.refl _ _⟩
              case round =>
                obtain ⟨i, hi, rfl, hb, hx⟩ := hrel
                have HB := Lib.hid hb
                have HX := Lib.hid hx
                clear hb hx
                by_cases hlt2 : i < 80
                · have hlt2I : (i : Int) < 80 := by omega
                  have HR : Hid (rounds5 S (told (blk64 bl) (i + 1)) = round5 (rounds5 S (told (blk64 bl) i)) (cube i) (wordAt (blk64 bl) i)) := by rw [told_succ, rounds5_snoc]; exact rfl
                  have ck := HK7.out _ HX.out i hlt2
                  have cw := HW7.out _ HX.out i hlt2
                  generalize rounds5 S (told (blk64 bl) i) = r at HB HR
                  generalize wordAt (blk64 bl) i = wv1 at cw HR
                  generalize hcb : cube i = cv1 at ck HR
                  clear hcb
                  obtain ⟨d0, d1, d2, d3, d4, d5, d6, d7⟩ := h8_cells HB.out
                  go_wp2_with fail
                  have ua := u64_add
                  have ux := u64_xor
                  have uo := u64_or
                  have un := u64_and
                  have ut := wd_not
                  have ui := u64_id
                  refine wp_region_quiet_lit (by kernel_rfl) (by kernel_rfl) ?_
                  iterate 11 (go_big_quiet_step (fail))
                  go_big_quiet_step (exact Calls.quiet_of_same (flip_w (right_any r.e 14 (by omega) _)))
                  iterate 1 (go_big_quiet_step (fail))
                  go_big_quiet_step (exact Calls.quiet_of_same (flip_w (right_any r.e 18 (by omega) _)))
                  iterate 2 (go_big_quiet_step (fail))
                  go_big_quiet_step (exact Calls.quiet_of_same (flip_w (right_any r.e 41 (by omega) _)))
                  repeat (go_big_quiet_step (fail))
                  refine wpQuiet_nil ?_
                  rintro _ ⟨nq, rfl⟩
                  clear ua ux uo un ut ui d0 d1 d2 d3 d4 d5 d6 d7 ck cw
                  rw [ref_y]
                  generalize hY : r.h + cv1 + wv1 + bigS1 r.e + chOf r.e r.f r.g = Y
                  have HY := Lib.hid hY
                  clear hY
                  have hb1 : (wr.drewN nq).heap[bs]? = some (.cells (h8cells r) 38 (0, 0)) := HB.out
                  obtain ⟨d0, d1, d2, d3, d4, d5, d6, d7⟩ := h8_cells hb1
                  have HB1 := Lib.hid hb1
                  have HX1 : Hid (Ext (Just bs) W7 (wr.drewN nq)) := HX.out.trans (Ext.drewN Nope wr nq) (fun _ _ h => h) (fun _ _ h => h.elim)
                  obtain ⟨V1, hV1⟩ : ∃ V1, wr.drewN nq = V1 := ⟨_, rfl⟩
                  rw [hV1] at HB1 HX1 d0 d1 d2 d3 d4 d5 d6 d7 ⊢
                  clear hb1 hV1
                  go_wp2_with fail
                  have ua := u64_add
                  have ux := u64_xor
                  have uo := u64_or
                  have un := u64_and
                  refine wp_region_quiet_lit (by kernel_rfl) (by kernel_rfl) ?_
                  iterate 1 (go_big_quiet_step (fail))
                  go_big_quiet_step (exact Calls.quiet_of_same (flip_w (right_any r.a 28 (by omega) _)))
                  iterate 1 (go_big_quiet_step (fail))
                  go_big_quiet_step (exact Calls.quiet_of_same (flip_w (right_any r.a 34 (by omega) _)))
                  iterate 2 (go_big_quiet_step (fail))
                  go_big_quiet_step (exact Calls.quiet_of_same (flip_w (right_any r.a 39 (by omega) _)))
                  repeat (go_big_quiet_step (fail))
                  refine wpQuiet_nil ?_
                  rintro _ ⟨nq2, rfl⟩
                  clear ux uo un d0 d1 d2 d3 d4 d5 d6 d7
                  rw [ref_z]
                  generalize hZ : bigS0 r.a + majOf r.a r.b r.c = Z
                  have HZ := Lib.hid hZ
                  clear hZ
                  have hb2 : (V1.drewN nq2).heap[bs]? = some (.cells (h8cells r) 38 (0, 0)) := HB1.out
                  obtain ⟨d0, d1, d2, d3, d4, d5, d6, d7⟩ := h8_cells hb2
                  have hfz := block_free hb2
                  have HB2 := Lib.hid hb2
                  have HX2 : Hid (Ext (Just bs) W7 (V1.drewN nq2)) := HX1.out.trans (Ext.drewN Nope V1 nq2) (fun _ _ h => h) (fun _ _ h => h.elim)
                  obtain ⟨V2, hV2⟩ : ∃ V2, V1.drewN nq2 = V2 := ⟨_, rfl⟩
                  rw [hV2] at HB2 HX2 d0 d1 d2 d3 d4 d5 d6 d7 hfz ⊢
                  clear hb2 hV2
                  go_wp2_with fail
                  obtain ⟨hset, hx3⟩ := set8 HB2.out (.int .u64 (wd (Y + Z))) (.int .u64 (wd r.a)) (.int .u64 (wd r.b)) (.int .u64 (wd r.c)) (.int .u64 (wd (r.d + Y))) (.int .u64 (wd r.e)) (.int .u64 (wd r.f)) (.int .u64 (wd r.g))
                  refine ⟨⟨i + 1, by omega, by congr 1, ?_, HX2.out.trans hx3 (fun _ _ h => h) (fun _ _ h => h)⟩, by simp [intOf]; omega⟩
                  rw [HR.out]
                  unfold round5
                  rw [show r.h + cv1 + wv1 + bigS1 r.e + chOf r.e r.f r.g = Y from HY.out, show bigS0 r.a + majOf r.a r.b r.c = Z from HZ.out]
                  exact hset
                · obtain rfl : i = 80 := by omega
                  have HTS : Hid (turnS S bl = addS S (rounds5 S (told (blk64 bl) 80))) := rfl
                  generalize rounds5 S (told (blk64 bl) 80) = r at HB HTS
                  have hsa : WArr wr bs 38 8 (hws r) := ⟨h8cells r, HB.out, rfl, fun j hj => by
                    obtain rfl | rfl | rfl | rfl | rfl | rfl | rfl | rfl : j = 0 ∨ j = 1 ∨ j = 2 ∨ j = 3 ∨ j = 4 ∨ j = 5 ∨ j = 6 ∨ j = 7 := by omega
                    all_goals rfl⟩
                  have HSA := Lib.hid hsa
                  have HSB : Hid (WArr wr (bk + 1) 38 8 (hws S)) := HS7.out.ext HX.out (fun h => by have := HKL.out; have := HBS.out; simp only [Just] at h; omega)
                  have HXB : Hid (Ext (Just (bk + 1)) w4 wr) := (HX7.out.trans HX.out (E := fun j => j = bk + 1 ∨ j = bs) (fun _ _ h => .inl h) (fun _ _ h => .inr h)).mono (fun j hj h => h.resolve_right (by have := HBW.out; have := HBS.out; omega))
                  obtain ⟨w8, hw8⟩ : ∃ w8, w8 = wr := ⟨_, rfl⟩
                  subst hw8
                  clear hsa HX HB HK7 HW7 HX7 HS7 HB7
                  go_wp2_with fail
                  go_loopw [26] (fun vi V => ∃ (i : Nat), i ≤ 8 ∧ vi = .int .i64 i ∧ WArr V (bk + 1) 38 8 (fun j => if j < i then hws S j + hws r j else hws S j) ∧ Ext (Just (bk + 1)) w8 V) (fun i _ => 8 - (intOf i).toNat)
                  case atStart => exact ⟨0, by omega, rfl, HSB.out.same (fun j hj => by simp), Ext.refl _ _⟩
                  case round =>
                    obtain ⟨i, hi, rfl, hb, hx⟩ := hrel
                    have HB := Lib.hid hb
                    have HX := Lib.hid hx
                    clear hb hx
                    by_cases hlt2 : i < 8
                    · have hlt2I : (i : Int) < 8 := by omega
                      have ch := HB.out.cell hlt2
                      have hfr := HB.out.free
                      rw [if_neg (Nat.lt_irrefl i)] at ch
                      have cs := (HSA.out.ext HX.out (fun h => by have := HKL.out; have := HBS.out; simp only [Just] at h; omega)).cell hlt2
                      have ua := u64_add
                      go_wp2_with fail
                      refine (wpIn_wide (n := 0)).1 (wpIn_region_quiet_tail (r := none) 9 (by kernel_rfl) (by kernel_rfl) (by kernel_rfl) ?_)
                      simp only [List.take_succ_cons, List.take_zero, List.drop_succ_cons, List.drop_zero]
                      repeat (go_big_quiet_step (fail))
                      refine wpQuiet_nil ?_
                      rintro _ ⟨nq, rfl⟩
                      rw [fr_none]
                      clear ua
                      gi_wp2_with fail
                      go_wp2_with fail
                      have HST := HB.out.set i (hws S i + hws r i)
                      exact ⟨⟨i + 1, by omega, by congr 1, HST.same (fun j hj => by
                        by_cases e : j = i
                        · subst e; rw [updw_at, if_pos (by omega)]
                        · rw [updw_ne _ _ e]
                          by_cases e2 : j < i
                          · rw [if_pos e2, if_pos (by omega)]
                          · rw [if_neg e2, if_neg (by omega)]), (HX.out.trans (Ext.drewN Nope wr nq) (E := Just (bk + 1)) (fun _ _ h => h) (fun _ _ h => h.elim)).setCells _ _⟩, by simp [intOf]; omega⟩
                    · obtain rfl : i = 8 := by omega
                      go_wp2_with fail
                      refine ⟨⟨t + 1, at0 + 128, by omega, by have := HAT.out; omega, by congr 1, ?_, HXB.out.trans HX.out (fun _ _ h => h) (fun _ _ h => h)⟩, by simp [intOf]; omega⟩
                      rw [List.range_succ, turnsL_snoc, HSE.out, HBL.out, HTS.out]
                      exact HB.out.same (fun j hj => by rw [if_pos hj, hws_add _ _ _ hj])
    · obtain rfl : t = q := by omega
      have hltI : ¬ ((at0 : Int) < (N : Int)) := by have := HQ.out; have := HAT.out; omega
      have HSF : Hid (S = turns ini L) := by rw [← HSE.out]; unfold Hid turns; rw [HLN.out, HQ.out, Nat.mul_div_cancel_left _ (by omega)]
      have HSR : Hid (WArr wr (bk + 1) 38 8 (hws (turns ini L))) := by have := HS.out; rw [HSF.out] at this; exact this
      go_wp2_with fail
      exact HEX.out _ _ _ _ _ _ _ _ _ _ _ _ _ _ _ _ _ _ _ _ _ _ _ _ _ _ _ _ _ _ _ _ _ _ _ _ _ _ _ _ _ _ _ _ _ _ _ _ _ _ _ _ _ _ _ _ _ _ _ _ _ _ _ _ _ _ _ _ _ _ _ _ _ _ _ _ _ _ _ _ _ _ _ _ _ _ _ _ _ _ _ _ _ _ _ _ _ _ _ _ _ _ _ _ _ _ _ _ _ _ _ _ _ _ _ _ _ _ _ _ _ _ _ _ _ _ _ _ _ _ _ _ _ _ _ _ _ _ _ _ _ _ _ _ _ _ _ _ _ _ _ _ _ _ _ _ _ _ _ _ _ _ _ _ _ _ _ _ _ _ _ _ _ _ _ _ _ _ _ _ _ HSR.out HX.out
end Go.Proofs.YtcjcnpjedmpghaaDoor
