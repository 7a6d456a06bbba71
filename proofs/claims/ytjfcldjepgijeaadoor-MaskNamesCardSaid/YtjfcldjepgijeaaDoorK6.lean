/- SHA-256 as plain functions on words. No program stands here. -/
import Derived.Test.YtjfcldjepgijeaaDoorWd
namespace Go.Proofs.YtjfcldjepgijeaaDoor

/-- the numbers of the rounds -/
def kubesL : List Nat := [1116352408, 1899447441, 3049323471, 3921009573, 961987163, 1508970993, 2453635748, 2870763221, 3624381080, 310598401, 607225278, 1426881987, 1925078388, 2162078206, 2614888103, 3248222580, 3835390401, 4022224774, 264347078, 604807628, 770255983, 1249150122, 1555081692, 1996064986, 2554220882, 2821834349, 2952996808, 3210313671, 3336571891, 3584528711, 113926993, 338241895, 666307205, 773529912, 1294757372, 1396182291, 1695183700, 1986661051, 2177026350, 2456956037, 2730485921, 2820302411, 3259730800, 3345764771, 3516065817, 3600352804, 4094571909, 275423344, 430227734, 506948616, 659060556, 883997877, 958139571, 1322822218, 1537002063, 1747873779, 1955562222, 2024104815, 2227730452, 2361852424, 2428436474, 2756734187, 3204031479, 3329325298]
/-- the first states: of SHA-224, of SHA-256 -/
def firstL : List Nat := [3238371032, 914150663, 812702999, 4144912697, 4290775857, 1750603025, 1694076839, 3204075428, 1779033703, 3144134277, 1013904242, 2773480762, 1359893119, 2600822924, 528734635, 1541459225]
def kube (t : Nat) : BitVec 32 := BitVec.ofNat 32 (kubesL.getD t 0)
def fst6 (i : Nat) : BitVec 32 := BitVec.ofNat 32 (firstL.getD i 0)

/-- a state's words -/
structure G8 where
  a : BitVec 32
  b : BitVec 32
  c : BitVec 32
  d : BitVec 32
  e : BitVec 32
  f : BitVec 32
  g : BitVec 32
  h : BitVec 32

def init224 : G8 := ⟨fst6 0, fst6 1, fst6 2, fst6 3, fst6 4, fst6 5, fst6 6, fst6 7⟩
def init256 : G8 := ⟨fst6 8, fst6 9, fst6 10, fst6 11, fst6 12, fst6 13, fst6 14, fst6 15⟩
def gS0 (x : BitVec 32) : BitVec 32 := x.rotateRight 2 ^^^ x.rotateRight 13 ^^^ x.rotateRight 22
def gS1 (x : BitVec 32) : BitVec 32 := x.rotateRight 6 ^^^ x.rotateRight 11 ^^^ x.rotateRight 25
def gch (e f g : BitVec 32) : BitVec 32 := g ^^^ e &&& (f ^^^ g)
def gmaj (a b c : BitVec 32) : BitVec 32 := a &&& b ||| c &&& (a ||| b)
/-- one round -/
def round6 (s : G8) (k w : BitVec 32) : G8 :=
  let y := s.h + k + w + gS1 s.e + gch s.e s.f s.g
  let z := gS0 s.a + gmaj s.a s.b s.c
  ⟨y + z, s.a, s.b, s.c, s.d + y, s.e, s.f, s.g⟩
def rounds6 (s : G8) (l : List (Nat × BitVec 32)) : G8 := l.foldl (fun s x => round6 s (kube x.1) x.2) s
theorem rounds6_snoc (s : G8) (l : List (Nat × BitVec 32)) (x : Nat × BitVec 32) : rounds6 s (l ++ [x]) = round6 (rounds6 s l) (kube x.1) x.2 := by simp [rounds6]
def addG (s r : G8) : G8 := ⟨s.a + r.a, s.b + r.b, s.c + r.c, s.d + r.d, s.e + r.e, s.f + r.f, s.g + r.g, s.h + r.h⟩
def gwords (s : G8) : List (BitVec 32) := [s.a, s.b, s.c, s.d, s.e, s.f, s.g, s.h]
def gws (s : G8) (j : Nat) : BitVec 32 := (gwords s).getD j 0
theorem gws_add (s r : G8) (j : Nat) (hj : j < 8) : gws (addG s r) j = gws s j + gws r j := by
  obtain rfl | rfl | rfl | rfl | rfl | rfl | rfl | rfl : j = 0 ∨ j = 1 ∨ j = 2 ∨ j = 3 ∨ j = 4 ∨ j = 5 ∨ j = 6 ∨ j = 7 := by omega
  all_goals rfl

/-- a word out of four bytes -/
def be32 (l : List (BitVec 8)) (t : Nat) : BitVec 32 :=
  (l.getD (4 * t) 0).setWidth 32 <<< 24 ||| (l.getD (4 * t + 1) 0).setWidth 32 <<< 16 ||| (l.getD (4 * t + 2) 0).setWidth 32 <<< 8 ||| (l.getD (4 * t + 3) 0).setWidth 32
def t0 (x : BitVec 32) : BitVec 32 := x.rotateRight 7 ^^^ x.rotateRight 18 ^^^ x >>> 3
def t1 (x : BitVec 32) : BitVec 32 := x.rotateRight 17 ^^^ x.rotateRight 19 ^^^ x >>> 10
/-- the words, the last one first -/
def wordsRev6 (m : Nat → BitVec 32) : Nat → List (BitVec 32)
  | 0 => []
  | t + 1 => (if t < 16 then m t else (wordsRev6 m t).getD 15 0 + (wordsRev6 m t).getD 6 0 + t0 ((wordsRev6 m t).getD 14 0) + t1 ((wordsRev6 m t).getD 1 0)) :: wordsRev6 m t
def word6 (m : Nat → BitVec 32) (t : Nat) : BitVec 32 := (wordsRev6 m (t + 1)).getD 0 0
theorem wordsRev6_get (m : Nat → BitVec 32) (t i : Nat) (h : i < t) : (wordsRev6 m t).getD i 0 = word6 m (t - 1 - i) := by
  induction t generalizing i with
  | zero => omega
  | succ t ih =>
    cases i with
    | zero => simp [word6]
    | succ i =>
      rw [show t + 1 - 1 - (i + 1) = t - 1 - i by omega, ← ih i (by omega)]
      simp [wordsRev6]
theorem word6_lo (m : Nat → BitVec 32) {t : Nat} (h : t < 16) : word6 m t = m t := by simp [word6, wordsRev6, h]
theorem word6_hi (m : Nat → BitVec 32) {t : Nat} (h : 16 ≤ t) : word6 m t = word6 m (t - 16) + word6 m (t - 7) + t0 (word6 m (t - 15)) + t1 (word6 m (t - 2)) := by
  have h1 : ¬ t < 16 := by omega
  rw [show word6 m t = (wordsRev6 m t).getD 15 0 + (wordsRev6 m t).getD 6 0 + t0 ((wordsRev6 m t).getD 14 0) + t1 ((wordsRev6 m t).getD 1 0) by simp [word6, wordsRev6, h1]]
  rw [wordsRev6_get m t 15 (by omega), wordsRev6_get m t 6 (by omega), wordsRev6_get m t 14 (by omega), wordsRev6_get m t 1 (by omega)]
  rw [show t - 1 - 15 = t - 16 by omega, show t - 1 - 6 = t - 7 by omega, show t - 1 - 14 = t - 15 by omega, show t - 1 - 1 = t - 2 by omega]

/-- a block's words, numbered -/
def told6 (m : Nat → BitVec 32) (k : Nat) : List (Nat × BitVec 32) := (List.range k).map fun t => (t, word6 m t)
theorem told6_succ (m : Nat → BitVec 32) (k : Nat) : told6 m (k + 1) = told6 m k ++ [(k, word6 m k)] := by simp [told6, List.range_succ]
/-- the state behind a block -/
def turnG (s : G8) (l : List (BitVec 8)) : G8 := addG s (rounds6 s (told6 (be32 l) 64))
/-- blocks, by their numbers -/
def turnsGL (s : G8) (l : List (BitVec 8)) (ks : List Nat) : G8 := ks.foldl (fun s k => turnG s ((l.drop (64 * k)).take 64)) s
theorem turnsGL_snoc (s : G8) (l : List (BitVec 8)) (ks : List Nat) (k : Nat) : turnsGL s l (ks ++ [k]) = turnG (turnsGL s l ks) ((l.drop (64 * k)).take 64) := by simp [turnsGL]
def turnsG (s : G8) (l : List (BitVec 8)) : G8 := turnsGL s l (List.range (l.length / 64))
def left6 (l : List (BitVec 8)) : List (BitVec 8) := l.drop (64 * (l.length / 64))

theorem turnsGL_congr {s : G8} {l l' : List (BitVec 8)} {ks : List Nat} (h : ∀ k ∈ ks, (l.drop (64 * k)).take 64 = (l'.drop (64 * k)).take 64) : turnsGL s l ks = turnsGL s l' ks := by
  unfold turnsGL
  induction ks generalizing s with
  | nil => simp only [List.foldl_nil]
  | cons k ks ih =>
    simp only [List.foldl_cons]
    rw [h k (by simp)]
    exact ih (fun j hj => h j (by simp [hj]))
theorem turnsGL_append (s : G8) (l : List (BitVec 8)) (ks js : List Nat) : turnsGL s l (ks ++ js) = turnsGL (turnsGL s l ks) l js := by simp [turnsGL]
theorem turnsGL_shift (s : G8) (l : List (BitVec 8)) (m : Nat) (ks : List Nat) : turnsGL s l (ks.map (m + ·)) = turnsGL s (l.drop (64 * m)) ks := by
  unfold turnsGL
  induction ks generalizing s with
  | nil => simp only [List.foldl_nil, List.map_nil]
  | cons k ks ih =>
    simp only [List.map_cons, List.foldl_cons, List.drop_drop] at ih ⊢
    rw [show 64 * (m + k) = 64 * m + 64 * k by omega, ih]
theorem left6_drop (a b : List (BitVec 8)) : left6 a ++ b = (a ++ b).drop (64 * (a.length / 64)) := by
  unfold left6; rw [List.drop_append_of_le_length (by omega)]
theorem left6_length (a : List (BitVec 8)) : (left6 a).length = a.length % 64 := by unfold left6; simp; omega
theorem left6_short {a : List (BitVec 8)} (h : a.length < 64) : left6 a = a := by unfold left6; rw [Nat.div_eq_of_lt h]; rfl
theorem turnsG_short {s : G8} {a : List (BitVec 8)} (h : a.length < 64) : turnsG s a = s := by unfold turnsG; rw [Nat.div_eq_of_lt h]; rfl
theorem turnsG_append (s : G8) (a b : List (BitVec 8)) : turnsG (turnsG s a) (left6 a ++ b) = turnsG s (a ++ b) := by
  have hn : (a ++ b).length / 64 = a.length / 64 + (left6 a ++ b).length / 64 := by
    rw [List.length_append, List.length_append, left6_length]; omega
  have h1 : turnsGL s (a ++ b) (List.range (a.length / 64)) = turnsGL s a (List.range (a.length / 64)) := turnsGL_congr (fun k hk => by
    have hk := List.mem_range.1 hk
    rw [List.drop_append_of_le_length (by omega), List.take_append_of_le_length (by simp; omega)])
  unfold turnsG
  rw [hn, List.range_add, turnsGL_append, turnsGL_shift, ← left6_drop, h1]
theorem left6_append (a b : List (BitVec 8)) : left6 (left6 a ++ b) = left6 (a ++ b) := by
  have hn : (a ++ b).length / 64 = a.length / 64 + (left6 a ++ b).length / 64 := by
    rw [List.length_append, List.length_append, left6_length]; omega
  rw [show left6 (a ++ b) = (a ++ b).drop (64 * ((a ++ b).length / 64)) from rfl, hn, show 64 * (a.length / 64 + (left6 a ++ b).length / 64) = 64 * (a.length / 64) + 64 * ((left6 a ++ b).length / 64) by omega, ← List.drop_drop, ← left6_drop]
  rfl

/-- how many bytes 0 stand behind the byte 128 -/
def zeros6 (n : Nat) : Nat := (119 - n % 64) % 64
theorem zeros6_mod (n : Nat) : zeros6 (n % 64) = zeros6 n := by unfold zeros6; omega
/-- the eight bytes that say how long a message is, the first i of them -/
def size8 (tk : BitVec 64) (i : Nat) : List (BitVec 8) := (List.range i).map fun j => ((8 * tk) >>> (8 * (7 - j))).setWidth 8
def tail6 (n : Nat) (tk : BitVec 64) : List (BitVec 8) := (128 : BitVec 8) :: List.replicate (zeros6 n) 0 ++ size8 tk 8
/-- a word's bytes -/
def gbytes (x : BitVec 32) : List (BitVec 8) := [(x >>> 24).setWidth 8, (x >>> 16).setWidth 8, (x >>> 8).setWidth 8, x.setWidth 8]
def hbytes6 (s : G8) : List (BitVec 8) := (gwords s).flatMap gbytes
theorem hbytes6_length (s : G8) : (hbytes6 s).length = 32 := by simp [hbytes6, gwords, gbytes]
/-- the hash that a state tells -/
def sum6 (sz : Nat) (s : G8) (r : List (BitVec 8)) (tk : BitVec 64) : List (BitVec 8) := (hbytes6 (turnsG s (r ++ tail6 r.length tk))).take sz
/-- the hash of bytes -/
def hash6 (sz : Nat) (s : G8) (l : List (BitVec 8)) : List (BitVec 8) := sum6 sz s l (BitVec.ofNat 64 l.length)
theorem sum6_left (sz : Nat) (s : G8) (l : List (BitVec 8)) (tk : BitVec 64) : sum6 sz (turnsG s l) (left6 l) tk = sum6 sz s l tk := by
  unfold sum6
  rw [turnsG_append]
  have : tail6 (left6 l).length tk = tail6 l.length tk := by unfold tail6; rw [left6_length, zeros6_mod]
  rw [this]
theorem hash6_length (sz : Nat) (h : G8) (l : List (BitVec 8)) (hs : sz ≤ 32) : (hash6 sz h l).length = sz := by
  unfold hash6 sum6; rw [List.length_take, hbytes6_length]; omega
end Go.Proofs.YtjfcldjepgijeaaDoor
