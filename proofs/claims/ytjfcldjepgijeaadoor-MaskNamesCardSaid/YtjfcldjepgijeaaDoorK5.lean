/- SHA-512 as plain functions on words. No program stands here. -/
import Derived.Test.YtjfcldjepgijeaaDoorWd
namespace Go.Proofs.YtjfcldjepgijeaaDoor

/-- the numbers of the rounds -/
def cubesL : List Nat := [4794697086780616226, 8158064640168781261, 13096744586834688815, 16840607885511220156, 4131703408338449720, 6480981068601479193, 10538285296894168987, 12329834152419229976, 15566598209576043074, 1334009975649890238, 2608012711638119052, 6128411473006802146, 8268148722764581231, 9286055187155687089, 11230858885718282805, 13951009754708518548, 16472876342353939154, 17275323862435702243, 1135362057144423861, 2597628984639134821, 3308224258029322869, 5365058923640841347, 6679025012923562964, 8573033837759648693, 10970295158949994411, 12119686244451234320, 12683024718118986047, 13788192230050041572, 14330467153632333762, 15395433587784984357, 489312712824947311, 1452737877330783856, 2861767655752347644, 3322285676063803686, 5560940570517711597, 5996557281743188959, 7280758554555802590, 8532644243296465576, 9350256976987008742, 10552545826968843579, 11727347734174303076, 12113106623233404929, 14000437183269869457, 14369950271660146224, 15101387698204529176, 15463397548674623760, 17586052441742319658, 1182934255886127544, 1847814050463011016, 2177327727835720531, 2830643537854262169, 3796741975233480872, 4115178125766777443, 5681478168544905931, 6601373596472566643, 7507060721942968483, 8399075790359081724, 8693463985226723168, 9568029438360202098, 10144078919501101548, 10430055236837252648, 11840083180663258601, 13761210420658862357, 14299343276471374635, 14566680578165727644, 15097957966210449927, 16922976911328602910, 17689382322260857208, 500013540394364858, 748580250866718886, 1242879168328830382, 1977374033974150939, 2944078676154940804, 3659926193048069267, 4368137639120453308, 4836135668995329356, 5532061633213252278, 6448918945643986474, 6902733635092675308, 7801388544844847127]
/-- the first states: of SHA-512, of SHA-384 -/
def squareL : List Nat := [7640891576956012808, 13503953896175478587, 4354685564936845355, 11912009170470909681, 5840696475078001361, 11170449401992604703, 2270897969802886507, 6620516959819538809, 14680500436340154072, 7105036623409894663, 10473403895298186519, 1526699215303891257, 7436329637833083697, 10282925794625328401, 15784041429090275239, 5167115440072839076]
def cube (t : Nat) : BitVec 64 := BitVec.ofNat 64 (cubesL.getD t 0)
def sqr (i : Nat) : BitVec 64 := BitVec.ofNat 64 (squareL.getD i 0)

/-- a state's words -/
structure H8 where
  a : BitVec 64
  b : BitVec 64
  c : BitVec 64
  d : BitVec 64
  e : BitVec 64
  f : BitVec 64
  g : BitVec 64
  h : BitVec 64

def init512 : H8 := ⟨sqr 0, sqr 1, sqr 2, sqr 3, sqr 4, sqr 5, sqr 6, sqr 7⟩
def init384 : H8 := ⟨sqr 8, sqr 9, sqr 10, sqr 11, sqr 12, sqr 13, sqr 14, sqr 15⟩
def bigS0 (x : BitVec 64) : BitVec 64 := x.rotateRight 39 ^^^ x.rotateRight 28 ^^^ x.rotateRight 34
def bigS1 (x : BitVec 64) : BitVec 64 := x.rotateRight 41 ^^^ x.rotateRight 14 ^^^ x.rotateRight 18
def chOf (e f g : BitVec 64) : BitVec 64 := e &&& f ||| g &&& ~~~e
def majOf (a b c : BitVec 64) : BitVec 64 := a &&& (b ||| c) ||| b &&& c
/-- one round -/
def round5 (s : H8) (k w : BitVec 64) : H8 :=
  let y := s.h + k + w + bigS1 s.e + chOf s.e s.f s.g
  let z := bigS0 s.a + majOf s.a s.b s.c
  ⟨y + z, s.a, s.b, s.c, s.d + y, s.e, s.f, s.g⟩
def rounds5 (s : H8) (l : List (Nat × BitVec 64)) : H8 := l.foldl (fun s x => round5 s (cube x.1) x.2) s
theorem rounds5_snoc (s : H8) (l : List (Nat × BitVec 64)) (x : Nat × BitVec 64) : rounds5 s (l ++ [x]) = round5 (rounds5 s l) (cube x.1) x.2 := by simp [rounds5]
def addS (s r : H8) : H8 := ⟨s.a + r.a, s.b + r.b, s.c + r.c, s.d + r.d, s.e + r.e, s.f + r.f, s.g + r.g, s.h + r.h⟩
/-- k words added -/
def addTo (s r : H8) (k : Nat) : H8 := ⟨if 0 < k then s.a + r.a else s.a, if 1 < k then s.b + r.b else s.b, if 2 < k then s.c + r.c else s.c, if 3 < k then s.d + r.d else s.d,
  if 4 < k then s.e + r.e else s.e, if 5 < k then s.f + r.f else s.f, if 6 < k then s.g + r.g else s.g, if 7 < k then s.h + r.h else s.h⟩
theorem addTo_zero (s r : H8) : addTo s r 0 = s := by simp [addTo]
theorem addTo_all (s r : H8) : addTo s r 8 = addS s r := by simp [addTo, addS]

def be64 (l : List (BitVec 8)) : BitVec 64 := l.foldl (fun n c => n <<< 8 ||| c.setWidth 64) 0
theorem be64_snoc (l : List (BitVec 8)) (c : BitVec 8) : be64 (l ++ [c]) = be64 l <<< 8 ||| c.setWidth 64 := by simp [be64]
def s0 (x : BitVec 64) : BitVec 64 := x >>> 7 ^^^ x.rotateRight 1 ^^^ x.rotateRight 8
def s1 (x : BitVec 64) : BitVec 64 := x >>> 6 ^^^ x.rotateRight 19 ^^^ x.rotateRight 61
/-- the words, the last one first -/
def wordsRev (m : Nat → BitVec 64) : Nat → List (BitVec 64)
  | 0 => []
  | t + 1 => (if t < 16 then m t else (wordsRev m t).getD 15 0 + ((wordsRev m t).getD 6 0 + s0 ((wordsRev m t).getD 14 0) + s1 ((wordsRev m t).getD 1 0))) :: wordsRev m t
def wordAt (m : Nat → BitVec 64) (t : Nat) : BitVec 64 := (wordsRev m (t + 1)).getD 0 0
theorem wordsRev_length (m : Nat → BitVec 64) (t : Nat) : (wordsRev m t).length = t := by induction t with
  | zero => rfl
  | succ t ih => simp [wordsRev, ih]
theorem wordsRev_get (m : Nat → BitVec 64) (t i : Nat) (h : i < t) : (wordsRev m t).getD i 0 = wordAt m (t - 1 - i) := by
  induction t generalizing i with
  | zero => omega
  | succ t ih =>
    cases i with
    | zero => simp [wordAt]
    | succ i =>
      rw [show t + 1 - 1 - (i + 1) = t - 1 - i by omega, ← ih i (by omega)]
      simp [wordsRev]
theorem wordAt_lo (m : Nat → BitVec 64) {t : Nat} (h : t < 16) : wordAt m t = m t := by simp [wordAt, wordsRev, h]
theorem wordAt_hi (m : Nat → BitVec 64) {t : Nat} (h : 16 ≤ t) : wordAt m t = wordAt m (t - 16) + (wordAt m (t - 7) + s0 (wordAt m (t - 15)) + s1 (wordAt m (t - 2))) := by
  have h1 : ¬ t < 16 := by omega
  rw [show wordAt m t = (wordsRev m t).getD 15 0 + ((wordsRev m t).getD 6 0 + s0 ((wordsRev m t).getD 14 0) + s1 ((wordsRev m t).getD 1 0)) by simp [wordAt, wordsRev, h1]]
  rw [wordsRev_get m t 15 (by omega), wordsRev_get m t 6 (by omega), wordsRev_get m t 14 (by omega), wordsRev_get m t 1 (by omega)]
  rw [show t - 1 - 15 = t - 16 by omega, show t - 1 - 6 = t - 7 by omega, show t - 1 - 14 = t - 15 by omega, show t - 1 - 1 = t - 2 by omega]

/-- a block's words -/
def blk64 (l : List (BitVec 8)) (t : Nat) : BitVec 64 := be64 ((l.drop (8 * t)).take 8)
def told (m : Nat → BitVec 64) (k : Nat) : List (Nat × BitVec 64) := (List.range k).map fun t => (t, wordAt m t)
theorem told_succ (m : Nat → BitVec 64) (k : Nat) : told m (k + 1) = told m k ++ [(k, wordAt m k)] := by simp [told, List.range_succ]
theorem told_prefix (m : Nat → BitVec 64) {k N : Nat} (h : k < N) : told m k ++ [(k, wordAt m k)] <+: told m N := by
  rw [← told_succ]
  unfold told
  refine List.IsPrefix.map _ ?_
  have : List.range (k + 1) = (List.range N).take (k + 1) := by rw [List.take_range, show min (k + 1) N = k + 1 by omega]
  rw [this]; exact List.take_prefix _ _

theorem told_lt {m : Nat → BitVec 64} {N : Nat} {pre : List (Nat × BitVec 64)} {x : Nat × BitVec 64} (h : pre ++ [x] <+: told m N) : x.1 < N := by
  have hx : x ∈ told m N := h.subset (by simp)
  obtain ⟨t, ht, rfl⟩ := List.mem_map.1 hx
  exact List.mem_range.1 ht

/-- the state behind a block -/
def turnS (s : H8) (l : List (BitVec 8)) : H8 := addS s (rounds5 s (told (blk64 l) 80))
/-- blocks, by their numbers -/
def turnsL (s : H8) (l : List (BitVec 8)) (ks : List Nat) : H8 := ks.foldl (fun s k => turnS s ((l.drop (128 * k)).take 128)) s
theorem turnsL_snoc (s : H8) (l : List (BitVec 8)) (ks : List Nat) (k : Nat) : turnsL s l (ks ++ [k]) = turnS (turnsL s l ks) ((l.drop (128 * k)).take 128) := by simp [turnsL]
def turns (s : H8) (l : List (BitVec 8)) : H8 := turnsL s l (List.range (l.length / 128))
def left5 (l : List (BitVec 8)) : List (BitVec 8) := l.drop (128 * (l.length / 128))
end Go.Proofs.YtjfcldjepgijeaaDoor
