/- Words as bit vectors: 'wd x' is the number of a word; what the walk makes of Go's operations on such numbers. No program stands here. -/
import Derived.WalkKit
namespace Go.Proofs.YtjfcldjepgijeaaDoor
open Go.RowKit

/-- the number of a word -/
def wd {n : Nat} (x : BitVec n) : Int := (x.toNat : Int)

theorem wd_lo {n : Nat} (x : BitVec n) : 0 ≤ wd x := by unfold wd; omega
theorem wd_hi8 (x : BitVec 8) : wd x < 256 := by have := x.isLt; unfold wd; omega
theorem wd_hi32 (x : BitVec 32) : wd x < 4294967296 := by have := x.isLt; unfold wd; omega
theorem wd_hi64 (x : BitVec 64) : wd x < 18446744073709551616 := by have := x.isLt; unfold wd; omega
theorem wd_inj {n : Nat} {x y : BitVec n} (h : wd x = wd y) : x = y := by
  unfold wd at h; exact BitVec.eq_of_toNat_eq (by omega)
theorem ofInt_wd {n : Nat} (x : BitVec n) : BitVec.ofInt n (wd x) = x := by
  unfold wd; rw [BitVec.ofInt_natCast]; simp
theorem wd_ofInt64 {z : Int} (h0 : 0 ≤ z) (h1 : z < 18446744073709551616) : wd (BitVec.ofInt 64 z) = z := by
  obtain ⟨k, rfl⟩ := Int.eq_ofNat_of_zero_le h0
  unfold wd; rw [BitVec.ofInt_natCast, BitVec.toNat_ofNat, Nat.mod_eq_of_lt (by omega)]
theorem wd_ofInt8 {z : Int} (h0 : 0 ≤ z) (h1 : z < 256) : wd (BitVec.ofInt 8 z) = z := by
  obtain ⟨k, rfl⟩ := Int.eq_ofNat_of_zero_le h0
  unfold wd; rw [BitVec.ofInt_natCast, BitVec.toNat_ofNat, Nat.mod_eq_of_lt (by omega)]
theorem wd_ofNat {n k : Nat} (h : k < 2 ^ n) : wd (BitVec.ofNat n k) = (k : Int) := by
  unfold wd; rw [BitVec.toNat_ofNat, Nat.mod_eq_of_lt h]

theorem wrap64_wd (z : Int) : IntKind.u64.wrap z = wd (BitVec.ofInt 64 z) := by
  unfold wd; rw [BitVec.toNat_ofInt]; simp [IntKind.wrap, IntKind.bits, IntKind.signed]; omega
theorem wrap32_wd (z : Int) : IntKind.u32.wrap z = wd (BitVec.ofInt 32 z) := by
  unfold wd; rw [BitVec.toNat_ofInt]; simp [IntKind.wrap, IntKind.bits, IntKind.signed]; omega
theorem wrap8_wd (z : Int) : IntKind.u8.wrap z = wd (BitVec.ofInt 8 z) := by
  unfold wd; rw [BitVec.toNat_ofInt]; simp [IntKind.wrap, IntKind.bits, IntKind.signed]; omega

theorem u64_id (x : BitVec 64) : IntKind.u64.wrap (wd x) = wd x := by rw [wrap64_wd, ofInt_wd]
theorem u32_id (x : BitVec 32) : IntKind.u32.wrap (wd x) = wd x := by rw [wrap32_wd, ofInt_wd]
theorem u8_id (x : BitVec 8) : IntKind.u8.wrap (wd x) = wd x := by rw [wrap8_wd, ofInt_wd]
theorem u64_add (x y : BitVec 64) : IntKind.u64.wrap (wd x + wd y) = wd (x + y) := by
  rw [wrap64_wd, BitVec.ofInt_add, ofInt_wd, ofInt_wd]
theorem u32_add (x y : BitVec 32) : IntKind.u32.wrap (wd x + wd y) = wd (x + y) := by
  rw [wrap32_wd, BitVec.ofInt_add, ofInt_wd, ofInt_wd]
theorem u64_of8 (x : BitVec 8) : IntKind.u64.wrap (wd x) = wd (x.setWidth 64) := by
  rw [wrap64_wd]; unfold wd; rw [BitVec.ofInt_natCast, BitVec.toNat_ofNat, BitVec.toNat_setWidth]
theorem u32_of8 (x : BitVec 8) : IntKind.u32.wrap (wd x) = wd (x.setWidth 32) := by
  rw [wrap32_wd]; unfold wd; rw [BitVec.ofInt_natCast, BitVec.toNat_ofNat, BitVec.toNat_setWidth]

theorem u8_of64 (x : BitVec 64) : IntKind.u8.wrap (wd x) = wd (x.setWidth 8) := by
  rw [wrap8_wd]; unfold wd; rw [BitVec.ofInt_natCast, BitVec.toNat_ofNat, BitVec.toNat_setWidth]
theorem u8_of32 (x : BitVec 32) : IntKind.u8.wrap (wd x) = wd (x.setWidth 8) := by
  rw [wrap8_wd]; unfold wd; rw [BitVec.ofInt_natCast, BitVec.toNat_ofNat, BitVec.toNat_setWidth]
theorem u64_xor (x y : BitVec 64) : bits .xor .u64 (wd x) (wd y) = wd (x ^^^ y) := by
  have := u64_id (x ^^^ y)
  simp only [bits]; show IntKind.u64.wrap ((BitVec.ofInt 64 (wd x) ^^^ BitVec.ofInt 64 (wd y)).toNat : Int) = _
  rw [ofInt_wd, ofInt_wd]; exact this
theorem u64_and (x y : BitVec 64) : bits .and .u64 (wd x) (wd y) = wd (x &&& y) := by
  have := u64_id (x &&& y)
  simp only [bits]; show IntKind.u64.wrap ((BitVec.ofInt 64 (wd x) &&& BitVec.ofInt 64 (wd y)).toNat : Int) = _
  rw [ofInt_wd, ofInt_wd]; exact this
theorem u64_or (x y : BitVec 64) : bits .or .u64 (wd x) (wd y) = wd (x ||| y) := by
  have := u64_id (x ||| y)
  simp only [bits]; show IntKind.u64.wrap ((BitVec.ofInt 64 (wd x) ||| BitVec.ofInt 64 (wd y)).toNat : Int) = _
  rw [ofInt_wd, ofInt_wd]; exact this
theorem u64_andNot (x y : BitVec 64) : bits .andNot .u64 (wd x) (wd y) = wd (x &&& ~~~y) := by
  have := u64_id (x &&& ~~~y)
  simp only [bits]; show IntKind.u64.wrap ((BitVec.ofInt 64 (wd x) &&& ~~~BitVec.ofInt 64 (wd y)).toNat : Int) = _
  rw [ofInt_wd, ofInt_wd]; exact this
theorem u32_xor (x y : BitVec 32) : bits .xor .u32 (wd x) (wd y) = wd (x ^^^ y) := by
  have := u32_id (x ^^^ y)
  simp only [bits]; show IntKind.u32.wrap ((BitVec.ofInt 32 (wd x) ^^^ BitVec.ofInt 32 (wd y)).toNat : Int) = _
  rw [ofInt_wd, ofInt_wd]; exact this
theorem u32_and (x y : BitVec 32) : bits .and .u32 (wd x) (wd y) = wd (x &&& y) := by
  have := u32_id (x &&& y)
  simp only [bits]; show IntKind.u32.wrap ((BitVec.ofInt 32 (wd x) &&& BitVec.ofInt 32 (wd y)).toNat : Int) = _
  rw [ofInt_wd, ofInt_wd]; exact this
theorem u32_or (x y : BitVec 32) : bits .or .u32 (wd x) (wd y) = wd (x ||| y) := by
  have := u32_id (x ||| y)
  simp only [bits]; show IntKind.u32.wrap ((BitVec.ofInt 32 (wd x) ||| BitVec.ofInt 32 (wd y)).toNat : Int) = _
  rw [ofInt_wd, ofInt_wd]; exact this

theorem wd_shl {n : Nat} (x : BitVec n) (k : Nat) : BitVec.ofInt n (wd x * 2 ^ k) = x <<< k := by
  apply BitVec.eq_of_toNat_eq
  unfold wd
  rw [show ((x.toNat : Int) * 2 ^ k) = ((x.toNat * 2 ^ k : Nat) : Int) by push_cast; rfl, BitVec.ofInt_natCast, BitVec.toNat_ofNat, BitVec.toNat_shiftLeft, Nat.shiftLeft_eq]
theorem wd_shr {n : Nat} (x : BitVec n) (k : Nat) : (wd x).fdiv (2 ^ k) = wd (x >>> k) := by
  unfold wd
  rw [BitVec.toNat_ushiftRight, Nat.shiftRight_eq_div_pow, Int.fdiv_eq_ediv_of_nonneg _ (Int.le_of_lt (Int.pow_pos (by decide)))]
  push_cast; rfl
theorem wd_shr' {n : Nat} (x : BitVec n) (k : Nat) : wd x / (2 ^ k) = wd (x >>> k) := by
  rw [← wd_shr, Int.fdiv_eq_ediv_of_nonneg _ (Int.le_of_lt (Int.pow_pos (by decide)))]

theorem u64_shl (x : BitVec 64) (k : Nat) : IntKind.u64.wrap (wd x * 2 ^ k) = wd (x <<< k) := by rw [wrap64_wd, wd_shl]
theorem u32_shl (x : BitVec 32) (k : Nat) : IntKind.u32.wrap (wd x * 2 ^ k) = wd (x <<< k) := by rw [wrap32_wd, wd_shl]

/-- shifts by a number of bits below the width -/
theorem shl_run {P : Program} {w : World} (x : BitVec 64) (s : Int) (h0 : 0 ≤ s) (h1 : s ≤ 64) (kk : IntKind) :
    (Op.shift .shl .u64 (wd x) kk s).run P w = .ok (.int .u64 (wd (x <<< s.toNat))) w := by
  unfold Op.shift
  rw [if_neg (by omega)]
  have e : min s.toNat IntKind.u64.bits = s.toNat := by show min s.toNat 64 = _; omega
  simp only [e, wrap64_wd, wd_shl]; rfl
theorem shr_run {P : Program} {w : World} (x : BitVec 64) (s : Int) (h0 : 0 ≤ s) (h1 : s ≤ 64) (kk : IntKind) :
    (Op.shift .shr .u64 (wd x) kk s).run P w = .ok (.int .u64 (wd (x >>> s.toNat))) w := by
  unfold Op.shift
  rw [if_neg (by omega)]
  have e : min s.toNat IntKind.u64.bits = s.toNat := by show min s.toNat 64 = _; omega
  simp only [e, wd_shr]; rfl
theorem shl32_run {P : Program} {w : World} (x : BitVec 32) (s : Int) (h0 : 0 ≤ s) (h1 : s ≤ 32) (kk : IntKind) :
    (Op.shift .shl .u32 (wd x) kk s).run P w = .ok (.int .u32 (wd (x <<< s.toNat))) w := by
  unfold Op.shift
  rw [if_neg (by omega)]
  have e : min s.toNat IntKind.u32.bits = s.toNat := by show min s.toNat 32 = _; omega
  simp only [e, wrap32_wd, wd_shl]; rfl
theorem shr32_run {P : Program} {w : World} (x : BitVec 32) (s : Int) (h0 : 0 ≤ s) (h1 : s ≤ 32) (kk : IntKind) :
    (Op.shift .shr .u32 (wd x) kk s).run P w = .ok (.int .u32 (wd (x >>> s.toNat))) w := by
  unfold Op.shift
  rw [if_neg (by omega)]
  have e : min s.toNat IntKind.u32.bits = s.toNat := by show min s.toNat 32 = _; omega
  simp only [e, wd_shr]; rfl

theorem rot64 (x : BitVec 64) (i : Nat) (h1 : i < 64) : x <<< (64 - i) ||| x >>> i = x.rotateRight i := by
  rw [BitVec.rotateRight_def, Nat.mod_eq_of_lt h1, BitVec.or_comm]
theorem rot32 (x : BitVec 32) (i : Nat) (h1 : i < 32) : x <<< (32 - i) ||| x >>> i = x.rotateRight i := by
  rw [BitVec.rotateRight_def, Nat.mod_eq_of_lt h1, BitVec.or_comm]
end Go.Proofs.YtjfcldjepgijeaaDoor
