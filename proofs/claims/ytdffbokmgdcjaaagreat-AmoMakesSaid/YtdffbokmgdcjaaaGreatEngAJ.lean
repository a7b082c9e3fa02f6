/-
  Numbers that wrap, and bits of numbers.
-/
import Derived.Test.YtdffbokmgdcjaaaGreatEngAI
namespace Go.Eng

theorem bv64 (x : Nat) (h : x < 18446744073709551616) : (BitVec.ofInt 64 (x : Int)).toNat = x := by
  simp; omega
theorem bv32 (x : Nat) (h : x < 4294967296) : (BitVec.ofInt 32 (x : Int)).toNat = x := by
  simp; omega

theorem bits_and64 (x y : Nat) (hx : x < 18446744073709551616) (hy : y < 18446744073709551616) : bitsOf .and .u64 x y = ((x &&& y : Nat) : Int) := by
  have : x &&& y < 18446744073709551616 := Nat.lt_of_le_of_lt Nat.and_le_left hx
  have e : (BitVec.ofInt 64 (x : Int) &&& BitVec.ofInt 64 (y : Int)).toNat = x &&& y := by rw [BitVec.toNat_and, bv64 x hx, bv64 y hy]
  show IntKind.u64.wrap ((BitVec.ofInt 64 (x : Int) &&& BitVec.ofInt 64 (y : Int)).toNat : Int) = _
  rw [e, wrap_u64]
  omega
theorem bits_or64 (x y : Nat) (hx : x < 18446744073709551616) (hy : y < 18446744073709551616) : bitsOf .or .u64 x y = ((x ||| y : Nat) : Int) := by
  have : x ||| y < 2 ^ 64 := Nat.or_lt_two_pow hx hy
  have e : (BitVec.ofInt 64 (x : Int) ||| BitVec.ofInt 64 (y : Int)).toNat = x ||| y := by rw [BitVec.toNat_or, bv64 x hx, bv64 y hy]
  show IntKind.u64.wrap ((BitVec.ofInt 64 (x : Int) ||| BitVec.ofInt 64 (y : Int)).toNat : Int) = _
  rw [e, wrap_u64]
  omega
theorem bits_xor64 (x y : Nat) (hx : x < 18446744073709551616) (hy : y < 18446744073709551616) : bitsOf .xor .u64 x y = ((x ^^^ y : Nat) : Int) := by
  have : x ^^^ y < 2 ^ 64 := Nat.xor_lt_two_pow hx hy
  have e : (BitVec.ofInt 64 (x : Int) ^^^ BitVec.ofInt 64 (y : Int)).toNat = x ^^^ y := by rw [BitVec.toNat_xor, bv64 x hx, bv64 y hy]
  show IntKind.u64.wrap ((BitVec.ofInt 64 (x : Int) ^^^ BitVec.ofInt 64 (y : Int)).toNat : Int) = _
  rw [e, wrap_u64]
  omega
theorem bits_and32 (x y : Nat) (hx : x < 4294967296) (hy : y < 4294967296) : bitsOf .and .u32 x y = ((x &&& y : Nat) : Int) := by
  have : x &&& y < 4294967296 := Nat.lt_of_le_of_lt Nat.and_le_left hx
  have e : (BitVec.ofInt 32 (x : Int) &&& BitVec.ofInt 32 (y : Int)).toNat = x &&& y := by rw [BitVec.toNat_and, bv32 x hx, bv32 y hy]
  show IntKind.u32.wrap ((BitVec.ofInt 32 (x : Int) &&& BitVec.ofInt 32 (y : Int)).toNat : Int) = _
  rw [e, wrap_u32]
  omega
theorem bits_or32 (x y : Nat) (hx : x < 4294967296) (hy : y < 4294967296) : bitsOf .or .u32 x y = ((x ||| y : Nat) : Int) := by
  have : x ||| y < 2 ^ 32 := Nat.or_lt_two_pow hx hy
  have e : (BitVec.ofInt 32 (x : Int) ||| BitVec.ofInt 32 (y : Int)).toNat = x ||| y := by rw [BitVec.toNat_or, bv32 x hx, bv32 y hy]
  show IntKind.u32.wrap ((BitVec.ofInt 32 (x : Int) ||| BitVec.ofInt 32 (y : Int)).toNat : Int) = _
  rw [e, wrap_u32]
  omega
theorem bits_xor32 (x y : Nat) (hx : x < 4294967296) (hy : y < 4294967296) : bitsOf .xor .u32 x y = ((x ^^^ y : Nat) : Int) := by
  have : x ^^^ y < 2 ^ 32 := Nat.xor_lt_two_pow hx hy
  have e : (BitVec.ofInt 32 (x : Int) ^^^ BitVec.ofInt 32 (y : Int)).toNat = x ^^^ y := by rw [BitVec.toNat_xor, bv32 x hx, bv32 y hy]
  show IntKind.u32.wrap ((BitVec.ofInt 32 (x : Int) ^^^ BitVec.ofInt 32 (y : Int)).toNat : Int) = _
  rw [e, wrap_u32]
  omega

/-- The low word of a number. -/
theorem bits_low (x : Nat) (hx : x < 18446744073709551616) : bitsOf .and .u64 x 4294967295 = ((x % 4294967296 : Nat) : Int) := by
  rw [show (4294967295 : Int) = ((4294967295 : Nat) : Int) from rfl, bits_and64 x 4294967295 hx (by omega), show (4294967295 : Nat) = 2 ^ 32 - 1 from rfl, Nat.and_two_pow_sub_one_eq_mod]

/-- A high word over a low one. -/
theorem bits_over (h l : Nat) (hh : h < 4294967296) (hl : l < 4294967296) : bitsOf .or .u64 ((h : Int) * 4294967296) l = ((h * 4294967296 + l : Nat) : Int) := by
  rw [show (h : Int) * 4294967296 = ((h * 4294967296 : Nat) : Int) by omega, bits_or64 _ l (by omega) (by omega)]
  congr 1
  have := Nat.two_pow_add_eq_or_of_lt (i := 32) (b := l) (by simpa using hl) h
  rw [Nat.mul_comm h 4294967296]
  exact this.symm

theorem wrap_iu (x : Int) (h1 : -9223372036854775808 ≤ x) (h2 : x ≤ 9223372036854775807) : IntKind.i64.wrap (IntKind.u64.wrap x) = x := by
  rw [wrap_i64, wrap_u64]; omega
theorem wrap_ui (x : Int) (h1 : 0 ≤ x) (h2 : x < 18446744073709551616) : IntKind.u64.wrap (IntKind.i64.wrap x) = x := by
  rw [wrap_u64, wrap_i64]; omega
theorem wrap_i64_rng (x : Int) : -9223372036854775808 ≤ IntKind.i64.wrap x ∧ IntKind.i64.wrap x ≤ 9223372036854775807 := by
  rw [wrap_i64]; omega
/-- A sum less what was added. -/
theorem wrap_back (x y : Int) (h1 : 0 ≤ x) (h2 : x < 18446744073709551616) : IntKind.u64.wrap (IntKind.u64.wrap (x + y) + IntKind.u64.wrap (0 - y)) = x := by
  rw [wrap_u64, wrap_u64, wrap_u64]; omega

section
variable {ρ : Env} (a b : E)
theorem ev_bits (o : BinOp) (k : IntKind) : ((E.bi (.bits o k) a b).ev ρ).int = bitsOf o k (a.ev ρ).int (b.ev ρ).int := rfl
end
end Go.Eng
