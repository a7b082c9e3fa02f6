/- Small laws of the orders of words. -/
import Derived.Test.YtdffbokmgdcjaaaGreatAmoMakesFitC
namespace Go.Proofs.YtdffbokmgdcjaaaGreat.AmoMakesDone
open Go.Eng Go.RowKit

theorem topLow (x : Nat) (h : x < 4294967296) : (x + 9223372036854775808) % 18446744073709551616 = x + 9223372036854775808 := Nat.mod_eq_of_lt (by omega)
theorem topHigh (x : Nat) (h : x < 4294967296) : (x + 18446744069414584320 + 9223372036854775808) % 18446744073709551616 = x + 9223372032559808512 := by
  rw [Nat.add_assoc, show 18446744069414584320 + 9223372036854775808 = 9223372032559808512 + 18446744073709551616 from rfl, ← Nat.add_assoc, Nat.add_mod_right]
  exact Nat.mod_eq_of_lt (by omega)
theorem lowT (x : Nat) (h : x < 4294967296) : ((x : Nat) : Int).tmod 4294967296 = x := by
  rw [Int.tmod_eq_emod_of_nonneg (by omega)]
  omega
theorem highT (x : Nat) (h : x < 4294967296) : ((x + 18446744069414584320 : Nat) : Int).tmod 4294967296 = x := by
  rw [Int.tmod_eq_emod_of_nonneg (by omega)]
  omega
theorem i32w (a : Nat) : IntKind.i32.wrap (a : Int) = if a % 4294967296 < 2147483648 then ((a % 4294967296 : Nat) : Int) else ((a % 4294967296 : Nat) : Int) - 4294967296 := by
  rw [wrap_i32]
  split <;> omega
theorem u32u64 (z : Int) : IntKind.u32.wrap (IntKind.u64.wrap z) = z % 4294967296 := by
  rw [wrap_u32, wrap_u64]
  exact Int.emod_emod_of_dvd z (by decide)
theorem low_bits (x : Nat) (h : x < 4294967296) : bitsOf .xor .u64 (x : Int) 9223372036854775808 = ((x + 9223372036854775808 : Nat) : Int) := by
  rw [bits_top x (by omega), topLow x h]
theorem high_bits (x : Nat) (h : x < 4294967296) : bitsOf .xor .u64 ((x + 18446744069414584320 : Nat) : Int) 9223372036854775808 = ((x + 9223372032559808512 : Nat) : Int) := by
  rw [bits_top _ (by omega), topHigh x h]
theorem lt_same (x y c : Nat) : (((x + c : Nat) : Int) < ((y + c : Nat) : Int)) = (x < y) := by
  rw [Int.ofNat_lt, Nat.add_lt_add_iff_right]
theorem lt_apart (x y c d : Nat) (h : x < 4294967296) (hd : c + 4294967296 ≤ d) : (((x + c : Nat) : Int) < ((y + d : Nat) : Int)) = True := by
  rw [Int.ofNat_lt]; simp; omega
theorem gt_apart (x y c d : Nat) (h : x < 4294967296) (hd : c + 4294967296 ≤ d) : (((y + d : Nat) : Int) < ((x + c : Nat) : Int)) = False := by
  rw [Int.ofNat_lt]; simp; omega
/-- The signed least of two low words. -/
theorem minw (x y : Nat) (hx : x < 4294967296) (hy : y < 4294967296) :
    (if (if y < 2147483648 then (y : Int) else (y : Int) - 4294967296) < (if x < 2147483648 then (x : Int) else (x : Int) - 4294967296) then (if y < 2147483648 then (y : Int) else (y : Int) - 4294967296) else (if x < 2147483648 then (x : Int) else (x : Int) - 4294967296)) % 4294967296 =
    if x < 2147483648 then (if y < 2147483648 then (if x < y then (x : Int) else y) else (y : Int)) else (if y < 2147483648 then (x : Int) else (if x < y then (x : Int) else y)) := by
  (repeat' split) <;> omega
theorem maxw (x y : Nat) (hx : x < 4294967296) (hy : y < 4294967296) :
    (if (if x < 2147483648 then (x : Int) else (x : Int) - 4294967296) < (if y < 2147483648 then (y : Int) else (y : Int) - 4294967296) then (if y < 2147483648 then (y : Int) else (y : Int) - 4294967296) else (if x < 2147483648 then (x : Int) else (x : Int) - 4294967296)) % 4294967296 =
    if x < 2147483648 then (if y < 2147483648 then (if y < x then (x : Int) else y) else (x : Int)) else (if y < 2147483648 then (y : Int) else (if y < x then (x : Int) else y)) := by
  (repeat' split) <;> omega
/-- The signed order of two numbers of eight bytes. -/
theorem top_i64 (x : Nat) : IntKind.i64.wrap (x : Int) = (((x + 9223372036854775808) % 18446744073709551616 : Nat) : Int) - 9223372036854775808 := by
  rw [wrap_i64]; omega
end Go.Proofs.YtdffbokmgdcjaaaGreat.AmoMakesDone
