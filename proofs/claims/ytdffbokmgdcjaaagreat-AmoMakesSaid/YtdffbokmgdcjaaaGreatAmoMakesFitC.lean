/- What Make and Told make is what the document says. -/
import Derived.Test.YtdffbokmgdcjaaaGreatAmoMakesRunC
namespace Go.Proofs.YtdffbokmgdcjaaaGreat.AmoMakesDone
open Go.Eng Go.RowKit Go.ChangeShapes Go.WideShapes Go.ChangeAt

theorem e1_t {ρ : Env} (n : Fin 256) (h0 : (ρ.v 0).int = ((n.val : Nat) : Int)) : (e1.ev ρ).bool = true := by
  simp only [e1, ev_eqi, ev_lt, ev_vr, ev_li, ev_lb, ev_add, ev_tmod, ev_ite, ite_bool, ev_eqb, h0]
  clear h0
  revert n
  decide +kernel

theorem or_high (x : Nat) (hx : x < 4294967296) : bitsOf .or .u64 (x : Int) 18446744069414584320 = ((x + 18446744069414584320 : Nat) : Int) := by
  have := bits_over 4294967295 x (by omega) hx
  rw [show (18446744069414584320 : Int) = ((18446744069414584320 : Nat) : Int) from rfl, bits_or64 x 18446744069414584320 (by omega) (by omega), Nat.or_comm]
  have h2 := bits_or64 18446744069414584320 x (by omega) (by omega)
  rw [show (((4294967295 : Nat) : Int) * 4294967296) = ((18446744069414584320 : Nat) : Int) from rfl] at this
  rw [h2] at this
  rw [this]
  omega

theorem e2_t {ρ : Env} {a : Nat} (ha : a < 18446744073709551616) (b0 : 0 ≤ (ρ.v 0).int) (h1 : (ρ.v 1).int = a) : (e2.ev ρ).bool = true := by
  have hm : (a : Int).tmod 4294967296 = ((a % 4294967296 : Nat) : Int) := by rw [Int.tmod_eq_emod_of_nonneg (by omega)]; omega
  have am : a % 4294967296 < 4294967296 := Nat.mod_lt _ (by omega)
  have ho := or_high _ am
  have hw : IntKind.u64.wrap (IntKind.i32.wrap (a : Int)) = if ((a % 4294967296 : Nat) : Int) < 2147483648 then ((a % 4294967296 : Nat) : Int) else ((a % 4294967296 + 18446744069414584320 : Nat) : Int) := by
    rw [wrap_i32, wrap_u64]
    split <;> omega
  simp only [e2, ev_eqi, ev_lt, ev_vr, ev_li, ev_tmod, ev_wrap, ev_bits, ev_ite, ite_int, h1, hm, ho, hw]
  generalize (ρ.v 0).int = v at *
  (repeat' split) <;> first | rfl | (exfalso; omega) | omega
theorem xor_top (x : Nat) (hx : x < 18446744073709551616) : x ^^^ 9223372036854775808 = (x + 9223372036854775808) % 18446744073709551616 := by
  apply Nat.eq_of_testBit_eq
  intro i
  rw [Nat.testBit_xor, show (9223372036854775808 : Nat) = 2 ^ 63 from rfl, show (18446744073709551616 : Nat) = 2 ^ 64 from rfl, Nat.testBit_two_pow, Nat.testBit_mod_two_pow, Nat.add_comm]
  rcases Nat.lt_trichotomy i 63 with h | h | h
  · rw [Nat.testBit_two_pow_add_gt h]
    have : ¬ (63 = i) := by omega
    have h2 : i < 64 := by omega
    simp [this, h2]
  · subst h
    rw [Nat.testBit_two_pow_add_eq]
    simp
  · have h1 : ¬ (63 = i) := by omega
    have h2 : ¬ i < 64 := by omega
    have : x.testBit i = false := Nat.testBit_lt_two_pow (Nat.lt_of_lt_of_le hx (show 2 ^ 64 ≤ 2 ^ i from Nat.pow_le_pow_right (by omega) (by omega)))
    simp [h1, h2, this]
theorem bits_top (x : Nat) (hx : x < 18446744073709551616) : bitsOf .xor .u64 x 9223372036854775808 = (((x + 9223372036854775808) % 18446744073709551616 : Nat) : Int) := by
  rw [show (9223372036854775808 : Int) = ((9223372036854775808 : Nat) : Int) from rfl, bits_xor64 x _ hx (by omega), xor_top x hx]

/-- A low word with its sign. -/
def wd (x : Nat) : Nat := if x % 4294967296 < 2147483648 then x % 4294967296 else x % 4294967296 + 18446744069414584320

end Go.Proofs.YtdffbokmgdcjaaaGreat.AmoMakesDone
