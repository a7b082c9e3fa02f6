/- What Make makes of any two numbers is what the document says, by operation (part B). -/
import Derived.Test.YtdffbokmgdcjaaaGreatAmoMakesFitLC
namespace Go.Proofs.YtdffbokmgdcjaaaGreat.AmoMakesDone
open Go.Eng Go.RowKit
set_option maxHeartbeats 4000000 in
theorem e0_74 {ρ : Env} {a b : Nat} (ha : a < 18446744073709551616) (hb : b < 18446744073709551616) (h0 : (ρ.v 0).int = 74) (h1 : (ρ.v 1).int = a) (h2 : (ρ.v 2).int = b) : (e0.ev ρ).bool = true := by
  have ta : (a : Int).tmod 4294967296 = ((a % 4294967296 : Nat) : Int) := by rw [Int.tmod_eq_emod_of_nonneg (by omega)]; omega
  have tb : (b : Int).tmod 4294967296 = ((b % 4294967296 : Nat) : Int) := by rw [Int.tmod_eq_emod_of_nonneg (by omega)]; omega
  have oa := or_high (a % 4294967296) (Nat.mod_lt _ (by omega))
  have ob := or_high (b % 4294967296) (Nat.mod_lt _ (by omega))
  simp only [e0, ev_eqi, ev_lt, ev_vr, ev_li, ev_add, ev_tmod, ev_wrap, ev_bits, ev_ite, ite_int, h0, h1, h2, ta, tb, oa, ob, reduceIte, Int.reduceEq, Int.reduceLT, Int.reduceAdd, Int.reduceNeg, Int.reduceTMod]
  have hx : a % 4294967296 < 4294967296 := Nat.mod_lt _ (by omega)
  have hy : b % 4294967296 < 4294967296 := Nat.mod_lt _ (by omega)
  simp only [u32u64, i32w, low_bits _ hx, low_bits _ hy, high_bits _ hx, high_bits _ hy, lowT _ hx, lowT _ hy, highT _ hx, highT _ hy, Int.ofNat_lt]
  generalize a % 4294967296 = x at hx ⊢
  generalize b % 4294967296 = y at hy ⊢
  have d1 : ((x : Int) < 2147483648) = (x < 2147483648) := propext (by omega)
  have d2 : ((y : Int) < 2147483648) = (y < 2147483648) := propext (by omega)
  have e1 : (x + 9223372036854775808 < y + 9223372036854775808) = (x < y) := propext (by omega)
  have e2 : (x + 9223372032559808512 < y + 9223372032559808512) = (x < y) := propext (by omega)
  have e3 : (y + 9223372036854775808 < x + 9223372036854775808) = (y < x) := propext (by omega)
  have e4 : (y + 9223372032559808512 < x + 9223372032559808512) = (y < x) := propext (by omega)
  have e5 : (x + 9223372036854775808 < y + 9223372032559808512) = False := eq_false (by omega)
  have e6 : (y + 9223372036854775808 < x + 9223372032559808512) = False := eq_false (by omega)
  have e7 : (x + 9223372032559808512 < y + 9223372036854775808) = True := eq_true (by omega)
  have e8 : (y + 9223372032559808512 < x + 9223372036854775808) = True := eq_true (by omega)
  simp only [e1, e2, e5, e7, d1, d2, if_true, if_false]
  by_cases c1 : x < 2147483648 <;> by_cases c2 : y < 2147483648 <;> simp only [c1, c2, if_true, if_false]
  all_goals (repeat' split) <;> omega
set_option maxHeartbeats 4000000 in
theorem e0_75 {ρ : Env} {a b : Nat} (ha : a < 18446744073709551616) (hb : b < 18446744073709551616) (h0 : (ρ.v 0).int = 75) (h1 : (ρ.v 1).int = a) (h2 : (ρ.v 2).int = b) : (e0.ev ρ).bool = true := by
  have ta : (a : Int).tmod 4294967296 = ((a % 4294967296 : Nat) : Int) := by rw [Int.tmod_eq_emod_of_nonneg (by omega)]; omega
  have tb : (b : Int).tmod 4294967296 = ((b % 4294967296 : Nat) : Int) := by rw [Int.tmod_eq_emod_of_nonneg (by omega)]; omega
  have oa := or_high (a % 4294967296) (Nat.mod_lt _ (by omega))
  have ob := or_high (b % 4294967296) (Nat.mod_lt _ (by omega))
  simp only [e0, ev_eqi, ev_lt, ev_vr, ev_li, ev_add, ev_tmod, ev_wrap, ev_bits, ev_ite, ite_int, h0, h1, h2, ta, tb, oa, ob, reduceIte, Int.reduceEq, Int.reduceLT, Int.reduceAdd, Int.reduceNeg, Int.reduceTMod]
  have hx : a % 4294967296 < 4294967296 := Nat.mod_lt _ (by omega)
  have hy : b % 4294967296 < 4294967296 := Nat.mod_lt _ (by omega)
  simp only [u32u64, i32w, low_bits _ hx, low_bits _ hy, high_bits _ hx, high_bits _ hy, lowT _ hx, lowT _ hy, highT _ hx, highT _ hy, Int.ofNat_lt]
  generalize a % 4294967296 = x at hx ⊢
  generalize b % 4294967296 = y at hy ⊢
  have d1 : ((x : Int) < 2147483648) = (x < 2147483648) := propext (by omega)
  have d2 : ((y : Int) < 2147483648) = (y < 2147483648) := propext (by omega)
  have e1 : (x + 9223372036854775808 < y + 9223372036854775808) = (x < y) := propext (by omega)
  have e2 : (x + 9223372032559808512 < y + 9223372032559808512) = (x < y) := propext (by omega)
  have e3 : (y + 9223372036854775808 < x + 9223372036854775808) = (y < x) := propext (by omega)
  have e4 : (y + 9223372032559808512 < x + 9223372032559808512) = (y < x) := propext (by omega)
  have e5 : (x + 9223372036854775808 < y + 9223372032559808512) = False := eq_false (by omega)
  have e6 : (y + 9223372036854775808 < x + 9223372032559808512) = False := eq_false (by omega)
  have e7 : (x + 9223372032559808512 < y + 9223372036854775808) = True := eq_true (by omega)
  have e8 : (y + 9223372032559808512 < x + 9223372036854775808) = True := eq_true (by omega)
  simp only [e3, e4, e6, e8, d1, d2, if_true, if_false]
  by_cases c1 : x < 2147483648 <;> by_cases c2 : y < 2147483648 <;> simp only [c1, c2, if_true, if_false]
  all_goals (repeat' split) <;> omega
set_option maxHeartbeats 4000000 in
theorem e0_76 {ρ : Env} {a b : Nat} (ha : a < 18446744073709551616) (hb : b < 18446744073709551616) (h0 : (ρ.v 0).int = 76) (h1 : (ρ.v 1).int = a) (h2 : (ρ.v 2).int = b) : (e0.ev ρ).bool = true := by
  have ta : (a : Int).tmod 4294967296 = ((a % 4294967296 : Nat) : Int) := by rw [Int.tmod_eq_emod_of_nonneg (by omega)]; omega
  have tb : (b : Int).tmod 4294967296 = ((b % 4294967296 : Nat) : Int) := by rw [Int.tmod_eq_emod_of_nonneg (by omega)]; omega
  have oa := or_high (a % 4294967296) (Nat.mod_lt _ (by omega))
  have ob := or_high (b % 4294967296) (Nat.mod_lt _ (by omega))
  simp only [e0, ev_eqi, ev_lt, ev_vr, ev_li, ev_add, ev_tmod, ev_wrap, ev_bits, ev_ite, ite_int, h0, h1, h2, ta, tb, oa, ob, reduceIte, Int.reduceEq, Int.reduceLT, Int.reduceAdd, Int.reduceNeg, Int.reduceTMod]
  have hx : a % 4294967296 < 4294967296 := Nat.mod_lt _ (by omega)
  have hy : b % 4294967296 < 4294967296 := Nat.mod_lt _ (by omega)
  have wa : IntKind.u32.wrap (a : Int) = ((a % 4294967296 : Nat) : Int) := by rw [wrap_u32]; omega
  have wb : IntKind.u32.wrap (b : Int) = ((b % 4294967296 : Nat) : Int) := by rw [wrap_u32]; omega
  simp only [wa, wb, lowT _ hx, lowT _ hy, highT _ hx, highT _ hy, Int.ofNat_lt]
  generalize a % 4294967296 = x at hx ⊢
  generalize b % 4294967296 = y at hy ⊢
  have d1 : ((x : Int) < 2147483648) = (x < 2147483648) := propext (by omega)
  have d2 : ((y : Int) < 2147483648) = (y < 2147483648) := propext (by omega)
  simp only [Nat.add_lt_add_iff_right, d1, d2]
  by_cases c1 : x < 2147483648 <;> by_cases c2 : y < 2147483648 <;> simp only [c1, c2, if_true, if_false]
  all_goals (repeat' split) <;> omega
set_option maxHeartbeats 4000000 in
theorem e0_77 {ρ : Env} {a b : Nat} (ha : a < 18446744073709551616) (hb : b < 18446744073709551616) (h0 : (ρ.v 0).int = 77) (h1 : (ρ.v 1).int = a) (h2 : (ρ.v 2).int = b) : (e0.ev ρ).bool = true := by
  have ta : (a : Int).tmod 4294967296 = ((a % 4294967296 : Nat) : Int) := by rw [Int.tmod_eq_emod_of_nonneg (by omega)]; omega
  have tb : (b : Int).tmod 4294967296 = ((b % 4294967296 : Nat) : Int) := by rw [Int.tmod_eq_emod_of_nonneg (by omega)]; omega
  have oa := or_high (a % 4294967296) (Nat.mod_lt _ (by omega))
  have ob := or_high (b % 4294967296) (Nat.mod_lt _ (by omega))
  simp only [e0, ev_eqi, ev_lt, ev_vr, ev_li, ev_add, ev_tmod, ev_wrap, ev_bits, ev_ite, ite_int, h0, h1, h2, ta, tb, oa, ob, reduceIte, Int.reduceEq, Int.reduceLT, Int.reduceAdd, Int.reduceNeg, Int.reduceTMod]
  have hx : a % 4294967296 < 4294967296 := Nat.mod_lt _ (by omega)
  have hy : b % 4294967296 < 4294967296 := Nat.mod_lt _ (by omega)
  have wa : IntKind.u32.wrap (a : Int) = ((a % 4294967296 : Nat) : Int) := by rw [wrap_u32]; omega
  have wb : IntKind.u32.wrap (b : Int) = ((b % 4294967296 : Nat) : Int) := by rw [wrap_u32]; omega
  simp only [wa, wb, lowT _ hx, lowT _ hy, highT _ hx, highT _ hy, Int.ofNat_lt]
  generalize a % 4294967296 = x at hx ⊢
  generalize b % 4294967296 = y at hy ⊢
  have d1 : ((x : Int) < 2147483648) = (x < 2147483648) := propext (by omega)
  have d2 : ((y : Int) < 2147483648) = (y < 2147483648) := propext (by omega)
  simp only [Nat.add_lt_add_iff_right, d1, d2]
  by_cases c1 : x < 2147483648 <;> by_cases c2 : y < 2147483648 <;> simp only [c1, c2, if_true, if_false]
  all_goals (repeat' split) <;> omega
set_option maxHeartbeats 4000000 in
theorem e0_85 {ρ : Env} {a b : Nat} (ha : a < 18446744073709551616) (hb : b < 18446744073709551616) (h0 : (ρ.v 0).int = 85) (h1 : (ρ.v 1).int = a) (h2 : (ρ.v 2).int = b) : (e0.ev ρ).bool = true := by
  have ta : (a : Int).tmod 4294967296 = ((a % 4294967296 : Nat) : Int) := by rw [Int.tmod_eq_emod_of_nonneg (by omega)]; omega
  have tb : (b : Int).tmod 4294967296 = ((b % 4294967296 : Nat) : Int) := by rw [Int.tmod_eq_emod_of_nonneg (by omega)]; omega
  have oa := or_high (a % 4294967296) (Nat.mod_lt _ (by omega))
  have ob := or_high (b % 4294967296) (Nat.mod_lt _ (by omega))
  have pa := bits_top a ha
  have pb := bits_top b hb
  simp only [e0, ev_eqi, ev_lt, ev_vr, ev_li, ev_add, ev_tmod, ev_wrap, ev_bits, ev_ite, ite_int, h0, h1, h2, ta, tb, oa, ob, pa, pb, reduceIte, Int.reduceEq, Int.reduceLT, Int.reduceAdd, Int.reduceNeg, Int.reduceTMod]
  have ea := wrap_ui (a : Int) (by omega) (by omega)
  have eb := wrap_ui (b : Int) (by omega) (by omega)
  rw [top_i64] at ea eb
  rw [top_i64, top_i64]
  generalize (a + 9223372036854775808) % 18446744073709551616 = A at ea ⊢
  generalize (b + 9223372036854775808) % 18446744073709551616 = B at eb ⊢
  have k1 : (((B : Nat) : Int) - 9223372036854775808 < (A : Int) - 9223372036854775808) = (B < A) := by simp
  have k2 : (((A : Nat) : Int) - 9223372036854775808 < (B : Int) - 9223372036854775808) = (A < B) := by simp
  simp only [k1, Int.ofNat_lt]
  rcases Nat.lt_trichotomy A B with h | h | h
  · simp only [h, Nat.lt_asymm h, if_true, if_false, ea]
  · subst h
    simp only [Nat.lt_irrefl, if_false]
    first | exact ea | exact eb | rw [ea, ← eb, ea] | omega
  · simp only [h, Nat.lt_asymm h, if_true, if_false, eb]
set_option maxHeartbeats 4000000 in
theorem e0_86 {ρ : Env} {a b : Nat} (ha : a < 18446744073709551616) (hb : b < 18446744073709551616) (h0 : (ρ.v 0).int = 86) (h1 : (ρ.v 1).int = a) (h2 : (ρ.v 2).int = b) : (e0.ev ρ).bool = true := by
  have ta : (a : Int).tmod 4294967296 = ((a % 4294967296 : Nat) : Int) := by rw [Int.tmod_eq_emod_of_nonneg (by omega)]; omega
  have tb : (b : Int).tmod 4294967296 = ((b % 4294967296 : Nat) : Int) := by rw [Int.tmod_eq_emod_of_nonneg (by omega)]; omega
  have oa := or_high (a % 4294967296) (Nat.mod_lt _ (by omega))
  have ob := or_high (b % 4294967296) (Nat.mod_lt _ (by omega))
  have pa := bits_top a ha
  have pb := bits_top b hb
  simp only [e0, ev_eqi, ev_lt, ev_vr, ev_li, ev_add, ev_tmod, ev_wrap, ev_bits, ev_ite, ite_int, h0, h1, h2, ta, tb, oa, ob, pa, pb, reduceIte, Int.reduceEq, Int.reduceLT, Int.reduceAdd, Int.reduceNeg, Int.reduceTMod]
  have ea := wrap_ui (a : Int) (by omega) (by omega)
  have eb := wrap_ui (b : Int) (by omega) (by omega)
  rw [top_i64] at ea eb
  rw [top_i64, top_i64]
  generalize (a + 9223372036854775808) % 18446744073709551616 = A at ea ⊢
  generalize (b + 9223372036854775808) % 18446744073709551616 = B at eb ⊢
  have k1 : (((B : Nat) : Int) - 9223372036854775808 < (A : Int) - 9223372036854775808) = (B < A) := by simp
  have k2 : (((A : Nat) : Int) - 9223372036854775808 < (B : Int) - 9223372036854775808) = (A < B) := by simp
  simp only [k2, Int.ofNat_lt]
  rcases Nat.lt_trichotomy A B with h | h | h
  · simp only [h, Nat.lt_asymm h, if_true, if_false, eb]
  · subst h
    simp only [Nat.lt_irrefl, if_false]
    first | exact ea | exact eb | rw [ea, ← eb, ea] | omega
  · simp only [h, Nat.lt_asymm h, if_true, if_false, ea]
set_option maxHeartbeats 4000000 in
theorem e0_87 {ρ : Env} {a b : Nat} (ha : a < 18446744073709551616) (hb : b < 18446744073709551616) (h0 : (ρ.v 0).int = 87) (h1 : (ρ.v 1).int = a) (h2 : (ρ.v 2).int = b) : (e0.ev ρ).bool = true := by
  have ta : (a : Int).tmod 4294967296 = ((a % 4294967296 : Nat) : Int) := by rw [Int.tmod_eq_emod_of_nonneg (by omega)]; omega
  have tb : (b : Int).tmod 4294967296 = ((b % 4294967296 : Nat) : Int) := by rw [Int.tmod_eq_emod_of_nonneg (by omega)]; omega
  have oa := or_high (a % 4294967296) (Nat.mod_lt _ (by omega))
  have ob := or_high (b % 4294967296) (Nat.mod_lt _ (by omega))
  have pa := bits_top a ha
  have pb := bits_top b hb
  simp only [e0, ev_eqi, ev_lt, ev_vr, ev_li, ev_add, ev_tmod, ev_wrap, ev_bits, ev_ite, ite_int, h0, h1, h2, ta, tb, oa, ob, pa, pb, reduceIte, Int.reduceEq, Int.reduceLT, Int.reduceAdd, Int.reduceNeg, Int.reduceTMod]
  simp only [Int.ofNat_lt]
  (repeat' split) <;> omega
set_option maxHeartbeats 4000000 in
theorem e0_88 {ρ : Env} {a b : Nat} (ha : a < 18446744073709551616) (hb : b < 18446744073709551616) (h0 : (ρ.v 0).int = 88) (h1 : (ρ.v 1).int = a) (h2 : (ρ.v 2).int = b) : (e0.ev ρ).bool = true := by
  have ta : (a : Int).tmod 4294967296 = ((a % 4294967296 : Nat) : Int) := by rw [Int.tmod_eq_emod_of_nonneg (by omega)]; omega
  have tb : (b : Int).tmod 4294967296 = ((b % 4294967296 : Nat) : Int) := by rw [Int.tmod_eq_emod_of_nonneg (by omega)]; omega
  have oa := or_high (a % 4294967296) (Nat.mod_lt _ (by omega))
  have ob := or_high (b % 4294967296) (Nat.mod_lt _ (by omega))
  have pa := bits_top a ha
  have pb := bits_top b hb
  simp only [e0, ev_eqi, ev_lt, ev_vr, ev_li, ev_add, ev_tmod, ev_wrap, ev_bits, ev_ite, ite_int, h0, h1, h2, ta, tb, oa, ob, pa, pb, reduceIte, Int.reduceEq, Int.reduceLT, Int.reduceAdd, Int.reduceNeg, Int.reduceTMod]
  simp only [Int.ofNat_lt]
  (repeat' split) <;> omega
end Go.Proofs.YtdffbokmgdcjaaaGreat.AmoMakesDone
