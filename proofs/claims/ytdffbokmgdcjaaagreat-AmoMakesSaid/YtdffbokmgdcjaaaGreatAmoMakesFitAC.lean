/- What Make makes of any two numbers is what the document says, by operation (part A). -/
import Derived.Test.YtdffbokmgdcjaaaGreatAmoMakesFitLC
namespace Go.Proofs.YtdffbokmgdcjaaaGreat.AmoMakesDone
open Go.Eng Go.RowKit
set_option maxHeartbeats 4000000 in
theorem e0_67 {ρ : Env} {a b : Nat} (ha : a < 18446744073709551616) (hb : b < 18446744073709551616) (h0 : (ρ.v 0).int = 67) (h1 : (ρ.v 1).int = a) (h2 : (ρ.v 2).int = b) : (e0.ev ρ).bool = true := by
  have ta : (a : Int).tmod 4294967296 = ((a % 4294967296 : Nat) : Int) := by rw [Int.tmod_eq_emod_of_nonneg (by omega)]; omega
  have tb : (b : Int).tmod 4294967296 = ((b % 4294967296 : Nat) : Int) := by rw [Int.tmod_eq_emod_of_nonneg (by omega)]; omega
  have oa := or_high (a % 4294967296) (Nat.mod_lt _ (by omega))
  have ob := or_high (b % 4294967296) (Nat.mod_lt _ (by omega))
  have pa := bits_top a ha
  have pb := bits_top b hb
  simp only [e0, ev_eqi, ev_lt, ev_vr, ev_li, ev_add, ev_tmod, ev_wrap, ev_bits, ev_ite, h0, h1, h2, ta, tb, oa, ob, pa, pb, reduceIte, Int.reduceEq, Int.reduceLT, Int.reduceAdd, Int.reduceNeg, Int.reduceTMod]
set_option maxHeartbeats 4000000 in
theorem e0_68 {ρ : Env} {a b : Nat} (ha : a < 18446744073709551616) (hb : b < 18446744073709551616) (h0 : (ρ.v 0).int = 68) (h1 : (ρ.v 1).int = a) (h2 : (ρ.v 2).int = b) : (e0.ev ρ).bool = true := by
  have ta : (a : Int).tmod 4294967296 = ((a % 4294967296 : Nat) : Int) := by rw [Int.tmod_eq_emod_of_nonneg (by omega)]; omega
  have tb : (b : Int).tmod 4294967296 = ((b % 4294967296 : Nat) : Int) := by rw [Int.tmod_eq_emod_of_nonneg (by omega)]; omega
  have oa := or_high (a % 4294967296) (Nat.mod_lt _ (by omega))
  have ob := or_high (b % 4294967296) (Nat.mod_lt _ (by omega))
  have pa := bits_top a ha
  have pb := bits_top b hb
  simp only [e0, ev_eqi, ev_lt, ev_vr, ev_li, ev_add, ev_tmod, ev_wrap, ev_bits, ev_ite, h0, h1, h2, ta, tb, oa, ob, pa, pb, reduceIte, Int.reduceEq, Int.reduceLT, Int.reduceAdd, Int.reduceNeg, Int.reduceTMod]
set_option maxHeartbeats 4000000 in
theorem e0_78 {ρ : Env} {a b : Nat} (ha : a < 18446744073709551616) (hb : b < 18446744073709551616) (h0 : (ρ.v 0).int = 78) (h1 : (ρ.v 1).int = a) (h2 : (ρ.v 2).int = b) : (e0.ev ρ).bool = true := by
  have ta : (a : Int).tmod 4294967296 = ((a % 4294967296 : Nat) : Int) := by rw [Int.tmod_eq_emod_of_nonneg (by omega)]; omega
  have tb : (b : Int).tmod 4294967296 = ((b % 4294967296 : Nat) : Int) := by rw [Int.tmod_eq_emod_of_nonneg (by omega)]; omega
  have oa := or_high (a % 4294967296) (Nat.mod_lt _ (by omega))
  have ob := or_high (b % 4294967296) (Nat.mod_lt _ (by omega))
  have pa := bits_top a ha
  have pb := bits_top b hb
  simp only [e0, ev_eqi, ev_lt, ev_vr, ev_li, ev_add, ev_tmod, ev_wrap, ev_bits, ev_ite, h0, h1, h2, ta, tb, oa, ob, pa, pb, reduceIte, Int.reduceEq, Int.reduceLT, Int.reduceAdd, Int.reduceNeg, Int.reduceTMod]
set_option maxHeartbeats 4000000 in
theorem e0_79 {ρ : Env} {a b : Nat} (ha : a < 18446744073709551616) (hb : b < 18446744073709551616) (h0 : (ρ.v 0).int = 79) (h1 : (ρ.v 1).int = a) (h2 : (ρ.v 2).int = b) : (e0.ev ρ).bool = true := by
  have ta : (a : Int).tmod 4294967296 = ((a % 4294967296 : Nat) : Int) := by rw [Int.tmod_eq_emod_of_nonneg (by omega)]; omega
  have tb : (b : Int).tmod 4294967296 = ((b % 4294967296 : Nat) : Int) := by rw [Int.tmod_eq_emod_of_nonneg (by omega)]; omega
  have oa := or_high (a % 4294967296) (Nat.mod_lt _ (by omega))
  have ob := or_high (b % 4294967296) (Nat.mod_lt _ (by omega))
  have pa := bits_top a ha
  have pb := bits_top b hb
  simp only [e0, ev_eqi, ev_lt, ev_vr, ev_li, ev_add, ev_tmod, ev_wrap, ev_bits, ev_ite, h0, h1, h2, ta, tb, oa, ob, pa, pb, reduceIte, Int.reduceEq, Int.reduceLT, Int.reduceAdd, Int.reduceNeg, Int.reduceTMod]
set_option maxHeartbeats 4000000 in
theorem e0_80 {ρ : Env} {a b : Nat} (ha : a < 18446744073709551616) (hb : b < 18446744073709551616) (h0 : (ρ.v 0).int = 80) (h1 : (ρ.v 1).int = a) (h2 : (ρ.v 2).int = b) : (e0.ev ρ).bool = true := by
  have ta : (a : Int).tmod 4294967296 = ((a % 4294967296 : Nat) : Int) := by rw [Int.tmod_eq_emod_of_nonneg (by omega)]; omega
  have tb : (b : Int).tmod 4294967296 = ((b % 4294967296 : Nat) : Int) := by rw [Int.tmod_eq_emod_of_nonneg (by omega)]; omega
  have oa := or_high (a % 4294967296) (Nat.mod_lt _ (by omega))
  have ob := or_high (b % 4294967296) (Nat.mod_lt _ (by omega))
  have pa := bits_top a ha
  have pb := bits_top b hb
  simp only [e0, ev_eqi, ev_lt, ev_vr, ev_li, ev_add, ev_tmod, ev_wrap, ev_bits, ev_ite, h0, h1, h2, ta, tb, oa, ob, pa, pb, reduceIte, Int.reduceEq, Int.reduceLT, Int.reduceAdd, Int.reduceNeg, Int.reduceTMod]
set_option maxHeartbeats 4000000 in
theorem e0_69 {ρ : Env} {a b : Nat} (ha : a < 18446744073709551616) (hb : b < 18446744073709551616) (h0 : (ρ.v 0).int = 69) (h1 : (ρ.v 1).int = a) (h2 : (ρ.v 2).int = b) : (e0.ev ρ).bool = true := by
  have ta : (a : Int).tmod 4294967296 = ((a % 4294967296 : Nat) : Int) := by rw [Int.tmod_eq_emod_of_nonneg (by omega)]; omega
  have tb : (b : Int).tmod 4294967296 = ((b % 4294967296 : Nat) : Int) := by rw [Int.tmod_eq_emod_of_nonneg (by omega)]; omega
  have oa := or_high (a % 4294967296) (Nat.mod_lt _ (by omega))
  have ob := or_high (b % 4294967296) (Nat.mod_lt _ (by omega))
  have pa := bits_top a ha
  have pb := bits_top b hb
  simp only [e0, ev_eqi, ev_lt, ev_vr, ev_li, ev_add, ev_tmod, ev_wrap, ev_bits, ev_ite, ite_int, h0, h1, h2, ta, tb, oa, ob, pa, pb, reduceIte, Int.reduceEq, Int.reduceLT, Int.reduceAdd, Int.reduceNeg, Int.reduceTMod]
  clear h0 h1 h2 ta tb oa ob pa pb
  have am : a % 4294967296 < 4294967296 := Nat.mod_lt _ (by omega)
  have bm : b % 4294967296 < 4294967296 := Nat.mod_lt _ (by omega)
  have tm : ∀ x : Nat, (x : Int).tmod 4294967296 = ((x % 4294967296 : Nat) : Int) := fun x => by rw [Int.tmod_eq_emod_of_nonneg (by omega)]; omega
  have wa : IntKind.u32.wrap (a : Int) = ((a % 4294967296 : Nat) : Int) := by rw [wrap_u32]; omega
  have wb : IntKind.u32.wrap (b : Int) = ((b % 4294967296 : Nat) : Int) := by rw [wrap_u32]; omega
  have tI : ∀ x : Int, 0 ≤ x → x.tmod 4294967296 = x % 4294967296 := fun x hx => Int.tmod_eq_emod_of_nonneg hx
  try simp only [wb, tm]
  first
    | done
    | ((repeat' split) <;> omega)
    | (simp only [wrap_u32, wrap_u64]; (repeat' split) <;> (rw [tI _ (by omega)]; try omega))

set_option maxHeartbeats 4000000 in
theorem e0_70 {ρ : Env} {a b : Nat} (ha : a < 18446744073709551616) (hb : b < 18446744073709551616) (h0 : (ρ.v 0).int = 70) (h1 : (ρ.v 1).int = a) (h2 : (ρ.v 2).int = b) : (e0.ev ρ).bool = true := by
  have ta : (a : Int).tmod 4294967296 = ((a % 4294967296 : Nat) : Int) := by rw [Int.tmod_eq_emod_of_nonneg (by omega)]; omega
  have tb : (b : Int).tmod 4294967296 = ((b % 4294967296 : Nat) : Int) := by rw [Int.tmod_eq_emod_of_nonneg (by omega)]; omega
  have oa := or_high (a % 4294967296) (Nat.mod_lt _ (by omega))
  have ob := or_high (b % 4294967296) (Nat.mod_lt _ (by omega))
  have pa := bits_top a ha
  have pb := bits_top b hb
  simp only [e0, ev_eqi, ev_lt, ev_vr, ev_li, ev_add, ev_tmod, ev_wrap, ev_bits, ev_ite, ite_int, h0, h1, h2, ta, tb, oa, ob, pa, pb, reduceIte, Int.reduceEq, Int.reduceLT, Int.reduceAdd, Int.reduceNeg, Int.reduceTMod]
  clear h0 h1 h2 ta tb oa ob pa pb
  have am : a % 4294967296 < 4294967296 := Nat.mod_lt _ (by omega)
  have bm : b % 4294967296 < 4294967296 := Nat.mod_lt _ (by omega)
  have tm : ∀ x : Nat, (x : Int).tmod 4294967296 = ((x % 4294967296 : Nat) : Int) := fun x => by rw [Int.tmod_eq_emod_of_nonneg (by omega)]; omega
  have wa : IntKind.u32.wrap (a : Int) = ((a % 4294967296 : Nat) : Int) := by rw [wrap_u32]; omega
  have wb : IntKind.u32.wrap (b : Int) = ((b % 4294967296 : Nat) : Int) := by rw [wrap_u32]; omega
  have tI : ∀ x : Int, 0 ≤ x → x.tmod 4294967296 = x % 4294967296 := fun x hx => Int.tmod_eq_emod_of_nonneg hx
  try simp only [wa, wb]
  first
    | done
    | ((repeat' split) <;> omega)
    | (simp only [wrap_u32, wrap_u64]; (repeat' split) <;> (rw [tI _ (by omega)]; try omega))

set_option maxHeartbeats 4000000 in
theorem e0_71 {ρ : Env} {a b : Nat} (ha : a < 18446744073709551616) (hb : b < 18446744073709551616) (h0 : (ρ.v 0).int = 71) (h1 : (ρ.v 1).int = a) (h2 : (ρ.v 2).int = b) : (e0.ev ρ).bool = true := by
  have ta : (a : Int).tmod 4294967296 = ((a % 4294967296 : Nat) : Int) := by rw [Int.tmod_eq_emod_of_nonneg (by omega)]; omega
  have tb : (b : Int).tmod 4294967296 = ((b % 4294967296 : Nat) : Int) := by rw [Int.tmod_eq_emod_of_nonneg (by omega)]; omega
  have oa := or_high (a % 4294967296) (Nat.mod_lt _ (by omega))
  have ob := or_high (b % 4294967296) (Nat.mod_lt _ (by omega))
  have pa := bits_top a ha
  have pb := bits_top b hb
  simp only [e0, ev_eqi, ev_lt, ev_vr, ev_li, ev_add, ev_tmod, ev_wrap, ev_bits, ev_ite, ite_int, h0, h1, h2, ta, tb, oa, ob, pa, pb, reduceIte, Int.reduceEq, Int.reduceLT, Int.reduceAdd, Int.reduceNeg, Int.reduceTMod]
  clear h0 h1 h2 ta tb oa ob pa pb
  have am : a % 4294967296 < 4294967296 := Nat.mod_lt _ (by omega)
  have bm : b % 4294967296 < 4294967296 := Nat.mod_lt _ (by omega)
  have tm : ∀ x : Nat, (x : Int).tmod 4294967296 = ((x % 4294967296 : Nat) : Int) := fun x => by rw [Int.tmod_eq_emod_of_nonneg (by omega)]; omega
  have wa : IntKind.u32.wrap (a : Int) = ((a % 4294967296 : Nat) : Int) := by rw [wrap_u32]; omega
  have wb : IntKind.u32.wrap (b : Int) = ((b % 4294967296 : Nat) : Int) := by rw [wrap_u32]; omega
  have a2 : a % 4294967296 + 18446744069414584320 < 18446744073709551616 := by omega
  have b2 : b % 4294967296 + 18446744069414584320 < 18446744073709551616 := by omega
  have a1 : a % 4294967296 < 18446744073709551616 := by omega
  have b1' : b % 4294967296 < 18446744073709551616 := by omega
  have ra : (a % 4294967296 + 18446744069414584320) % 4294967296 = a % 4294967296 := by omega
  have rb : (b % 4294967296 + 18446744069414584320) % 4294967296 = b % 4294967296 := by omega
  have mx : ∀ x y : Nat, (x ^^^ y) % 4294967296 = (x % 4294967296) ^^^ (y % 4294967296) := fun x y => Nat.xor_mod_two_pow (a := x) (b := y) (n := 32)
  have ma : ∀ x y : Nat, (x &&& y) % 4294967296 = (x % 4294967296) &&& (y % 4294967296) := fun x y => Nat.and_mod_two_pow (a := x) (b := y) (n := 32)
  have mo : ∀ x y : Nat, (x ||| y) % 4294967296 = (x % 4294967296) ||| (y % 4294967296) := fun x y => Nat.or_mod_two_pow (a := x) (b := y) (n := 32)
  have lx := Nat.xor_lt_two_pow (n := 32) am bm
  have lo := Nat.or_lt_two_pow (n := 32) am bm
  have la := Nat.lt_of_le_of_lt (Nat.and_le_left (n := a % 4294967296) (m := b % 4294967296)) am
  simp only [wa, wb, bits_xor32 _ _ am bm, wrap_u32, wrap_u64, bits_xor64 _ _ a1 b1', bits_xor64 _ _ a1 b2, bits_xor64 _ _ a2 b1', bits_xor64 _ _ a2 b2, tm, mx, ra, rb, Nat.mod_mod]
  (repeat' split) <;> omega

set_option maxHeartbeats 4000000 in
theorem e0_72 {ρ : Env} {a b : Nat} (ha : a < 18446744073709551616) (hb : b < 18446744073709551616) (h0 : (ρ.v 0).int = 72) (h1 : (ρ.v 1).int = a) (h2 : (ρ.v 2).int = b) : (e0.ev ρ).bool = true := by
  have ta : (a : Int).tmod 4294967296 = ((a % 4294967296 : Nat) : Int) := by rw [Int.tmod_eq_emod_of_nonneg (by omega)]; omega
  have tb : (b : Int).tmod 4294967296 = ((b % 4294967296 : Nat) : Int) := by rw [Int.tmod_eq_emod_of_nonneg (by omega)]; omega
  have oa := or_high (a % 4294967296) (Nat.mod_lt _ (by omega))
  have ob := or_high (b % 4294967296) (Nat.mod_lt _ (by omega))
  have pa := bits_top a ha
  have pb := bits_top b hb
  simp only [e0, ev_eqi, ev_lt, ev_vr, ev_li, ev_add, ev_tmod, ev_wrap, ev_bits, ev_ite, ite_int, h0, h1, h2, ta, tb, oa, ob, pa, pb, reduceIte, Int.reduceEq, Int.reduceLT, Int.reduceAdd, Int.reduceNeg, Int.reduceTMod]
  clear h0 h1 h2 ta tb oa ob pa pb
  have am : a % 4294967296 < 4294967296 := Nat.mod_lt _ (by omega)
  have bm : b % 4294967296 < 4294967296 := Nat.mod_lt _ (by omega)
  have tm : ∀ x : Nat, (x : Int).tmod 4294967296 = ((x % 4294967296 : Nat) : Int) := fun x => by rw [Int.tmod_eq_emod_of_nonneg (by omega)]; omega
  have wa : IntKind.u32.wrap (a : Int) = ((a % 4294967296 : Nat) : Int) := by rw [wrap_u32]; omega
  have wb : IntKind.u32.wrap (b : Int) = ((b % 4294967296 : Nat) : Int) := by rw [wrap_u32]; omega
  have a2 : a % 4294967296 + 18446744069414584320 < 18446744073709551616 := by omega
  have b2 : b % 4294967296 + 18446744069414584320 < 18446744073709551616 := by omega
  have a1 : a % 4294967296 < 18446744073709551616 := by omega
  have b1' : b % 4294967296 < 18446744073709551616 := by omega
  have ra : (a % 4294967296 + 18446744069414584320) % 4294967296 = a % 4294967296 := by omega
  have rb : (b % 4294967296 + 18446744069414584320) % 4294967296 = b % 4294967296 := by omega
  have mx : ∀ x y : Nat, (x ^^^ y) % 4294967296 = (x % 4294967296) ^^^ (y % 4294967296) := fun x y => Nat.xor_mod_two_pow (a := x) (b := y) (n := 32)
  have ma : ∀ x y : Nat, (x &&& y) % 4294967296 = (x % 4294967296) &&& (y % 4294967296) := fun x y => Nat.and_mod_two_pow (a := x) (b := y) (n := 32)
  have mo : ∀ x y : Nat, (x ||| y) % 4294967296 = (x % 4294967296) ||| (y % 4294967296) := fun x y => Nat.or_mod_two_pow (a := x) (b := y) (n := 32)
  have lx := Nat.xor_lt_two_pow (n := 32) am bm
  have lo := Nat.or_lt_two_pow (n := 32) am bm
  have la := Nat.lt_of_le_of_lt (Nat.and_le_left (n := a % 4294967296) (m := b % 4294967296)) am
  simp only [wa, wb, bits_and32 _ _ am bm, wrap_u32, wrap_u64, bits_and64 _ _ a1 b1', bits_and64 _ _ a1 b2, bits_and64 _ _ a2 b1', bits_and64 _ _ a2 b2, tm, ma, ra, rb, Nat.mod_mod]
  (repeat' split) <;> omega

set_option maxHeartbeats 4000000 in
theorem e0_73 {ρ : Env} {a b : Nat} (ha : a < 18446744073709551616) (hb : b < 18446744073709551616) (h0 : (ρ.v 0).int = 73) (h1 : (ρ.v 1).int = a) (h2 : (ρ.v 2).int = b) : (e0.ev ρ).bool = true := by
  have ta : (a : Int).tmod 4294967296 = ((a % 4294967296 : Nat) : Int) := by rw [Int.tmod_eq_emod_of_nonneg (by omega)]; omega
  have tb : (b : Int).tmod 4294967296 = ((b % 4294967296 : Nat) : Int) := by rw [Int.tmod_eq_emod_of_nonneg (by omega)]; omega
  have oa := or_high (a % 4294967296) (Nat.mod_lt _ (by omega))
  have ob := or_high (b % 4294967296) (Nat.mod_lt _ (by omega))
  have pa := bits_top a ha
  have pb := bits_top b hb
  simp only [e0, ev_eqi, ev_lt, ev_vr, ev_li, ev_add, ev_tmod, ev_wrap, ev_bits, ev_ite, ite_int, h0, h1, h2, ta, tb, oa, ob, pa, pb, reduceIte, Int.reduceEq, Int.reduceLT, Int.reduceAdd, Int.reduceNeg, Int.reduceTMod]
  clear h0 h1 h2 ta tb oa ob pa pb
  have am : a % 4294967296 < 4294967296 := Nat.mod_lt _ (by omega)
  have bm : b % 4294967296 < 4294967296 := Nat.mod_lt _ (by omega)
  have tm : ∀ x : Nat, (x : Int).tmod 4294967296 = ((x % 4294967296 : Nat) : Int) := fun x => by rw [Int.tmod_eq_emod_of_nonneg (by omega)]; omega
  have wa : IntKind.u32.wrap (a : Int) = ((a % 4294967296 : Nat) : Int) := by rw [wrap_u32]; omega
  have wb : IntKind.u32.wrap (b : Int) = ((b % 4294967296 : Nat) : Int) := by rw [wrap_u32]; omega
  have a2 : a % 4294967296 + 18446744069414584320 < 18446744073709551616 := by omega
  have b2 : b % 4294967296 + 18446744069414584320 < 18446744073709551616 := by omega
  have a1 : a % 4294967296 < 18446744073709551616 := by omega
  have b1' : b % 4294967296 < 18446744073709551616 := by omega
  have ra : (a % 4294967296 + 18446744069414584320) % 4294967296 = a % 4294967296 := by omega
  have rb : (b % 4294967296 + 18446744069414584320) % 4294967296 = b % 4294967296 := by omega
  have mx : ∀ x y : Nat, (x ^^^ y) % 4294967296 = (x % 4294967296) ^^^ (y % 4294967296) := fun x y => Nat.xor_mod_two_pow (a := x) (b := y) (n := 32)
  have ma : ∀ x y : Nat, (x &&& y) % 4294967296 = (x % 4294967296) &&& (y % 4294967296) := fun x y => Nat.and_mod_two_pow (a := x) (b := y) (n := 32)
  have mo : ∀ x y : Nat, (x ||| y) % 4294967296 = (x % 4294967296) ||| (y % 4294967296) := fun x y => Nat.or_mod_two_pow (a := x) (b := y) (n := 32)
  have lx := Nat.xor_lt_two_pow (n := 32) am bm
  have lo := Nat.or_lt_two_pow (n := 32) am bm
  have la := Nat.lt_of_le_of_lt (Nat.and_le_left (n := a % 4294967296) (m := b % 4294967296)) am
  simp only [wa, wb, bits_or32 _ _ am bm, wrap_u32, wrap_u64, bits_or64 _ _ a1 b1', bits_or64 _ _ a1 b2, bits_or64 _ _ a2 b1', bits_or64 _ _ a2 b2, tm, mo, ra, rb, Nat.mod_mod]
  (repeat' split) <;> omega
set_option maxHeartbeats 4000000 in
theorem e0_81 {ρ : Env} {a b : Nat} (ha : a < 18446744073709551616) (hb : b < 18446744073709551616) (h0 : (ρ.v 0).int = 81) (h1 : (ρ.v 1).int = a) (h2 : (ρ.v 2).int = b) : (e0.ev ρ).bool = true := by
  have ta : (a : Int).tmod 4294967296 = ((a % 4294967296 : Nat) : Int) := by rw [Int.tmod_eq_emod_of_nonneg (by omega)]; omega
  have tb : (b : Int).tmod 4294967296 = ((b % 4294967296 : Nat) : Int) := by rw [Int.tmod_eq_emod_of_nonneg (by omega)]; omega
  have oa := or_high (a % 4294967296) (Nat.mod_lt _ (by omega))
  have ob := or_high (b % 4294967296) (Nat.mod_lt _ (by omega))
  have pa := bits_top a ha
  have pb := bits_top b hb
  simp only [e0, ev_eqi, ev_lt, ev_vr, ev_li, ev_add, ev_tmod, ev_wrap, ev_bits, ev_ite, h0, h1, h2, ta, tb, oa, ob, pa, pb, reduceIte, Int.reduceEq, Int.reduceLT, Int.reduceAdd, Int.reduceNeg, Int.reduceTMod]
set_option maxHeartbeats 4000000 in
theorem e0_82 {ρ : Env} {a b : Nat} (ha : a < 18446744073709551616) (hb : b < 18446744073709551616) (h0 : (ρ.v 0).int = 82) (h1 : (ρ.v 1).int = a) (h2 : (ρ.v 2).int = b) : (e0.ev ρ).bool = true := by
  have ta : (a : Int).tmod 4294967296 = ((a % 4294967296 : Nat) : Int) := by rw [Int.tmod_eq_emod_of_nonneg (by omega)]; omega
  have tb : (b : Int).tmod 4294967296 = ((b % 4294967296 : Nat) : Int) := by rw [Int.tmod_eq_emod_of_nonneg (by omega)]; omega
  have oa := or_high (a % 4294967296) (Nat.mod_lt _ (by omega))
  have ob := or_high (b % 4294967296) (Nat.mod_lt _ (by omega))
  have pa := bits_top a ha
  have pb := bits_top b hb
  simp only [e0, ev_eqi, ev_lt, ev_vr, ev_li, ev_add, ev_tmod, ev_wrap, ev_bits, ev_ite, h0, h1, h2, ta, tb, oa, ob, pa, pb, reduceIte, Int.reduceEq, Int.reduceLT, Int.reduceAdd, Int.reduceNeg, Int.reduceTMod]
set_option maxHeartbeats 4000000 in
theorem e0_83 {ρ : Env} {a b : Nat} (ha : a < 18446744073709551616) (hb : b < 18446744073709551616) (h0 : (ρ.v 0).int = 83) (h1 : (ρ.v 1).int = a) (h2 : (ρ.v 2).int = b) : (e0.ev ρ).bool = true := by
  have ta : (a : Int).tmod 4294967296 = ((a % 4294967296 : Nat) : Int) := by rw [Int.tmod_eq_emod_of_nonneg (by omega)]; omega
  have tb : (b : Int).tmod 4294967296 = ((b % 4294967296 : Nat) : Int) := by rw [Int.tmod_eq_emod_of_nonneg (by omega)]; omega
  have oa := or_high (a % 4294967296) (Nat.mod_lt _ (by omega))
  have ob := or_high (b % 4294967296) (Nat.mod_lt _ (by omega))
  have pa := bits_top a ha
  have pb := bits_top b hb
  simp only [e0, ev_eqi, ev_lt, ev_vr, ev_li, ev_add, ev_tmod, ev_wrap, ev_bits, ev_ite, h0, h1, h2, ta, tb, oa, ob, pa, pb, reduceIte, Int.reduceEq, Int.reduceLT, Int.reduceAdd, Int.reduceNeg, Int.reduceTMod]
set_option maxHeartbeats 4000000 in
theorem e0_84 {ρ : Env} {a b : Nat} (ha : a < 18446744073709551616) (hb : b < 18446744073709551616) (h0 : (ρ.v 0).int = 84) (h1 : (ρ.v 1).int = a) (h2 : (ρ.v 2).int = b) : (e0.ev ρ).bool = true := by
  have ta : (a : Int).tmod 4294967296 = ((a % 4294967296 : Nat) : Int) := by rw [Int.tmod_eq_emod_of_nonneg (by omega)]; omega
  have tb : (b : Int).tmod 4294967296 = ((b % 4294967296 : Nat) : Int) := by rw [Int.tmod_eq_emod_of_nonneg (by omega)]; omega
  have oa := or_high (a % 4294967296) (Nat.mod_lt _ (by omega))
  have ob := or_high (b % 4294967296) (Nat.mod_lt _ (by omega))
  have pa := bits_top a ha
  have pb := bits_top b hb
  simp only [e0, ev_eqi, ev_lt, ev_vr, ev_li, ev_add, ev_tmod, ev_wrap, ev_bits, ev_ite, h0, h1, h2, ta, tb, oa, ob, pa, pb, reduceIte, Int.reduceEq, Int.reduceLT, Int.reduceAdd, Int.reduceNeg, Int.reduceTMod]
end Go.Proofs.YtdffbokmgdcjaaaGreat.AmoMakesDone
