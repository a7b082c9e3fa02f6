/- What a write makes of a register is what the document says: laws of bits. -/
import Derived.Test.YtdffbokmgdcjaaaDoorCsrWritesPlanC
import Derived.Test.YtdffbokmgdcjaaaDoorEngG13
namespace Go.Proofs.YtdffbokmgdcjaaaDoor.CsrWritesDone
open Go.Eng

section
variable {ρ : Env}

theorem e0_t (a0 : 0 ≤ (ρ.v 1).int) (a1 : (ρ.v 1).int ≤ 18446744073709551615) (v0 : 0 ≤ (ρ.v 34).int) (v1 : (ρ.v 34).int ≤ 18446744073709551615) : (e0.ev ρ).bool = true := by
  obtain ⟨A, hA⟩ := bv64_of a0 a1
  obtain ⟨V, hV⟩ := bv64_of v0 v1
  simp only [e0, ev_eqi, ev_vr, ev_li, ev_add, ev_sub, ev_wrap, ev_bits, hA, hV, lit64 786722 (by decide), b64_and, b64_or, b64_andNot, w64_sub, w64_add, sub_and, mix_bits]

theorem e1_t (a0 : 0 ≤ (ρ.v 2).int) (a1 : (ρ.v 2).int ≤ 18446744073709551615) (b0 : 0 ≤ (ρ.v 6).int) (b1 : (ρ.v 6).int ≤ 18446744073709551615) (v0 : 0 ≤ (ρ.v 34).int) (v1 : (ρ.v 34).int ≤ 18446744073709551615) : (e1.ev ρ).bool = true := by
  obtain ⟨A, hA⟩ := bv64_of a0 a1
  obtain ⟨B, hB⟩ := bv64_of b0 b1
  obtain ⟨V, hV⟩ := bv64_of v0 v1
  simp only [e1, ev_eqi, ev_vr, ev_add, ev_sub, ev_wrap, ev_bits, hA, hB, hV, b64_and, b64_or, b64_andNot, w64_sub, w64_add, sub_and, mix_bits]

theorem e2_t (v0 : 0 ≤ (ρ.v 34).int) (v1 : (ρ.v 34).int ≤ 18446744073709551615) : (e2.ev ρ).bool = true := by
  obtain ⟨V, hV⟩ := bv64_of v0 v1
  simp only [e2, ev_eqi, ev_vr, ev_li, ev_sub, ev_wrap, ev_bits, hV, lit64 18446744073709551613 (by decide), lit64 2 (by decide), b64_and, w64_sub, sub_and]
  rfl

theorem e3_t (v0 : 0 ≤ (ρ.v 34).int) (v1 : (ρ.v 34).int ≤ 18446744073709551615) : (e3.ev ρ).bool = true := by
  simp only [e3, ev_eqi, ev_vr, ev_li, ev_tmod, ev_bits]
  exact and_low 3 (by decide) 7 8 (by decide) (by decide) v0 v1

theorem e4_t (v0 : 0 ≤ (ρ.v 34).int) (v1 : (ρ.v 34).int ≤ 18446744073709551615) : (e4.ev ρ).bool = true := by
  simp only [e4, ev_eqi, ev_vr, ev_li, ev_bits]
  exact and_all v0 v1

theorem e5_t (v0 : 0 ≤ (ρ.v 34).int) (v1 : (ρ.v 34).int ≤ 18446744073709551615) : (e5.ev ρ).bool = true := by
  simp only [e5, ev_eqi, ev_vr, ev_li, ev_sub, ev_tmod, ev_wrap, ev_bits]
  rw [← and_low 1 (by decide) 1 2 (by decide) (by decide) v0 v1]
  obtain ⟨V, hV⟩ := bv64_of v0 v1
  simp only [hV, lit64 18446744073709551614 (by decide)]
  rw [show (1 : Int) = ((1#64).toNat : Int) from rfl, b64_and, b64_and, w64_sub, sub_and]
  rfl

theorem e6_t (a0 : 0 ≤ (ρ.v 3).int) (a1 : (ρ.v 3).int ≤ 18446744073709551615) (b0 : 0 ≤ (ρ.v 6).int) (b1 : (ρ.v 6).int ≤ 18446744073709551615) (v0 : 0 ≤ (ρ.v 34).int) (v1 : (ρ.v 34).int ≤ 18446744073709551615) : (e6.ev ρ).bool = true := by
  obtain ⟨A, hA⟩ := bv64_of a0 a1
  obtain ⟨B, hB⟩ := bv64_of b0 b1
  obtain ⟨V, hV⟩ := bv64_of v0 v1
  simp only [e6, ev_eqi, ev_vr, ev_li, ev_add, ev_sub, ev_wrap, ev_bits, hA, hB, hV, lit64 2 (by decide), b64_and, b64_or, b64_andNot, w64_sub, w64_add, sub_and, mix_bits]

/-- What is kept of mstatus, bit by bit. -/
theorem status_bits (V : BitVec 64) : (if (V &&& 8264106#64) &&& 6144#64 = 4096#64 then (V &&& 8264106#64) &&& ~~~6144#64 else V &&& 8264106#64) =
    (V &&& BitVec.twoPow 64 1) ||| (V &&& BitVec.twoPow 64 3) ||| (V &&& BitVec.twoPow 64 5) ||| (V &&& BitVec.twoPow 64 7) ||| (V &&& BitVec.twoPow 64 8) ||| (V &&& BitVec.twoPow 64 17) ||| (V &&& BitVec.twoPow 64 18) ||| (V &&& BitVec.twoPow 64 19) ||| (V &&& BitVec.twoPow 64 20) ||| (V &&& BitVec.twoPow 64 21) ||| (V &&& BitVec.twoPow 64 22) ||| (V &&& BitVec.twoPow 64 11) |||
      (if V.getLsbD 12 = true ∧ ¬ (V >>> 11) &&& 3#64 = 2#64 then BitVec.twoPow 64 12 else 0#64) := by
  have m : (8264106#64) = (BitVec.twoPow 64 1 ||| BitVec.twoPow 64 3 ||| BitVec.twoPow 64 5 ||| BitVec.twoPow 64 7 ||| BitVec.twoPow 64 8 ||| BitVec.twoPow 64 17 ||| BitVec.twoPow 64 18 ||| BitVec.twoPow 64 19 ||| BitVec.twoPow 64 20 ||| BitVec.twoPow 64 21 ||| BitVec.twoPow 64 22 ||| BitVec.twoPow 64 11 ||| BitVec.twoPow 64 12) := by decide
  have c1 : ((V &&& 8264106#64) &&& 6144#64 = 4096#64) ↔ (V.getLsbD 12 = true ∧ V.getLsbD 11 = false) := by
    constructor
    · intro h
      have h1 := congrArg (fun Y : BitVec 64 => Y.getLsbD 12) h
      have h2 := congrArg (fun Y : BitVec 64 => Y.getLsbD 11) h
      simp only [BitVec.getLsbD_and, show (8264106#64).getLsbD 12 = true from rfl, show (6144#64).getLsbD 12 = true from rfl, show (4096#64).getLsbD 12 = true from rfl, show (8264106#64).getLsbD 11 = true from rfl, show (6144#64).getLsbD 11 = true from rfl, show (4096#64).getLsbD 11 = false from rfl, Bool.and_true] at h1 h2
      exact ⟨h1, h2⟩
    · rintro ⟨h1, h2⟩
      have e : (8264106#64 &&& 6144#64) = (BitVec.twoPow 64 11 ||| BitVec.twoPow 64 12) := by decide
      rw [BitVec.and_assoc, e]
      apply BitVec.eq_of_getLsbD_eq
      intro i hi
      rw [show (4096#64) = BitVec.twoPow 64 12 by decide]
      simp only [BitVec.getLsbD_and, BitVec.getLsbD_or, BitVec.getLsbD_twoPow]
      by_cases e1 : 11 = i
      · subst e1; simp at h2; simp [h2]
      · by_cases e2 : 12 = i
        · subst e2; simp at h1; simp [h1]
        · simp [e1, e2]
  have c2 : ((V >>> 11) &&& 3#64 = 2#64) ↔ (V.getLsbD 12 = true ∧ V.getLsbD 11 = false) := by
    constructor
    · intro h
      have h1 := congrArg (fun Y : BitVec 64 => Y.getLsbD 1) h
      have h2 := congrArg (fun Y : BitVec 64 => Y.getLsbD 0) h
      simp only [BitVec.getLsbD_and, BitVec.getLsbD_ushiftRight, show (3#64).getLsbD 1 = true from rfl, show (2#64).getLsbD 1 = true from rfl, show (3#64).getLsbD 0 = true from rfl, show (2#64).getLsbD 0 = false from rfl, Bool.and_true] at h1 h2
      exact ⟨h1, h2⟩
    · rintro ⟨h1, h2⟩
      apply BitVec.eq_of_getLsbD_eq
      intro i hi
      rw [show (3#64) = (BitVec.twoPow 64 0 ||| BitVec.twoPow 64 1) by decide, show (2#64) = BitVec.twoPow 64 1 by decide]
      simp only [BitVec.getLsbD_and, BitVec.getLsbD_or, BitVec.getLsbD_twoPow, BitVec.getLsbD_ushiftRight]
      by_cases e1 : 0 = i
      · subst e1; simp at h2; simp [h2]
      · by_cases e2 : 1 = i
        · subst e2; simp at h1; simp [h1]
        · simp [e1, e2]
  apply BitVec.eq_of_getLsbD_eq
  intro i hi
  have hn : (~~~6144#64).getLsbD i = !(decide (11 = i) || decide (12 = i)) := by
    rw [show (6144#64) = (BitVec.twoPow 64 11 ||| BitVec.twoPow 64 12) by decide]
    simp only [BitVec.getLsbD_not, BitVec.getLsbD_or, BitVec.getLsbD_twoPow, hi, decide_true, Bool.true_and, Nat.reduceLT]
  by_cases h12 : V.getLsbD 12 = true <;> by_cases h11 : V.getLsbD 11 = true
  all_goals
    simp only [h12, h11, c1, c2, Bool.not_eq_true, Bool.true_eq_false, Bool.false_eq_true, and_true, and_false, true_and, false_and, not_true, not_false_eq_true, if_true, if_false, Bool.not_false]
  all_goals
    simp only [BitVec.getLsbD_and, BitVec.getLsbD_or, hn, m, BitVec.getLsbD_twoPow, BitVec.getLsbD_zero]
    by_cases e1 : 11 = i
    · subst e1; simp at h11; simp [h11]
    · by_cases e2 : 12 = i
      · subst e2; simp at h12; simp [h12]
      · simp only [e1, e2, decide_false, Bool.and_false, Bool.or_false, Bool.false_or, Bool.not_false, Bool.and_true]
        cases V.getLsbD i <;> simp

theorem bit_cond (j : Nat) (n : Int) (hn : n = 2 ^ j) (V : BitVec 64) : (bitsOf .and .u64 ((V.toNat : Int).fdiv n) 1 = 1) = ((V >>> j) &&& 1#64 = 1#64) := by
  rw [fdiv64 j n hn, show (1 : Int) = ((1#64).toNat : Int) from rfl, b64_and, eq64]

theorem e7_t (v0 : 0 ≤ (ρ.v 34).int) (v1 : (ρ.v 34).int ≤ 18446744073709551615) : (e7.ev ρ).bool = true := by
  obtain ⟨V, hV⟩ := bv64_of v0 v1
  have z : (0 : Int) = ((0#64).toNat : Int) := rfl
  have q : ((V >>> 12) &&& 1#64 = 1#64) = (V.getLsbD 12 = true) := by
    apply propext
    constructor
    · intro h
      have := congrArg (fun Y : BitVec 64 => Y.getLsbD 0) h
      simpa using this
    · intro h
      apply BitVec.eq_of_getLsbD_eq
      intro i hi
      by_cases h0 : i = 0
      · subst h0; simp [h]
      · simp [BitVec.getLsbD_one, h0]
  have q3 : (bitsOf .and .u64 ((V.toNat : Int).fdiv 2048) 3 = 2) = ((V >>> 11) &&& 3#64 = 2#64) := by
    rw [fdiv64 11 2048 (by decide), show (3 : Int) = ((3#64).toNat : Int) from rfl, show (2 : Int) = ((2#64).toNat : Int) from rfl, b64_and, eq64]
  simp only [e7, ev_eqi, ev_eqif, ev_and, ev_not, ev_vr, ev_li, ev_fdiv, ev_bits, ev_ite, ite_int, hV, ne_eq, q3,
    bit_cond 1 2 (by decide), bit_cond 3 8 (by decide), bit_cond 5 32 (by decide), bit_cond 7 128 (by decide), bit_cond 8 256 (by decide), bit_cond 17 131072 (by decide), bit_cond 18 262144 (by decide), bit_cond 19 524288 (by decide), bit_cond 20 1048576 (by decide), bit_cond 21 2097152 (by decide), bit_cond 22 4194304 (by decide), bit_cond 11 2048 (by decide), bit_cond 12 4096 (by decide)]
  rw [z]
  simp only [lit64 8264106 (by decide), lit64 6144 (by decide), lit64 4096 (by decide), lit64 2 (by decide), lit64 8 (by decide), lit64 32 (by decide), lit64 128 (by decide), lit64 256 (by decide), lit64 131072 (by decide), lit64 262144 (by decide), lit64 524288 (by decide), lit64 1048576 (by decide), lit64 2097152 (by decide), lit64 4194304 (by decide), lit64 2048 (by decide), b64_and, b64_andNot, eq64, ite64, b64_or]
  have hs := status_bits V
  simp only [bit_and 1 (by decide), bit_and 3 (by decide), bit_and 5 (by decide), bit_and 7 (by decide), bit_and 8 (by decide), bit_and 17 (by decide), bit_and 18 (by decide), bit_and 19 (by decide), bit_and 20 (by decide), bit_and 21 (by decide), bit_and 22 (by decide), bit_and 11 (by decide)] at hs
  simp only [q]
  rw [hs]
  rfl

/-- A byte of the entries, of both. -/
theorem byte_all {a b : Int} (ha0 : 0 ≤ a) (ha1 : a < 256) (hb0 : 0 ≤ b) (hb1 : b < 256) :
    (if bitsOf .and .u8 a 128 ≠ 0 then a else if bitsOf .and .u8 (bitsOf .andNot .u8 b 96) 1 = 0 then bitsOf .andNot .u8 (bitsOf .andNot .u8 b 96) 2 else bitsOf .andNot .u8 b 96) =
    if 128 ≤ a then a else (if (bitsOf .and .u64 b 159).tmod 2 = 0 then bitsOf .and .u64 (bitsOf .and .u64 b 159) 157 else bitsOf .and .u64 b 159) := by
  rw [byte_new hb0 hb1]
  have h : (bitsOf .and .u8 a 128 ≠ 0) = (128 ≤ a) := by
    rw [ne_eq, byte_hi ha0 ha1]; exact propext (by omega)
  simp only [h]
theorem byte_both {a b : Int} (ha0 : 0 ≤ a) (hb0 : 0 ≤ b) :
    (if bitsOf .and .u8 (IntKind.u8.wrap a) 128 ≠ 0 then IntKind.u8.wrap a else if bitsOf .and .u8 (bitsOf .andNot .u8 (IntKind.u8.wrap b) 96) 1 = 0 then bitsOf .andNot .u8 (bitsOf .andNot .u8 (IntKind.u8.wrap b) 96) 2 else bitsOf .andNot .u8 (IntKind.u8.wrap b) 96) =
    if 128 ≤ a.tmod 256 then a.tmod 256 else (if (bitsOf .and .u64 (b.tmod 256) 159).tmod 2 = 0 then bitsOf .and .u64 (bitsOf .and .u64 (b.tmod 256) 159) 157 else bitsOf .and .u64 (b.tmod 256) 159) := by
  have ra := tmod_rng ha0 256 (by decide)
  have rb := tmod_rng hb0 256 (by decide)
  rw [wrap8_tmod ha0, wrap8_tmod hb0, byte_all ra.1 ra.2 rb.1 rb.2]
theorem top_rng {x : Int} (h0 : 0 ≤ x) (h1 : x ≤ 18446744073709551615) : 0 ≤ x.fdiv 72057594037927936 ∧ x.fdiv 72057594037927936 < 256 ∧ (x.fdiv 72057594037927936).tmod 256 = x.fdiv 72057594037927936 := by
  have e : x.fdiv 72057594037927936 = x / 72057594037927936 := Int.fdiv_eq_ediv_of_nonneg _ (by decide)
  have q0 : 0 ≤ x / 72057594037927936 := Int.ediv_nonneg h0 (by decide)
  have q1 : x / 72057594037927936 < 256 := by omega
  rw [e]
  exact ⟨q0, q1, by rw [Int.tmod_eq_emod_of_nonneg q0]; exact Int.emod_eq_of_lt q0 q1⟩

theorem e8_t (a0 : 0 ≤ (ρ.v 22).int) (a1 : (ρ.v 22).int ≤ 18446744073709551615) (v0 : 0 ≤ (ρ.v 34).int) (v1 : (ρ.v 34).int ≤ 18446744073709551615) : (e8.ev ρ).bool = true := by
  have ta := top_rng a0 a1
  have tv := top_rng v0 v1
  simp only [e8, ev_eqi, ev_eqif, ev_lt, ev_ltf, ev_not, ev_vr, ev_li, ev_mul, ev_fdiv, ev_tmod, ev_wrap, ev_bits, ev_ite, ite_int]
  rw [byte_both (fdiv_nn (n := 1) a0 (by decide)) (fdiv_nn (n := 1) v0 (by decide))]
  rw [byte_both (fdiv_nn (n := 256) a0 (by decide)) (fdiv_nn (n := 256) v0 (by decide))]
  rw [byte_both (fdiv_nn (n := 65536) a0 (by decide)) (fdiv_nn (n := 65536) v0 (by decide))]
  rw [byte_both (fdiv_nn (n := 16777216) a0 (by decide)) (fdiv_nn (n := 16777216) v0 (by decide))]
  rw [byte_both (fdiv_nn (n := 4294967296) a0 (by decide)) (fdiv_nn (n := 4294967296) v0 (by decide))]
  rw [byte_both (fdiv_nn (n := 1099511627776) a0 (by decide)) (fdiv_nn (n := 1099511627776) v0 (by decide))]
  rw [byte_both (fdiv_nn (n := 281474976710656) a0 (by decide)) (fdiv_nn (n := 281474976710656) v0 (by decide))]
  rw [byte_all ta.1 ta.2.1 tv.1 tv.2.1, ta.2.2, tv.2.2]

/-- Is the address of an entry free? Of both. -/
theorem free_both {a b : Int} (ha0 : 0 ≤ a) (hb0 : 0 ≤ b) : (bitsOf .and .u8 (IntKind.u8.wrap a) 128 = 0 ∧ (bitsOf .and .u8 (IntKind.u8.wrap b) 128 = 0 ∨ bitsOf .and .u8 (IntKind.u8.wrap b) 24 ≠ 8)) =
    (a.tmod 256 < 128 ∧ (b.tmod 256 < 128 ∨ ((b.tmod 256).tdiv 8).tmod 4 ≠ 1)) := by
  have ra := tmod_rng ha0 256 (by decide)
  have rb := tmod_rng hb0 256 (by decide)
  rw [wrap8_tmod ha0, wrap8_tmod hb0, byte_hi ra.1 ra.2, byte_hi rb.1 rb.2, ne_eq, byte_tor rb.1 rb.2]
theorem free_top {a b : Int} (ha0 : 0 ≤ a) (hb0 : 0 ≤ b) (hb1 : b < 256) : (bitsOf .and .u8 (IntKind.u8.wrap a) 128 = 0 ∧ (bitsOf .and .u8 b 128 = 0 ∨ bitsOf .and .u8 b 24 ≠ 8)) =
    (a.tmod 256 < 128 ∧ (b < 128 ∨ (b.tdiv 8).tmod 4 ≠ 1)) := by
  have ra := tmod_rng ha0 256 (by decide)
  rw [wrap8_tmod ha0, byte_hi ra.1 ra.2, byte_hi hb0 hb1, ne_eq, byte_tor hb0 hb1]

theorem e9_t (a0 : 0 ≤ (ρ.v 22).int) (a1 : (ρ.v 22).int ≤ 18446744073709551615) (v0 : 0 ≤ (ρ.v 34).int) (v1 : (ρ.v 34).int ≤ 18446744073709551615) : (e9.ev ρ).bool = true := by
  have ta := top_rng a0 a1
  simp only [e9, ev_eqi, ev_eqif, ev_lt, ev_ltf, ev_not, ev_notf, ev_or, ev_orf, ev_and, ev_andf, ev_vr, ev_li, ev_fdiv, ev_tdiv, ev_tmod, ev_wrap, ev_bits, ev_ite, ite_int]
  simp only [and_low 54 (by decide) 18014398509481983 18014398509481984 (by decide) (by decide) v0 v1, free_both (fdiv_nn (n := 1) a0 (by decide)) (fdiv_nn (n := 256) a0 (by decide))]

theorem e10_t (a0 : 0 ≤ (ρ.v 22).int) (a1 : (ρ.v 22).int ≤ 18446744073709551615) (v0 : 0 ≤ (ρ.v 34).int) (v1 : (ρ.v 34).int ≤ 18446744073709551615) : (e10.ev ρ).bool = true := by
  have ta := top_rng a0 a1
  simp only [e10, ev_eqi, ev_eqif, ev_lt, ev_ltf, ev_not, ev_notf, ev_or, ev_orf, ev_and, ev_andf, ev_vr, ev_li, ev_fdiv, ev_tdiv, ev_tmod, ev_wrap, ev_bits, ev_ite, ite_int]
  simp only [and_low 54 (by decide) 18014398509481983 18014398509481984 (by decide) (by decide) v0 v1, free_both (fdiv_nn (n := 256) a0 (by decide)) (fdiv_nn (n := 65536) a0 (by decide))]

theorem e11_t (a0 : 0 ≤ (ρ.v 22).int) (a1 : (ρ.v 22).int ≤ 18446744073709551615) (v0 : 0 ≤ (ρ.v 34).int) (v1 : (ρ.v 34).int ≤ 18446744073709551615) : (e11.ev ρ).bool = true := by
  have ta := top_rng a0 a1
  simp only [e11, ev_eqi, ev_eqif, ev_lt, ev_ltf, ev_not, ev_notf, ev_or, ev_orf, ev_and, ev_andf, ev_vr, ev_li, ev_fdiv, ev_tdiv, ev_tmod, ev_wrap, ev_bits, ev_ite, ite_int]
  simp only [and_low 54 (by decide) 18014398509481983 18014398509481984 (by decide) (by decide) v0 v1, free_both (fdiv_nn (n := 65536) a0 (by decide)) (fdiv_nn (n := 16777216) a0 (by decide))]

theorem e12_t (a0 : 0 ≤ (ρ.v 22).int) (a1 : (ρ.v 22).int ≤ 18446744073709551615) (v0 : 0 ≤ (ρ.v 34).int) (v1 : (ρ.v 34).int ≤ 18446744073709551615) : (e12.ev ρ).bool = true := by
  have ta := top_rng a0 a1
  simp only [e12, ev_eqi, ev_eqif, ev_lt, ev_ltf, ev_not, ev_notf, ev_or, ev_orf, ev_and, ev_andf, ev_vr, ev_li, ev_fdiv, ev_tdiv, ev_tmod, ev_wrap, ev_bits, ev_ite, ite_int]
  simp only [and_low 54 (by decide) 18014398509481983 18014398509481984 (by decide) (by decide) v0 v1, free_both (fdiv_nn (n := 16777216) a0 (by decide)) (fdiv_nn (n := 4294967296) a0 (by decide))]

theorem e13_t (a0 : 0 ≤ (ρ.v 22).int) (a1 : (ρ.v 22).int ≤ 18446744073709551615) (v0 : 0 ≤ (ρ.v 34).int) (v1 : (ρ.v 34).int ≤ 18446744073709551615) : (e13.ev ρ).bool = true := by
  have ta := top_rng a0 a1
  simp only [e13, ev_eqi, ev_eqif, ev_lt, ev_ltf, ev_not, ev_notf, ev_or, ev_orf, ev_and, ev_andf, ev_vr, ev_li, ev_fdiv, ev_tdiv, ev_tmod, ev_wrap, ev_bits, ev_ite, ite_int]
  simp only [and_low 54 (by decide) 18014398509481983 18014398509481984 (by decide) (by decide) v0 v1, free_both (fdiv_nn (n := 4294967296) a0 (by decide)) (fdiv_nn (n := 1099511627776) a0 (by decide))]

theorem e14_t (a0 : 0 ≤ (ρ.v 22).int) (a1 : (ρ.v 22).int ≤ 18446744073709551615) (v0 : 0 ≤ (ρ.v 34).int) (v1 : (ρ.v 34).int ≤ 18446744073709551615) : (e14.ev ρ).bool = true := by
  have ta := top_rng a0 a1
  simp only [e14, ev_eqi, ev_eqif, ev_lt, ev_ltf, ev_not, ev_notf, ev_or, ev_orf, ev_and, ev_andf, ev_vr, ev_li, ev_fdiv, ev_tdiv, ev_tmod, ev_wrap, ev_bits, ev_ite, ite_int]
  simp only [and_low 54 (by decide) 18014398509481983 18014398509481984 (by decide) (by decide) v0 v1, free_both (fdiv_nn (n := 1099511627776) a0 (by decide)) (fdiv_nn (n := 281474976710656) a0 (by decide))]

theorem e15_t (a0 : 0 ≤ (ρ.v 22).int) (a1 : (ρ.v 22).int ≤ 18446744073709551615) (v0 : 0 ≤ (ρ.v 34).int) (v1 : (ρ.v 34).int ≤ 18446744073709551615) : (e15.ev ρ).bool = true := by
  have ta := top_rng a0 a1
  simp only [e15, ev_eqi, ev_eqif, ev_lt, ev_ltf, ev_not, ev_notf, ev_or, ev_orf, ev_and, ev_andf, ev_vr, ev_li, ev_fdiv, ev_tdiv, ev_tmod, ev_wrap, ev_bits, ev_ite, ite_int]
  simp only [and_low 54 (by decide) 18014398509481983 18014398509481984 (by decide) (by decide) v0 v1, free_top (fdiv_nn (n := 281474976710656) a0 (by decide)) ta.1 ta.2.1, ta.2.2]

theorem e16_t (a0 : 0 ≤ (ρ.v 22).int) (a1 : (ρ.v 22).int ≤ 18446744073709551615) (v0 : 0 ≤ (ρ.v 34).int) (v1 : (ρ.v 34).int ≤ 18446744073709551615) : (e16.ev ρ).bool = true := by
  have ta := top_rng a0 a1
  simp only [e16, ev_eqi, ev_lt, ev_vr, ev_li, ev_fdiv, ev_tmod, ev_bits, ev_ite, ite_int]
  simp only [and_low 54 (by decide) 18014398509481983 18014398509481984 (by decide) (by decide) v0 v1, byte_hi ta.1 ta.2.1, ta.2.2]
end
end Go.Proofs.YtdffbokmgdcjaaaDoor.CsrWritesDone
