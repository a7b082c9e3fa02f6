/- What CsrKeeps needs to know of bits: the definitions as they were printed, each shown true. -/
import Derived.Test.YtdffbokmgdcjaaaDoorCsrKeepsBitsC
import Derived.Test.YtdffbokmgdcjaaaDoorEngG13
namespace Go.Proofs.YtdffbokmgdcjaaaDoor.CsrKeepsDone
open Go.Eng
theorem and_idem_int {x M : Int} (h0 : 0 ≤ x) (h1 : x ≤ 18446744073709551615) (m0 : 0 ≤ M) (m1 : M ≤ 18446744073709551615) : bitsOf .and .u64 (bitsOf .and .u64 x M) M = bitsOf .and .u64 x M := by
  obtain ⟨X, rfl⟩ := bv64_of h0 h1
  obtain ⟨Y, rfl⟩ := bv64_of m0 m1
  simp only [b64_and, and_idem]
section
variable {ρ : Env}
def e0 : E := (.bi .eqi (.tr .ite (.bi .eqi (.bi (.bits .and .u64) (.bi (.bits .and .u64) (.tr .ite (.bi .eqi (.bi (.bits .and .u64) (.bi (.bits .and .u64) (.vr 1) (.li 8264106)) (.li 6144)) (.li 4096)) (.bi (.bits .andNot .u64) (.bi (.bits .and .u64) (.vr 1) (.li 8264106)) (.li 6144)) (.bi (.bits .and .u64) (.vr 1) (.li 8264106))) (.li 8264106)) (.li 6144)) (.li 4096)) (.bi (.bits .andNot .u64) (.bi (.bits .and .u64) (.tr .ite (.bi .eqi (.bi (.bits .and .u64) (.bi (.bits .and .u64) (.vr 1) (.li 8264106)) (.li 6144)) (.li 4096)) (.bi (.bits .andNot .u64) (.bi (.bits .and .u64) (.vr 1) (.li 8264106)) (.li 6144)) (.bi (.bits .and .u64) (.vr 1) (.li 8264106))) (.li 8264106)) (.li 6144)) (.bi (.bits .and .u64) (.tr .ite (.bi .eqi (.bi (.bits .and .u64) (.bi (.bits .and .u64) (.vr 1) (.li 8264106)) (.li 6144)) (.li 4096)) (.bi (.bits .andNot .u64) (.bi (.bits .and .u64) (.vr 1) (.li 8264106)) (.li 6144)) (.bi (.bits .and .u64) (.vr 1) (.li 8264106))) (.li 8264106))) (.tr .ite (.bi .eqi (.bi (.bits .and .u64) (.bi (.bits .and .u64) (.vr 1) (.li 8264106)) (.li 6144)) (.li 4096)) (.bi (.bits .andNot .u64) (.bi (.bits .and .u64) (.vr 1) (.li 8264106)) (.li 6144)) (.bi (.bits .and .u64) (.vr 1) (.li 8264106))))
theorem k0 (a1 : 0 ≤ (ρ.v 1).int) (c1 : (ρ.v 1).int ≤ 18446744073709551615) : (e0.ev ρ).bool = true := by
  obtain ⟨A1, h1⟩ := bv64_of a1 c1
  simp only [e0, ev_eqi, ev_ite, ite_int, ev_bits, ev_vr, ev_li, h1]
  simp only [lit64 4096 (by decide), lit64 6144 (by decide), lit64 8264106 (by decide), b64_and, b64_andNot, eq64, ite64]
  simp only [norm_eq]
  refine bit64 fun i => ?_
  simp only [BitVec.getLsbD_and, BitVec.getLsbD_or, BitVec.getLsbD_shiftLeft]
  generalize A1.getLsbD i = x1_0
  generalize A1.getLsbD (i - 1) = x1_1
  generalize A1.getLsbD (i - 1 - 1) = x1_2
  generalize A1.getLsbD (i - 1 - 1 - 1) = x1_3
  clear h1
  revert i x1_0 x1_1 x1_2 x1_3
  decide +kernel
def e1 : E := (.bi .eqi (.bi (.bits .and .u64) (.bi (.bits .and .u64) (.vr 2) (.li 2730)) (.li 2730)) (.bi (.bits .and .u64) (.vr 2) (.li 2730)))
theorem k1 (a2 : 0 ≤ (ρ.v 2).int) (c2 : (ρ.v 2).int ≤ 18446744073709551615) : (e1.ev ρ).bool = true := by
  simp only [e1, ev_eqi, ev_bits, ev_vr, ev_li]
  exact and_idem_int a2 c2 (by decide) (by decide)
def e2 : E := (.bi .eqi (.bi (.bits .and .u64) (.bi (.bits .and .u64) (.vr 3) (.li 546)) (.li 546)) (.bi (.bits .and .u64) (.vr 3) (.li 546)))
theorem k2 (a3 : 0 ≤ (ρ.v 3).int) (c3 : (ρ.v 3).int ≤ 18446744073709551615) : (e2.ev ρ).bool = true := by
  simp only [e2, ev_eqi, ev_bits, ev_vr, ev_li]
  exact and_idem_int a3 c3 (by decide) (by decide)
def e3 : E := (.bi .eqi (.bi (.bits .and .u64) (.bi (.bits .and .u64) (.vr 4) (.li 2696)) (.li 2696)) (.bi (.bits .and .u64) (.vr 4) (.li 2696)))
theorem k3 (a4 : 0 ≤ (ρ.v 4).int) (c4 : (ρ.v 4).int ≤ 18446744073709551615) : (e3.ev ρ).bool = true := by
  simp only [e3, ev_eqi, ev_bits, ev_vr, ev_li]
  exact and_idem_int a4 c4 (by decide) (by decide)
def e4 : E := (.bi .eqi (.bi (.bits .and .u64) (.bi (.bits .and .u64) (.vr 5) (.li 46079)) (.li 46079)) (.bi (.bits .and .u64) (.vr 5) (.li 46079)))
theorem k4 (a5 : 0 ≤ (ρ.v 5).int) (c5 : (ρ.v 5).int ≤ 18446744073709551615) : (e4.ev ρ).bool = true := by
  simp only [e4, ev_eqi, ev_bits, ev_vr, ev_li]
  exact and_idem_int a5 c5 (by decide) (by decide)
def e5 : E := (.bi .eqi (.bi (.bits .and .u64) (.bi (.bits .and .u64) (.vr 6) (.li 546)) (.li 546)) (.bi (.bits .and .u64) (.vr 6) (.li 546)))
theorem k5 (a6 : 0 ≤ (ρ.v 6).int) (c6 : (ρ.v 6).int ≤ 18446744073709551615) : (e5.ev ρ).bool = true := by
  simp only [e5, ev_eqi, ev_bits, ev_vr, ev_li]
  exact and_idem_int a6 c6 (by decide) (by decide)
def e6 : E := (.bi .eqi (.bi (.bits .and .u64) (.bi (.bits .and .u64) (.vr 7) (.li 18446744073709551613)) (.li 18446744073709551613)) (.bi (.bits .and .u64) (.vr 7) (.li 18446744073709551613)))
theorem k6 (a7 : 0 ≤ (ρ.v 7).int) (c7 : (ρ.v 7).int ≤ 18446744073709551615) : (e6.ev ρ).bool = true := by
  simp only [e6, ev_eqi, ev_bits, ev_vr, ev_li]
  exact and_idem_int a7 c7 (by decide) (by decide)
def e7 : E := (.bi .eqi (.bi (.bits .and .u64) (.bi (.bits .and .u64) (.vr 8) (.li 18446744073709551614)) (.li 18446744073709551614)) (.bi (.bits .and .u64) (.vr 8) (.li 18446744073709551614)))
theorem k7 (a8 : 0 ≤ (ρ.v 8).int) (c8 : (ρ.v 8).int ≤ 18446744073709551615) : (e7.ev ρ).bool = true := by
  simp only [e7, ev_eqi, ev_bits, ev_vr, ev_li]
  exact and_idem_int a8 c8 (by decide) (by decide)
def e8 : E := (.bi .eqi (.bi (.bits .and .u64) (.bi (.bits .and .u64) (.vr 9) (.li 18446744073709551615)) (.li 18446744073709551615)) (.bi (.bits .and .u64) (.vr 9) (.li 18446744073709551615)))
theorem k8 (a9 : 0 ≤ (ρ.v 9).int) (c9 : (ρ.v 9).int ≤ 18446744073709551615) : (e8.ev ρ).bool = true := by
  simp only [e8, ev_eqi, ev_bits, ev_vr, ev_li]
  exact and_idem_int a9 c9 (by decide) (by decide)
def e9 : E := (.bi .eqi (.bi (.bits .and .u64) (.bi (.bits .and .u64) (.vr 10) (.li 18446744073709551615)) (.li 18446744073709551615)) (.bi (.bits .and .u64) (.vr 10) (.li 18446744073709551615)))
theorem k9 (a10 : 0 ≤ (ρ.v 10).int) (c10 : (ρ.v 10).int ≤ 18446744073709551615) : (e9.ev ρ).bool = true := by
  simp only [e9, ev_eqi, ev_bits, ev_vr, ev_li]
  exact and_idem_int a10 c10 (by decide) (by decide)
def e10 : E := (.bi .eqi (.bi (.bits .and .u64) (.bi (.bits .and .u64) (.vr 11) (.li 18446744073709551615)) (.li 18446744073709551615)) (.bi (.bits .and .u64) (.vr 11) (.li 18446744073709551615)))
theorem k10 (a11 : 0 ≤ (ρ.v 11).int) (c11 : (ρ.v 11).int ≤ 18446744073709551615) : (e10.ev ρ).bool = true := by
  simp only [e10, ev_eqi, ev_bits, ev_vr, ev_li]
  exact and_idem_int a11 c11 (by decide) (by decide)
def e11 : E := (.bi .eqi (.bi (.bits .and .u64) (.bi (.bits .and .u64) (.vr 12) (.li 7)) (.li 7)) (.bi (.bits .and .u64) (.vr 12) (.li 7)))
theorem k11 (a12 : 0 ≤ (ρ.v 12).int) (c12 : (ρ.v 12).int ≤ 18446744073709551615) : (e11.ev ρ).bool = true := by
  simp only [e11, ev_eqi, ev_bits, ev_vr, ev_li]
  exact and_idem_int a12 c12 (by decide) (by decide)
def e12 : E := (.bi .eqi (.bi (.bits .and .u64) (.bi (.bits .and .u64) (.vr 13) (.li 18446744073709551613)) (.li 18446744073709551613)) (.bi (.bits .and .u64) (.vr 13) (.li 18446744073709551613)))
theorem k12 (a13 : 0 ≤ (ρ.v 13).int) (c13 : (ρ.v 13).int ≤ 18446744073709551615) : (e12.ev ρ).bool = true := by
  simp only [e12, ev_eqi, ev_bits, ev_vr, ev_li]
  exact and_idem_int a13 c13 (by decide) (by decide)
def e13 : E := (.bi .eqi (.bi (.bits .and .u64) (.bi (.bits .and .u64) (.vr 14) (.li 18446744073709551614)) (.li 18446744073709551614)) (.bi (.bits .and .u64) (.vr 14) (.li 18446744073709551614)))
theorem k13 (a14 : 0 ≤ (ρ.v 14).int) (c14 : (ρ.v 14).int ≤ 18446744073709551615) : (e13.ev ρ).bool = true := by
  simp only [e13, ev_eqi, ev_bits, ev_vr, ev_li]
  exact and_idem_int a14 c14 (by decide) (by decide)
def e14 : E := (.bi .eqi (.bi (.bits .and .u64) (.bi (.bits .and .u64) (.vr 15) (.li 18446744073709551615)) (.li 18446744073709551615)) (.bi (.bits .and .u64) (.vr 15) (.li 18446744073709551615)))
theorem k14 (a15 : 0 ≤ (ρ.v 15).int) (c15 : (ρ.v 15).int ≤ 18446744073709551615) : (e14.ev ρ).bool = true := by
  simp only [e14, ev_eqi, ev_bits, ev_vr, ev_li]
  exact and_idem_int a15 c15 (by decide) (by decide)
def e15 : E := (.bi .eqi (.bi (.bits .and .u64) (.bi (.bits .and .u64) (.vr 16) (.li 18446744073709551615)) (.li 18446744073709551615)) (.bi (.bits .and .u64) (.vr 16) (.li 18446744073709551615)))
theorem k15 (a16 : 0 ≤ (ρ.v 16).int) (c16 : (ρ.v 16).int ≤ 18446744073709551615) : (e15.ev ρ).bool = true := by
  simp only [e15, ev_eqi, ev_bits, ev_vr, ev_li]
  exact and_idem_int a16 c16 (by decide) (by decide)
def e16 : E := (.bi .eqi (.bi (.bits .and .u64) (.bi (.bits .and .u64) (.vr 17) (.li 18446744073709551615)) (.li 18446744073709551615)) (.bi (.bits .and .u64) (.vr 17) (.li 18446744073709551615)))
theorem k16 (a17 : 0 ≤ (ρ.v 17).int) (c17 : (ρ.v 17).int ≤ 18446744073709551615) : (e16.ev ρ).bool = true := by
  simp only [e16, ev_eqi, ev_bits, ev_vr, ev_li]
  exact and_idem_int a17 c17 (by decide) (by decide)
def e17 : E := (.bi .eqi (.bi (.bits .and .u64) (.bi (.bits .and .u64) (.vr 18) (.li 7)) (.li 7)) (.bi (.bits .and .u64) (.vr 18) (.li 7)))
theorem k17 (a18 : 0 ≤ (ρ.v 18).int) (c18 : (ρ.v 18).int ≤ 18446744073709551615) : (e17.ev ρ).bool = true := by
  simp only [e17, ev_eqi, ev_bits, ev_vr, ev_li]
  exact and_idem_int a18 c18 (by decide) (by decide)
def e20 : E := (.bi .eqi (.bi (.bits .and .u64) (.bi (.bits .and .u64) (.vr 23) (.li 18014398509481983)) (.li 18014398509481983)) (.bi (.bits .and .u64) (.vr 23) (.li 18014398509481983)))
theorem k20 (a23 : 0 ≤ (ρ.v 23).int) (c23 : (ρ.v 23).int ≤ 18446744073709551615) : (e20.ev ρ).bool = true := by
  simp only [e20, ev_eqi, ev_bits, ev_vr, ev_li]
  exact and_idem_int a23 c23 (by decide) (by decide)
def e21 : E := (.bi .eqi (.bi (.bits .and .u64) (.bi (.bits .and .u64) (.vr 24) (.li 18014398509481983)) (.li 18014398509481983)) (.bi (.bits .and .u64) (.vr 24) (.li 18014398509481983)))
theorem k21 (a24 : 0 ≤ (ρ.v 24).int) (c24 : (ρ.v 24).int ≤ 18446744073709551615) : (e21.ev ρ).bool = true := by
  simp only [e21, ev_eqi, ev_bits, ev_vr, ev_li]
  exact and_idem_int a24 c24 (by decide) (by decide)
def e22 : E := (.bi .eqi (.bi (.bits .and .u64) (.bi (.bits .and .u64) (.vr 25) (.li 18014398509481983)) (.li 18014398509481983)) (.bi (.bits .and .u64) (.vr 25) (.li 18014398509481983)))
theorem k22 (a25 : 0 ≤ (ρ.v 25).int) (c25 : (ρ.v 25).int ≤ 18446744073709551615) : (e22.ev ρ).bool = true := by
  simp only [e22, ev_eqi, ev_bits, ev_vr, ev_li]
  exact and_idem_int a25 c25 (by decide) (by decide)
def e23 : E := (.bi .eqi (.bi (.bits .and .u64) (.bi (.bits .and .u64) (.vr 26) (.li 18014398509481983)) (.li 18014398509481983)) (.bi (.bits .and .u64) (.vr 26) (.li 18014398509481983)))
theorem k23 (a26 : 0 ≤ (ρ.v 26).int) (c26 : (ρ.v 26).int ≤ 18446744073709551615) : (e23.ev ρ).bool = true := by
  simp only [e23, ev_eqi, ev_bits, ev_vr, ev_li]
  exact and_idem_int a26 c26 (by decide) (by decide)
def e24 : E := (.bi .eqi (.bi (.bits .and .u64) (.bi (.bits .and .u64) (.vr 27) (.li 18014398509481983)) (.li 18014398509481983)) (.bi (.bits .and .u64) (.vr 27) (.li 18014398509481983)))
theorem k24 (a27 : 0 ≤ (ρ.v 27).int) (c27 : (ρ.v 27).int ≤ 18446744073709551615) : (e24.ev ρ).bool = true := by
  simp only [e24, ev_eqi, ev_bits, ev_vr, ev_li]
  exact and_idem_int a27 c27 (by decide) (by decide)
def e25 : E := (.bi .eqi (.bi (.bits .and .u64) (.bi (.bits .and .u64) (.vr 28) (.li 18014398509481983)) (.li 18014398509481983)) (.bi (.bits .and .u64) (.vr 28) (.li 18014398509481983)))
theorem k25 (a28 : 0 ≤ (ρ.v 28).int) (c28 : (ρ.v 28).int ≤ 18446744073709551615) : (e25.ev ρ).bool = true := by
  simp only [e25, ev_eqi, ev_bits, ev_vr, ev_li]
  exact and_idem_int a28 c28 (by decide) (by decide)
def e26 : E := (.bi .eqi (.bi (.bits .and .u64) (.bi (.bits .and .u64) (.vr 29) (.li 18014398509481983)) (.li 18014398509481983)) (.bi (.bits .and .u64) (.vr 29) (.li 18014398509481983)))
theorem k26 (a29 : 0 ≤ (ρ.v 29).int) (c29 : (ρ.v 29).int ≤ 18446744073709551615) : (e26.ev ρ).bool = true := by
  simp only [e26, ev_eqi, ev_bits, ev_vr, ev_li]
  exact and_idem_int a29 c29 (by decide) (by decide)
def e27 : E := (.bi .eqi (.bi (.bits .and .u64) (.bi (.bits .and .u64) (.vr 30) (.li 18014398509481983)) (.li 18014398509481983)) (.bi (.bits .and .u64) (.vr 30) (.li 18014398509481983)))
theorem k27 (a30 : 0 ≤ (ρ.v 30).int) (c30 : (ρ.v 30).int ≤ 18446744073709551615) : (e27.ev ρ).bool = true := by
  simp only [e27, ev_eqi, ev_bits, ev_vr, ev_li]
  exact and_idem_int a30 c30 (by decide) (by decide)
def e28 : E := (.bi .eqi (.tr .ite (.bi .eqi (.bi (.bits .and .u64) (.bi (.bits .and .u64) (.bi (.bits .or .u64) (.bi (.bits .andNot .u64) (.tr .ite (.bi .eqi (.bi (.bits .and .u64) (.bi (.bits .and .u64) (.vr 1) (.li 8264106)) (.li 6144)) (.li 4096)) (.bi (.bits .andNot .u64) (.bi (.bits .and .u64) (.vr 1) (.li 8264106)) (.li 6144)) (.bi (.bits .and .u64) (.vr 1) (.li 8264106))) (.li 786722)) (.bi (.bits .and .u64) (.vr 34) (.li 786722))) (.li 8264106)) (.li 6144)) (.li 4096)) (.bi (.bits .andNot .u64) (.bi (.bits .and .u64) (.bi (.bits .or .u64) (.bi (.bits .andNot .u64) (.tr .ite (.bi .eqi (.bi (.bits .and .u64) (.bi (.bits .and .u64) (.vr 1) (.li 8264106)) (.li 6144)) (.li 4096)) (.bi (.bits .andNot .u64) (.bi (.bits .and .u64) (.vr 1) (.li 8264106)) (.li 6144)) (.bi (.bits .and .u64) (.vr 1) (.li 8264106))) (.li 786722)) (.bi (.bits .and .u64) (.vr 34) (.li 786722))) (.li 8264106)) (.li 6144)) (.bi (.bits .and .u64) (.bi (.bits .or .u64) (.bi (.bits .andNot .u64) (.tr .ite (.bi .eqi (.bi (.bits .and .u64) (.bi (.bits .and .u64) (.vr 1) (.li 8264106)) (.li 6144)) (.li 4096)) (.bi (.bits .andNot .u64) (.bi (.bits .and .u64) (.vr 1) (.li 8264106)) (.li 6144)) (.bi (.bits .and .u64) (.vr 1) (.li 8264106))) (.li 786722)) (.bi (.bits .and .u64) (.vr 34) (.li 786722))) (.li 8264106))) (.bi (.bits .or .u64) (.bi (.bits .andNot .u64) (.tr .ite (.bi .eqi (.bi (.bits .and .u64) (.bi (.bits .and .u64) (.vr 1) (.li 8264106)) (.li 6144)) (.li 4096)) (.bi (.bits .andNot .u64) (.bi (.bits .and .u64) (.vr 1) (.li 8264106)) (.li 6144)) (.bi (.bits .and .u64) (.vr 1) (.li 8264106))) (.li 786722)) (.bi (.bits .and .u64) (.vr 34) (.li 786722))))
theorem k28 (a1 : 0 ≤ (ρ.v 1).int) (c1 : (ρ.v 1).int ≤ 18446744073709551615) (a34 : 0 ≤ (ρ.v 34).int) (c34 : (ρ.v 34).int ≤ 18446744073709551615) : (e28.ev ρ).bool = true := by
  obtain ⟨A1, h1⟩ := bv64_of a1 c1
  obtain ⟨A34, h34⟩ := bv64_of a34 c34
  simp only [e28, ev_eqi, ev_ite, ite_int, ev_bits, ev_vr, ev_li, h1, h34]
  simp only [lit64 4096 (by decide), lit64 6144 (by decide), lit64 786722 (by decide), lit64 8264106 (by decide), b64_and, b64_or, b64_andNot, eq64, ite64]
  simp only [norm_eq]
  refine bit64 fun i => ?_
  simp only [BitVec.getLsbD_and, BitVec.getLsbD_or, BitVec.getLsbD_not, BitVec.getLsbD_shiftLeft]
  generalize A1.getLsbD i = x1_0
  generalize A1.getLsbD (i - 1) = x1_1
  generalize A1.getLsbD (i - 1 - 1) = x1_2
  generalize A1.getLsbD (i - 1 - 1 - 1) = x1_3
  generalize A34.getLsbD i = x34_0
  generalize A34.getLsbD (i - 1) = x34_1
  generalize A34.getLsbD (i - 1 - 1) = x34_2
  generalize A34.getLsbD (i - 1 - 1 - 1) = x34_3
  clear h1 h34
  revert i x1_0 x1_1 x1_2 x1_3 x34_0 x34_1 x34_2 x34_3
  decide +kernel
def e29 : E := (.bi .eqi (.bi (.bits .or .u64) (.bi (.bits .andNot .u64) (.bi (.bits .or .u64) (.bi (.bits .andNot .u64) (.tr .ite (.bi .eqi (.bi (.bits .and .u64) (.bi (.bits .and .u64) (.vr 1) (.li 8264106)) (.li 6144)) (.li 4096)) (.bi (.bits .andNot .u64) (.bi (.bits .and .u64) (.vr 1) (.li 8264106)) (.li 6144)) (.bi (.bits .and .u64) (.vr 1) (.li 8264106))) (.li 786722)) (.bi (.bits .and .u64) (.vr 34) (.li 786722))) (.li 786722)) (.bi (.bits .and .u64) (.bi (.bits .or .u64) (.bi (.bits .and .u64) (.bi (.bits .or .u64) (.bi (.bits .andNot .u64) (.tr .ite (.bi .eqi (.bi (.bits .and .u64) (.bi (.bits .and .u64) (.vr 1) (.li 8264106)) (.li 6144)) (.li 4096)) (.bi (.bits .andNot .u64) (.bi (.bits .and .u64) (.vr 1) (.li 8264106)) (.li 6144)) (.bi (.bits .and .u64) (.vr 1) (.li 8264106))) (.li 786722)) (.bi (.bits .and .u64) (.vr 34) (.li 786722))) (.li 786722)) (.li 8589934592)) (.li 786722))) (.bi (.bits .or .u64) (.bi (.bits .andNot .u64) (.tr .ite (.bi .eqi (.bi (.bits .and .u64) (.bi (.bits .and .u64) (.vr 1) (.li 8264106)) (.li 6144)) (.li 4096)) (.bi (.bits .andNot .u64) (.bi (.bits .and .u64) (.vr 1) (.li 8264106)) (.li 6144)) (.bi (.bits .and .u64) (.vr 1) (.li 8264106))) (.li 786722)) (.bi (.bits .and .u64) (.vr 34) (.li 786722))))
theorem k29 (a1 : 0 ≤ (ρ.v 1).int) (c1 : (ρ.v 1).int ≤ 18446744073709551615) (a34 : 0 ≤ (ρ.v 34).int) (c34 : (ρ.v 34).int ≤ 18446744073709551615) : (e29.ev ρ).bool = true := by
  obtain ⟨A1, h1⟩ := bv64_of a1 c1
  obtain ⟨A34, h34⟩ := bv64_of a34 c34
  simp only [e29, ev_eqi, ev_ite, ite_int, ev_bits, ev_vr, ev_li, h1, h34]
  simp only [lit64 4096 (by decide), lit64 6144 (by decide), lit64 786722 (by decide), lit64 8264106 (by decide), lit64 8589934592 (by decide), b64_and, b64_or, b64_andNot, eq64, ite64]
  simp only [norm_eq]
  refine bit64 fun i => ?_
  simp only [BitVec.getLsbD_and, BitVec.getLsbD_or, BitVec.getLsbD_not, BitVec.getLsbD_shiftLeft]
  generalize A1.getLsbD i = x1_0
  generalize A1.getLsbD (i - 1) = x1_1
  generalize A1.getLsbD (i - 1 - 1) = x1_2
  generalize A1.getLsbD (i - 1 - 1 - 1) = x1_3
  generalize A34.getLsbD i = x34_0
  generalize A34.getLsbD (i - 1) = x34_1
  generalize A34.getLsbD (i - 1 - 1) = x34_2
  generalize A34.getLsbD (i - 1 - 1 - 1) = x34_3
  clear h1 h34
  revert i x1_0 x1_1 x1_2 x1_3 x34_0 x34_1 x34_2 x34_3
  decide +kernel
def e30 : E := (.bi .eqi (.bi (.bits .and .u64) (.bi (.bits .or .u64) (.bi (.bits .andNot .u64) (.bi (.bits .and .u64) (.vr 2) (.li 2730)) (.bi (.bits .and .u64) (.vr 6) (.li 546))) (.bi (.bits .and .u64) (.vr 34) (.bi (.bits .and .u64) (.vr 6) (.li 546)))) (.li 2730)) (.bi (.bits .or .u64) (.bi (.bits .andNot .u64) (.bi (.bits .and .u64) (.vr 2) (.li 2730)) (.bi (.bits .and .u64) (.vr 6) (.li 546))) (.bi (.bits .and .u64) (.vr 34) (.bi (.bits .and .u64) (.vr 6) (.li 546)))))
theorem k30 (a2 : 0 ≤ (ρ.v 2).int) (c2 : (ρ.v 2).int ≤ 18446744073709551615) (a6 : 0 ≤ (ρ.v 6).int) (c6 : (ρ.v 6).int ≤ 18446744073709551615) (a34 : 0 ≤ (ρ.v 34).int) (c34 : (ρ.v 34).int ≤ 18446744073709551615) : (e30.ev ρ).bool = true := by
  obtain ⟨A2, h2⟩ := bv64_of a2 c2
  obtain ⟨A6, h6⟩ := bv64_of a6 c6
  obtain ⟨A34, h34⟩ := bv64_of a34 c34
  simp only [e30, ev_eqi, ev_bits, ev_vr, ev_li, h2, h6, h34]
  simp only [lit64 546 (by decide), lit64 2730 (by decide), b64_and, b64_or, b64_andNot, eq64]
  refine bit64 fun i => ?_
  simp only [BitVec.getLsbD_and, BitVec.getLsbD_or, BitVec.getLsbD_not]
  generalize A2.getLsbD i = x2_0
  generalize A6.getLsbD i = x6_0
  generalize A34.getLsbD i = x34_0
  clear h2 h6 h34
  revert i x2_0 x6_0 x34_0
  decide +kernel
def e31 : E := (.bi .eqi (.bi (.bits .or .u64) (.bi (.bits .andNot .u64) (.bi (.bits .or .u64) (.bi (.bits .andNot .u64) (.bi (.bits .and .u64) (.vr 2) (.li 2730)) (.bi (.bits .and .u64) (.vr 6) (.li 546))) (.bi (.bits .and .u64) (.vr 34) (.bi (.bits .and .u64) (.vr 6) (.li 546)))) (.bi (.bits .and .u64) (.vr 6) (.li 546))) (.bi (.bits .and .u64) (.bi (.bits .and .u64) (.bi (.bits .or .u64) (.bi (.bits .andNot .u64) (.bi (.bits .and .u64) (.vr 2) (.li 2730)) (.bi (.bits .and .u64) (.vr 6) (.li 546))) (.bi (.bits .and .u64) (.vr 34) (.bi (.bits .and .u64) (.vr 6) (.li 546)))) (.bi (.bits .and .u64) (.vr 6) (.li 546))) (.bi (.bits .and .u64) (.vr 6) (.li 546)))) (.bi (.bits .or .u64) (.bi (.bits .andNot .u64) (.bi (.bits .and .u64) (.vr 2) (.li 2730)) (.bi (.bits .and .u64) (.vr 6) (.li 546))) (.bi (.bits .and .u64) (.vr 34) (.bi (.bits .and .u64) (.vr 6) (.li 546)))))
theorem k31 (a2 : 0 ≤ (ρ.v 2).int) (c2 : (ρ.v 2).int ≤ 18446744073709551615) (a6 : 0 ≤ (ρ.v 6).int) (c6 : (ρ.v 6).int ≤ 18446744073709551615) (a34 : 0 ≤ (ρ.v 34).int) (c34 : (ρ.v 34).int ≤ 18446744073709551615) : (e31.ev ρ).bool = true := by
  obtain ⟨A2, h2⟩ := bv64_of a2 c2
  obtain ⟨A6, h6⟩ := bv64_of a6 c6
  obtain ⟨A34, h34⟩ := bv64_of a34 c34
  simp only [e31, ev_eqi, ev_bits, ev_vr, ev_li, h2, h6, h34]
  simp only [lit64 546 (by decide), lit64 2730 (by decide), b64_and, b64_or, b64_andNot, eq64]
  refine bit64 fun i => ?_
  simp only [BitVec.getLsbD_and, BitVec.getLsbD_or, BitVec.getLsbD_not]
  generalize A2.getLsbD i = x2_0
  generalize A6.getLsbD i = x6_0
  generalize A34.getLsbD i = x34_0
  clear h2 h6 h34
  revert i x2_0 x6_0 x34_0
  decide +kernel
def e32 : E := (.bi .eqi (.bi (.bits .and .u64) (.bi (.bits .and .u64) (.vr 34) (.li 18446744073709551613)) (.li 18446744073709551613)) (.bi (.bits .and .u64) (.vr 34) (.li 18446744073709551613)))
theorem k32 (a34 : 0 ≤ (ρ.v 34).int) (c34 : (ρ.v 34).int ≤ 18446744073709551615) : (e32.ev ρ).bool = true := by
  simp only [e32, ev_eqi, ev_bits, ev_vr, ev_li]
  exact and_idem_int a34 c34 (by decide) (by decide)
def e33 : E := (.bi .eqi (.bi (.bits .and .u64) (.bi (.bits .and .u64) (.vr 34) (.li 7)) (.li 7)) (.bi (.bits .and .u64) (.vr 34) (.li 7)))
theorem k33 (a34 : 0 ≤ (ρ.v 34).int) (c34 : (ρ.v 34).int ≤ 18446744073709551615) : (e33.ev ρ).bool = true := by
  simp only [e33, ev_eqi, ev_bits, ev_vr, ev_li]
  exact and_idem_int a34 c34 (by decide) (by decide)
def e34 : E := (.bi .eqi (.bi (.bits .and .u64) (.bi (.bits .and .u64) (.vr 34) (.li 18446744073709551615)) (.li 18446744073709551615)) (.bi (.bits .and .u64) (.vr 34) (.li 18446744073709551615)))
theorem k34 (a34 : 0 ≤ (ρ.v 34).int) (c34 : (ρ.v 34).int ≤ 18446744073709551615) : (e34.ev ρ).bool = true := by
  simp only [e34, ev_eqi, ev_bits, ev_vr, ev_li]
  exact and_idem_int a34 c34 (by decide) (by decide)
def e35 : E := (.bi .eqi (.bi (.bits .and .u64) (.bi (.bits .and .u64) (.vr 34) (.li 18446744073709551614)) (.li 18446744073709551614)) (.bi (.bits .and .u64) (.vr 34) (.li 18446744073709551614)))
theorem k35 (a34 : 0 ≤ (ρ.v 34).int) (c34 : (ρ.v 34).int ≤ 18446744073709551615) : (e35.ev ρ).bool = true := by
  simp only [e35, ev_eqi, ev_bits, ev_vr, ev_li]
  exact and_idem_int a34 c34 (by decide) (by decide)
def e36 : E := (.bi .eqi (.bi (.bits .and .u64) (.bi (.bits .or .u64) (.bi (.bits .andNot .u64) (.bi (.bits .and .u64) (.vr 3) (.li 546)) (.bi (.bits .and .u64) (.bi (.bits .and .u64) (.vr 6) (.li 546)) (.li 2))) (.bi (.bits .and .u64) (.vr 34) (.bi (.bits .and .u64) (.bi (.bits .and .u64) (.vr 6) (.li 546)) (.li 2)))) (.li 546)) (.bi (.bits .or .u64) (.bi (.bits .andNot .u64) (.bi (.bits .and .u64) (.vr 3) (.li 546)) (.bi (.bits .and .u64) (.bi (.bits .and .u64) (.vr 6) (.li 546)) (.li 2))) (.bi (.bits .and .u64) (.vr 34) (.bi (.bits .and .u64) (.bi (.bits .and .u64) (.vr 6) (.li 546)) (.li 2)))))
theorem k36 (a3 : 0 ≤ (ρ.v 3).int) (c3 : (ρ.v 3).int ≤ 18446744073709551615) (a6 : 0 ≤ (ρ.v 6).int) (c6 : (ρ.v 6).int ≤ 18446744073709551615) (a34 : 0 ≤ (ρ.v 34).int) (c34 : (ρ.v 34).int ≤ 18446744073709551615) : (e36.ev ρ).bool = true := by
  obtain ⟨A3, h3⟩ := bv64_of a3 c3
  obtain ⟨A6, h6⟩ := bv64_of a6 c6
  obtain ⟨A34, h34⟩ := bv64_of a34 c34
  simp only [e36, ev_eqi, ev_bits, ev_vr, ev_li, h3, h6, h34]
  simp only [lit64 2 (by decide), lit64 546 (by decide), b64_and, b64_or, b64_andNot, eq64]
  refine bit64 fun i => ?_
  simp only [BitVec.getLsbD_and, BitVec.getLsbD_or, BitVec.getLsbD_not]
  generalize A3.getLsbD i = x3_0
  generalize A6.getLsbD i = x6_0
  generalize A34.getLsbD i = x34_0
  clear h3 h6 h34
  revert i x3_0 x6_0 x34_0
  decide +kernel
def e37 : E := (.bi .eqi (.bi (.bits .or .u64) (.bi (.bits .andNot .u64) (.bi (.bits .or .u64) (.bi (.bits .andNot .u64) (.bi (.bits .and .u64) (.vr 3) (.li 546)) (.bi (.bits .and .u64) (.bi (.bits .and .u64) (.vr 6) (.li 546)) (.li 2))) (.bi (.bits .and .u64) (.vr 34) (.bi (.bits .and .u64) (.bi (.bits .and .u64) (.vr 6) (.li 546)) (.li 2)))) (.bi (.bits .and .u64) (.bi (.bits .and .u64) (.vr 6) (.li 546)) (.li 2))) (.bi (.bits .and .u64) (.bi (.bits .and .u64) (.bi (.bits .or .u64) (.bi (.bits .or .u64) (.bi (.bits .andNot .u64) (.bi (.bits .and .u64) (.vr 3) (.li 546)) (.bi (.bits .and .u64) (.bi (.bits .and .u64) (.vr 6) (.li 546)) (.li 2))) (.bi (.bits .and .u64) (.vr 34) (.bi (.bits .and .u64) (.bi (.bits .and .u64) (.vr 6) (.li 546)) (.li 2)))) (.li 0)) (.bi (.bits .and .u64) (.vr 6) (.li 546))) (.bi (.bits .and .u64) (.bi (.bits .and .u64) (.vr 6) (.li 546)) (.li 2)))) (.bi (.bits .or .u64) (.bi (.bits .andNot .u64) (.bi (.bits .and .u64) (.vr 3) (.li 546)) (.bi (.bits .and .u64) (.bi (.bits .and .u64) (.vr 6) (.li 546)) (.li 2))) (.bi (.bits .and .u64) (.vr 34) (.bi (.bits .and .u64) (.bi (.bits .and .u64) (.vr 6) (.li 546)) (.li 2)))))
theorem k37 (a3 : 0 ≤ (ρ.v 3).int) (c3 : (ρ.v 3).int ≤ 18446744073709551615) (a6 : 0 ≤ (ρ.v 6).int) (c6 : (ρ.v 6).int ≤ 18446744073709551615) (a34 : 0 ≤ (ρ.v 34).int) (c34 : (ρ.v 34).int ≤ 18446744073709551615) : (e37.ev ρ).bool = true := by
  obtain ⟨A3, h3⟩ := bv64_of a3 c3
  obtain ⟨A6, h6⟩ := bv64_of a6 c6
  obtain ⟨A34, h34⟩ := bv64_of a34 c34
  simp only [e37, ev_eqi, ev_bits, ev_vr, ev_li, h3, h6, h34]
  simp only [(show (0 : Int) = ((0#64).toNat : Int) from rfl), lit64 2 (by decide), lit64 546 (by decide), b64_and, b64_or, b64_andNot, eq64]
  refine bit64 fun i => ?_
  simp only [BitVec.getLsbD_and, BitVec.getLsbD_or, BitVec.getLsbD_not]
  generalize A3.getLsbD i = x3_0
  generalize A6.getLsbD i = x6_0
  generalize A34.getLsbD i = x34_0
  clear h3 h6 h34
  revert i x3_0 x6_0 x34_0
  decide +kernel
def e41 : E := (.bi .eqi (.tr .ite (.bi .eqi (.bi (.bits .and .u64) (.bi (.bits .and .u64) (.tr .ite (.bi .eqi (.bi (.bits .and .u64) (.bi (.bits .and .u64) (.vr 34) (.li 8264106)) (.li 6144)) (.li 4096)) (.bi (.bits .andNot .u64) (.bi (.bits .and .u64) (.vr 34) (.li 8264106)) (.li 6144)) (.bi (.bits .and .u64) (.vr 34) (.li 8264106))) (.li 8264106)) (.li 6144)) (.li 4096)) (.bi (.bits .andNot .u64) (.bi (.bits .and .u64) (.tr .ite (.bi .eqi (.bi (.bits .and .u64) (.bi (.bits .and .u64) (.vr 34) (.li 8264106)) (.li 6144)) (.li 4096)) (.bi (.bits .andNot .u64) (.bi (.bits .and .u64) (.vr 34) (.li 8264106)) (.li 6144)) (.bi (.bits .and .u64) (.vr 34) (.li 8264106))) (.li 8264106)) (.li 6144)) (.bi (.bits .and .u64) (.tr .ite (.bi .eqi (.bi (.bits .and .u64) (.bi (.bits .and .u64) (.vr 34) (.li 8264106)) (.li 6144)) (.li 4096)) (.bi (.bits .andNot .u64) (.bi (.bits .and .u64) (.vr 34) (.li 8264106)) (.li 6144)) (.bi (.bits .and .u64) (.vr 34) (.li 8264106))) (.li 8264106))) (.tr .ite (.bi .eqi (.bi (.bits .and .u64) (.bi (.bits .and .u64) (.vr 34) (.li 8264106)) (.li 6144)) (.li 4096)) (.bi (.bits .andNot .u64) (.bi (.bits .and .u64) (.vr 34) (.li 8264106)) (.li 6144)) (.bi (.bits .and .u64) (.vr 34) (.li 8264106))))
theorem k41 (a34 : 0 ≤ (ρ.v 34).int) (c34 : (ρ.v 34).int ≤ 18446744073709551615) : (e41.ev ρ).bool = true := by
  obtain ⟨A34, h34⟩ := bv64_of a34 c34
  simp only [e41, ev_eqi, ev_ite, ite_int, ev_bits, ev_vr, ev_li, h34]
  simp only [lit64 4096 (by decide), lit64 6144 (by decide), lit64 8264106 (by decide), b64_and, b64_andNot, eq64, ite64]
  simp only [norm_eq]
  refine bit64 fun i => ?_
  simp only [BitVec.getLsbD_and, BitVec.getLsbD_or, BitVec.getLsbD_shiftLeft]
  generalize A34.getLsbD i = x34_0
  generalize A34.getLsbD (i - 1) = x34_1
  generalize A34.getLsbD (i - 1 - 1) = x34_2
  generalize A34.getLsbD (i - 1 - 1 - 1) = x34_3
  clear h34
  revert i x34_0 x34_1 x34_2 x34_3
  decide +kernel
def e42 : E := (.bi .eqi (.tr .ite (.bi .eqi (.bi (.bits .and .u64) (.bi (.bits .and .u64) (.bi (.bits .or .u64) (.tr .ite (.bi .eqi (.bi (.bits .and .u64) (.bi (.bits .and .u64) (.vr 34) (.li 8264106)) (.li 6144)) (.li 4096)) (.bi (.bits .andNot .u64) (.bi (.bits .and .u64) (.vr 34) (.li 8264106)) (.li 6144)) (.bi (.bits .and .u64) (.vr 34) (.li 8264106))) (.li 42949672960)) (.li 8264106)) (.li 6144)) (.li 4096)) (.bi (.bits .andNot .u64) (.bi (.bits .and .u64) (.bi (.bits .or .u64) (.tr .ite (.bi .eqi (.bi (.bits .and .u64) (.bi (.bits .and .u64) (.vr 34) (.li 8264106)) (.li 6144)) (.li 4096)) (.bi (.bits .andNot .u64) (.bi (.bits .and .u64) (.vr 34) (.li 8264106)) (.li 6144)) (.bi (.bits .and .u64) (.vr 34) (.li 8264106))) (.li 42949672960)) (.li 8264106)) (.li 6144)) (.bi (.bits .and .u64) (.bi (.bits .or .u64) (.tr .ite (.bi .eqi (.bi (.bits .and .u64) (.bi (.bits .and .u64) (.vr 34) (.li 8264106)) (.li 6144)) (.li 4096)) (.bi (.bits .andNot .u64) (.bi (.bits .and .u64) (.vr 34) (.li 8264106)) (.li 6144)) (.bi (.bits .and .u64) (.vr 34) (.li 8264106))) (.li 42949672960)) (.li 8264106))) (.tr .ite (.bi .eqi (.bi (.bits .and .u64) (.bi (.bits .and .u64) (.vr 34) (.li 8264106)) (.li 6144)) (.li 4096)) (.bi (.bits .andNot .u64) (.bi (.bits .and .u64) (.vr 34) (.li 8264106)) (.li 6144)) (.bi (.bits .and .u64) (.vr 34) (.li 8264106))))
theorem k42 (a34 : 0 ≤ (ρ.v 34).int) (c34 : (ρ.v 34).int ≤ 18446744073709551615) : (e42.ev ρ).bool = true := by
  obtain ⟨A34, h34⟩ := bv64_of a34 c34
  simp only [e42, ev_eqi, ev_ite, ite_int, ev_bits, ev_vr, ev_li, h34]
  simp only [lit64 4096 (by decide), lit64 6144 (by decide), lit64 8264106 (by decide), lit64 42949672960 (by decide), b64_and, b64_or, b64_andNot, eq64, ite64]
  simp only [norm_eq]
  refine bit64 fun i => ?_
  simp only [BitVec.getLsbD_and, BitVec.getLsbD_or, BitVec.getLsbD_shiftLeft]
  generalize A34.getLsbD i = x34_0
  generalize A34.getLsbD (i - 1) = x34_1
  generalize A34.getLsbD (i - 1 - 1) = x34_2
  generalize A34.getLsbD (i - 1 - 1 - 1) = x34_3
  clear h34
  revert i x34_0 x34_1 x34_2 x34_3
  decide +kernel
def e43 : E := (.bi .eqi (.bi (.bits .and .u64) (.bi (.bits .and .u64) (.vr 34) (.li 46079)) (.li 46079)) (.bi (.bits .and .u64) (.vr 34) (.li 46079)))
theorem k43 (a34 : 0 ≤ (ρ.v 34).int) (c34 : (ρ.v 34).int ≤ 18446744073709551615) : (e43.ev ρ).bool = true := by
  simp only [e43, ev_eqi, ev_bits, ev_vr, ev_li]
  exact and_idem_int a34 c34 (by decide) (by decide)
def e44 : E := (.bi .eqi (.bi (.bits .and .u64) (.bi (.bits .and .u64) (.vr 34) (.li 546)) (.li 546)) (.bi (.bits .and .u64) (.vr 34) (.li 546)))
theorem k44 (a34 : 0 ≤ (ρ.v 34).int) (c34 : (ρ.v 34).int ≤ 18446744073709551615) : (e44.ev ρ).bool = true := by
  simp only [e44, ev_eqi, ev_bits, ev_vr, ev_li]
  exact and_idem_int a34 c34 (by decide) (by decide)
def e45 : E := (.bi .eqi (.bi (.bits .and .u64) (.bi (.bits .and .u64) (.vr 34) (.li 2730)) (.li 2730)) (.bi (.bits .and .u64) (.vr 34) (.li 2730)))
theorem k45 (a34 : 0 ≤ (ρ.v 34).int) (c34 : (ρ.v 34).int ≤ 18446744073709551615) : (e45.ev ρ).bool = true := by
  simp only [e45, ev_eqi, ev_bits, ev_vr, ev_li]
  exact and_idem_int a34 c34 (by decide) (by decide)
def e46 : E := (.bi .eqi (.bi (.bits .and .u64) (.bi (.bits .or .u64) (.bi (.bits .and .u64) (.vr 34) (.li 546)) (.li 0)) (.li 546)) (.bi (.bits .and .u64) (.vr 34) (.li 546)))
theorem k46 (a34 : 0 ≤ (ρ.v 34).int) (c34 : (ρ.v 34).int ≤ 18446744073709551615) : (e46.ev ρ).bool = true := by
  obtain ⟨A34, h34⟩ := bv64_of a34 c34
  simp only [e46, ev_eqi, ev_bits, ev_vr, ev_li, h34]
  simp only [(show (0 : Int) = ((0#64).toNat : Int) from rfl), lit64 546 (by decide), b64_and, b64_or, eq64]
  refine bit64 fun i => ?_
  simp only [BitVec.getLsbD_and, BitVec.getLsbD_or]
  generalize A34.getLsbD i = x34_0
  clear h34
  revert i x34_0
  decide +kernel
end
end Go.Proofs.YtdffbokmgdcjaaaDoor.CsrKeepsDone
