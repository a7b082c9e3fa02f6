/- Laws of bits for what csr.Check holds of a state that made or csr.Write leaves. -/
import Derived.Test.YtdffbokmgdcjaaaDoorEngG13
namespace Go.Proofs.YtdffbokmgdcjaaaDoor.CsrKeepsDone
open Go.Eng

theorem bit64 {X Y : BitVec 64} (h : ∀ i : Fin 64, X.getLsbD i = Y.getLsbD i) : X = Y := BitVec.eq_of_getLsbD_eq fun i hi => h ⟨i, hi⟩

theorem and_idem (X M : BitVec 64) : X &&& M &&& M = X &&& M := by rw [BitVec.and_assoc, BitVec.and_self]

/-- What is kept of mstatus. -/
theorem mpp_bits (Y : BitVec 64) : ((Y &&& 8264106#64) &&& 6144#64 = 4096#64) ↔ (Y.getLsbD 12 = true ∧ Y.getLsbD 11 = false) := by
  constructor
  · intro h
    have h1 := congrArg (fun Y : BitVec 64 => Y.getLsbD 12) h
    have h2 := congrArg (fun Y : BitVec 64 => Y.getLsbD 11) h
    simp only [BitVec.getLsbD_and, show (8264106#64).getLsbD 12 = true from rfl, show (6144#64).getLsbD 12 = true from rfl, show (4096#64).getLsbD 12 = true from rfl, show (8264106#64).getLsbD 11 = true from rfl, show (6144#64).getLsbD 11 = true from rfl, show (4096#64).getLsbD 11 = false from rfl, Bool.and_true] at h1 h2
    exact ⟨h1, h2⟩
  · rintro ⟨h1, h2⟩
    refine bit64 fun i => ?_
    simp only [BitVec.getLsbD_and]
    have a1 : i.val = 12 → Y.getLsbD i = true := fun e => by rw [e]; exact h1
    have a2 : i.val = 11 → Y.getLsbD i = false := fun e => by rw [e]; exact h2
    generalize Y.getLsbD i = x at a1 a2 ⊢
    clear h1 h2
    revert i x
    decide +kernel

theorem norm_eq (Y : BitVec 64) : (if (Y &&& 8264106#64) &&& 6144#64 = 4096#64 then (Y &&& 8264106#64) &&& ~~~6144#64 else Y &&& 8264106#64) = (Y &&& 8260010#64) ||| ((Y &&& 4096#64) &&& (Y <<< 1)) := by
  refine bit64 fun i => ?_
  by_cases h : (Y &&& 8264106#64) &&& 6144#64 = 4096#64
  · rw [if_pos h]
    have hb := (mpp_bits Y).1 h
    simp only [BitVec.getLsbD_and, BitVec.getLsbD_or, BitVec.getLsbD_not, BitVec.getLsbD_shiftLeft]
    have a1 : i.val = 12 → Y.getLsbD i = true := fun e => by rw [e]; exact hb.1
    have a2 : i.val = 11 → Y.getLsbD i = false := fun e => by rw [e]; exact hb.2
    have a3 : i.val = 12 → Y.getLsbD (i - 1) = false := fun e => by rw [e]; exact hb.2
    generalize Y.getLsbD i = x at a1 a2 ⊢
    generalize Y.getLsbD (i - 1) = y at a3 ⊢
    clear h hb
    revert i x y
    decide +kernel
  · rw [if_neg h]
    simp only [BitVec.getLsbD_and, BitVec.getLsbD_or, BitVec.getLsbD_shiftLeft]
    have a1 : i.val = 12 → Y.getLsbD i = true → Y.getLsbD (i - 1) = true := fun e hx => by
      cases hy : Y.getLsbD (i - 1) with
      | true => rfl
      | false =>
        rw [e] at hx hy
        exact absurd ((mpp_bits Y).2 ⟨hx, hy⟩) h
    generalize Y.getLsbD i = x at a1 ⊢
    generalize Y.getLsbD (i - 1) = y at a1 ⊢
    clear h
    revert i x y
    decide +kernel

/-- The kept part of mstatus. -/
def norm (Y : BitVec 64) : BitVec 64 := (Y &&& 8260010#64) ||| ((Y &&& 4096#64) &&& (Y <<< 1))
theorem norm_norm (Y : BitVec 64) : norm (norm Y) = norm Y := by
  unfold norm
  refine bit64 fun i => ?_
  simp only [BitVec.getLsbD_and, BitVec.getLsbD_or, BitVec.getLsbD_shiftLeft]
  generalize Y.getLsbD i = x
  generalize Y.getLsbD (i - 1) = y
  generalize Y.getLsbD (i - 1 - 1) = z
  revert i x y z
  decide +kernel
/-- A write of sstatus over a kept mstatus is a kept mstatus. -/
theorem norm_mix (Y V : BitVec 64) : norm ((norm Y &&& ~~~786722#64) ||| (V &&& 786722#64)) = (norm Y &&& ~~~786722#64) ||| (V &&& 786722#64) := by
  unfold norm
  refine bit64 fun i => ?_
  simp only [BitVec.getLsbD_and, BitVec.getLsbD_or, BitVec.getLsbD_not, BitVec.getLsbD_shiftLeft]
  generalize Y.getLsbD i = x
  generalize Y.getLsbD (i - 1) = y
  generalize Y.getLsbD (i - 1 - 1) = z
  generalize V.getLsbD i = v
  generalize V.getLsbD (i - 1) = u
  revert i x y z v u
  decide +kernel
end Go.Proofs.YtdffbokmgdcjaaaDoor.CsrKeepsDone
