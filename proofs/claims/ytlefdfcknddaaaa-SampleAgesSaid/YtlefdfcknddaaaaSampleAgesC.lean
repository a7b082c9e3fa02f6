/- The law SampleAges of the layer sample: whatever validity, moment of a write and two moments it is called with, it returns true, and its arguments read behind the call as they did. No condition. -/
import Derived.Test.YtlefdfcknddaaaaRows
import Derived.Test.YtlefdfcknddaaaaEngY
namespace Go.Proofs.Ytlefdfcknddaaaa.SampleAgesDone
open Go.Eng Go.RowKit Go.ChangeShapes Go.WideShapes Go.ChangeAt

theorem own : ownKnob Try.prog.godebug = none := by kernel_rfl
theorem laidOut : laidOutB Try.prog = true := by kernel_rfl

def tree : DT := (.node (.bi .lt (.vr 2) (.vr 3)) (.node (.bi .lt (.vr 3) (.vr 1)) (.node (.bi .lt (.vr 3) (.vr 2)) .leaf (.node (.bi .lt (.vr 2) (.vr 1)) .leaf (.node (.bi .lt (.li 0) (.un (.wrap .u64) (.bi .sub (.vr 2) (.vr 1)))) .absurd (.node (.bi .lt (.vr 0) (.un (.wrap .u64) (.bi .sub (.vr 2) (.vr 1)))) .absurd (.node (.bi .eqi (.un (.wrap .u64) (.bi .sub (.li 0) (.un (.wrap .u64) (.bi .sub (.vr 2) (.vr 1))))) (.un (.wrap .u64) (.bi .sub (.vr 3) (.vr 2)))) .leaf .absurd))))) (.node (.bi .lt (.vr 3) (.vr 2)) (.node (.bi .lt (.un (.wrap .u64) (.bi .sub (.vr 3) (.vr 1))) (.un (.wrap .u64) (.bi .sub (.vr 3) (.vr 1)))) .absurd (.node (.bi .lt (.vr 0) (.un (.wrap .u64) (.bi .sub (.vr 3) (.vr 1)))) .leaf .leaf)) (.node (.bi .lt (.vr 2) (.vr 1)) .leaf (.node (.bi .lt (.un (.wrap .u64) (.bi .sub (.vr 3) (.vr 1))) (.un (.wrap .u64) (.bi .sub (.vr 2) (.vr 1)))) .absurd (.node (.bi .lt (.vr 0) (.un (.wrap .u64) (.bi .sub (.vr 2) (.vr 1)))) (.node (.bi .lt (.vr 0) (.un (.wrap .u64) (.bi .sub (.vr 3) (.vr 1)))) (.node (.bi .eqi (.un (.wrap .u64) (.bi .sub (.un (.wrap .u64) (.bi .sub (.vr 3) (.vr 1))) (.un (.wrap .u64) (.bi .sub (.vr 2) (.vr 1))))) (.un (.wrap .u64) (.bi .sub (.vr 3) (.vr 2)))) .leaf .absurd) .absurd) (.node (.bi .eqi (.un (.wrap .u64) (.bi .sub (.un (.wrap .u64) (.bi .sub (.vr 3) (.vr 1))) (.un (.wrap .u64) (.bi .sub (.vr 2) (.vr 1))))) (.un (.wrap .u64) (.bi .sub (.vr 3) (.vr 2)))) .leaf .absurd)))))) (.node (.bi .lt (.vr 2) (.vr 1)) (.node (.bi .lt (.vr 3) (.vr 2)) (.node (.bi .lt (.vr 3) (.vr 1)) .leaf (.node (.bi .lt (.li 0) (.un (.wrap .u64) (.bi .sub (.vr 3) (.vr 1)))) .absurd (.node (.bi .lt (.vr 0) (.un (.wrap .u64) (.bi .sub (.vr 3) (.vr 1)))) .absurd (.node (.bi .eqi (.un (.wrap .u64) (.bi .sub (.li 0) (.un (.wrap .u64) (.bi .sub (.vr 3) (.vr 1))))) (.un (.wrap .u64) (.bi .sub (.vr 2) (.vr 3)))) .leaf .absurd)))) .leaf) (.node (.bi .lt (.vr 3) (.vr 2)) (.node (.bi .lt (.vr 3) (.vr 1)) .leaf (.node (.bi .lt (.un (.wrap .u64) (.bi .sub (.vr 2) (.vr 1))) (.un (.wrap .u64) (.bi .sub (.vr 3) (.vr 1)))) .absurd (.node (.bi .lt (.vr 0) (.un (.wrap .u64) (.bi .sub (.vr 3) (.vr 1)))) (.node (.bi .lt (.vr 0) (.un (.wrap .u64) (.bi .sub (.vr 2) (.vr 1)))) (.node (.bi .eqi (.un (.wrap .u64) (.bi .sub (.un (.wrap .u64) (.bi .sub (.vr 2) (.vr 1))) (.un (.wrap .u64) (.bi .sub (.vr 3) (.vr 1))))) (.un (.wrap .u64) (.bi .sub (.vr 2) (.vr 3)))) .leaf .absurd) .absurd) (.node (.bi .eqi (.un (.wrap .u64) (.bi .sub (.un (.wrap .u64) (.bi .sub (.vr 2) (.vr 1))) (.un (.wrap .u64) (.bi .sub (.vr 3) (.vr 1))))) (.un (.wrap .u64) (.bi .sub (.vr 2) (.vr 3)))) .leaf .absurd)))) (.node (.bi .lt (.un (.wrap .u64) (.bi .sub (.vr 2) (.vr 1))) (.un (.wrap .u64) (.bi .sub (.vr 2) (.vr 1)))) .absurd (.node (.bi .lt (.vr 0) (.un (.wrap .u64) (.bi .sub (.vr 2) (.vr 1)))) .leaf .leaf)))))

theorem run : DT.run Try.prog (fun _ => Γ0) 1000 50 5 (argsDV Try.prog Try.f5.params.toList 0) .nil 0 goodTrue { bnds := argsB Try.prog Try.f5.params.toList 0 } tree = true := by kernel_rfl
theorem bnds : argsB Try.prog Try.f5.params.toList 0 = [(.vr 0, 0, 4294967295), (.vr 1, 0, 18446744073709551615), (.vr 2, 0, 18446744073709551615), (.vr 3, 0, 18446744073709551615)] := by kernel_rfl

theorem fit (ρ : Env) (h0 : 0 ≤ (ρ.v 0).int ∧ (ρ.v 0).int ≤ 4294967295) (h1 : 0 ≤ (ρ.v 1).int ∧ (ρ.v 1).int ≤ 18446744073709551615) (h2 : 0 ≤ (ρ.v 2).int ∧ (ρ.v 2).int ≤ 18446744073709551615) (h3 : 0 ≤ (ρ.v 3).int ∧ (ρ.v 3).int ≤ 18446744073709551615) : tree.Fit ρ := by
  unfold tree
  generalize hv : ρ.v = v at *
  simp only [DT.Fit, E.ev, B2.ev, U.ev, Sc.bool_B, Sc.int_I, decide_eq_true_eq, decide_eq_false_iff_not, wrap_u64, hv, and_true, true_and, implies_true, imp_false, not_true_eq_false]
  omega


theorem lifted (os : Os) (started : os.Started) (H : Type) (enc : TypeId × Value → H) :
    ReturnsInHanded {} Try.checked os 5 .any (Rows.sampleAgesSpec.pre6 enc Try.prog Try.f5 Rows.sampleAgesRow.domain false) (Rows.sampleAgesSpec.post enc Try.prog Try.f5 false true false false) := by
  have h := lifted_plain (C := Try.checked) (s := Rows.sampleAgesSpec) (conds := Rows.sampleAgesRow.domain) (apart := false) (enc := enc) own laidOut started (f := 5) (fn := Try.f5) (by kernel_rfl) Try.func5
    (ChangeSpec.witness6 (enc := enc) (C := Try.checked) false ⟨#[], #[.int .u32 0, .int .u64 0, .agg #[.int .u64 0, .int .u64 0]], []⟩ 8 (by kernel_rfl) (by kernel_rfl) (by kernel_rfl) (by kernel_rfl))
    (by kernel_rfl) rfl Try.underlying4 rfl ?_ run ?_
  · exact h
  · intro ds hl; rcases ds with _ | ⟨a, _ | ⟨b, _ | ⟨c, _ | ⟨d, ds⟩⟩⟩⟩ <;> first | rfl | cases hl
  · intro ρ h
    change ∀ p ∈ argsB Try.prog Try.f5.params.toList 0, _ at h
    rw [bnds] at h
    simp only [List.forall_mem_cons, E.ev] at h
    exact fit ρ h.1 h.2.1 h.2.2.1 h.2.2.2.1

theorem over : Rows.sampleAgesRow.holds Try.pinned (OpenSpec.ofChange Rows.sampleAgesSpec) :=
  OpenClaim.holds_of_wide 5 Try.f5 rfl rfl rfl rfl rfl rfl rfl ⟨rfl, rfl, rfl, rfl, rfl⟩ rfl rfl rfl rfl rfl (by kernel_rfl) Try.func5 (by kernel_rfl)
    (of_decide_eq_true (by kernel_rfl)) (by unfold Func.isWrapper; first | (rw [if_pos (by decide +kernel)]; kernel_rfl) | (rw [if_neg (by decide +kernel)]; exact ⟨rfl, rfl⟩))
    (fun os started H enc _ => lifted os started H enc)

theorem sampleAges_holds : Rows.SampleAgesSaid := over
#print axioms sampleAges_holds
end Go.Proofs.Ytlefdfcknddaaaa.SampleAgesDone
