/- The law SampleEnds of the layer sample: whatever shape and row of acts it is called with, it returns true, and its arguments read behind the call as they did. No condition. -/
import Derived.Test.YtlefdfcknddaaaaSampleEndsFitC
import Derived.Test.YtlefdfcknddaaaaSampleEndsRxC
namespace Go.Proofs.Ytlefdfcknddaaaa.SampleEndsDone
open Go.Eng Go.RowKit Go.ChangeShapes Go.WideShapes Go.ChangeAt

theorem own : ownKnob Try.prog.godebug = none := by kernel_rfl
theorem laidOut : laidOutB Try.prog = true := by kernel_rfl
theorem shapes : allSh Try.prog Try.f4.params.toList = [sh1, sh2] := by kernel_rfl

theorem law1 : LawS Try.prog 4 sh1 := (law_cases run1 fun ρ _ => tree_fit ρ).toS
theorem law2 : LawS Try.prog 4 sh2 := by
  refine law_points (root := root) (pts := pts) (Γ := fun _ => Γf) Try.func4 (by kernel_rfl) (of_decide_eq_true (by kernel_rfl)) Γf_ok S_ex (fun p hp => ?_) (fun p hp => ?_) run2 Inv mu (fun j p ρ hp h => ?_) fit0
  · obtain rfl := List.mem_singleton.1 hp; rfl
  · obtain rfl := List.mem_singleton.1 hp; exact run3
  · have hj := h.1
    subst hj
    cases hp
    exact ⟨facts_ok h.2.1 h.2.2, fit1 ρ h⟩


theorem lifted (os : Os) (started : os.Started) (H : Type) (enc : TypeId × Value → H) :
    ReturnsInHanded {} Try.checked os 4 .any (Rows.sampleEndsSpec.pre6 enc Try.prog Try.f4 Rows.sampleEndsRow.domain false) (Rows.sampleEndsSpec.post enc Try.prog Try.f4 false true false false) := by
  have h := lifted_shapes (C := Try.checked) (s := Rows.sampleEndsSpec) (conds := Rows.sampleEndsRow.domain) (apart := false) (enc := enc) own laidOut started (f := 4) (fn := Try.f4) (by kernel_rfl) Try.func4
    (ChangeSpec.witness6 (enc := enc) (C := Try.checked) false ⟨#[], #[.agg #[.int .i64 0, .int .u32 0, .int .i64 0], .slice none 0 0], []⟩ 8 (by kernel_rfl) (by kernel_rfl) (by kernel_rfl) (by kernel_rfl))
    (by kernel_rfl) rfl Try.underlying4 rfl ?_ (by kernel_rfl) ?_
  · exact h
  · intro ds hl; rcases ds with _ | ⟨a, _ | ⟨b, _ | ⟨c, ds⟩⟩⟩ <;> first | rfl | cases hl
  · intro sh hsh
    change sh ∈ allSh Try.prog Try.f4.params.toList at hsh
    rw [shapes] at hsh
    rcases List.mem_cons.1 hsh with rfl | hsh
    · exact law1
    · obtain rfl := List.mem_singleton.1 hsh
      exact law2

theorem over : Rows.sampleEndsRow.holds Try.pinned (OpenSpec.ofChange Rows.sampleEndsSpec) :=
  OpenClaim.holds_of_wide 4 Try.f4 rfl rfl rfl rfl rfl rfl rfl ⟨rfl, rfl, rfl, rfl, rfl⟩ rfl rfl rfl rfl rfl (by kernel_rfl) Try.func4 (by kernel_rfl)
    (of_decide_eq_true (by kernel_rfl)) (by unfold Func.isWrapper; first | (rw [if_pos (by decide +kernel)]; kernel_rfl) | (rw [if_neg (by decide +kernel)]; exact ⟨rfl, rfl⟩))
    (fun os started H enc _ => lifted os started H enc)

theorem sampleEnds_holds : Rows.SampleEndsSaid := over
#print axioms sampleEnds_holds
end Go.Proofs.Ytlefdfcknddaaaa.SampleEndsDone
