/- Calls in the run of the law SystemKnown: each does what is told of it. -/
import Derived.Test.YtcebboibpbbgdaaGreatDoorSystemKnownPC
import Derived.Test.YtcebboibpbbgdaaGreatDoorSystemKnownSC
import Derived.Test.YtcebboibpbbgdaaGreatDoorSystemKnownEC
namespace Go.Proofs.YtcebboibpbbgdaaGreatDoor.SystemKnownDone
open Go.Eng
def libsQ : List (FuncId × CallD) := [(41, memoGC G 41 lP), (42, mhC 42 lE)]
theorem libsQ_ok (F : Facts) : ∀ p ∈ libsQ, CallCOk Tryz.prog F p.1 p.2 := by
  simp only [libsQ, List.forall_mem_cons, List.not_mem_nil, false_implies, implies_true, and_true]
  exact ⟨memoGC_ok lP_ok, mhC_ok lE_ok⟩
noncomputable def Γq : Facts → FuncId → Option CallD := ΓN libsQ Γb
theorem Γq_ok : ∀ F : Facts, ΓOk Tryz.prog F (Γq F) := ΓN_ok libsQ_ok Γb_ok
theorem z0 : mhForm s0 = true := by kernel_rfl
theorem r0 : mhRun Tryz.prog Γq 5000 80 s0 = true := by kernel_rfl
theorem h0 : mhForm s0 = true ∧ MHOk Tryz.prog s0 := ⟨z0, mh_of Γq_ok r0⟩
theorem z2 : mhForm s2 = true := by kernel_rfl
theorem r2 : mhRun Tryz.prog Γq 5000 80 s2 = true := by kernel_rfl
theorem h2 : mhForm s2 = true ∧ MHOk Tryz.prog s2 := ⟨z2, mh_of Γq_ok r2⟩
theorem z19 : mhForm s19 = true := by kernel_rfl
theorem r19 : mhRun Tryz.prog Γq 5000 80 s19 = true := by kernel_rfl
theorem h19 : mhForm s19 = true ∧ MHOk Tryz.prog s19 := ⟨z19, mh_of Γq_ok r19⟩
theorem z25 : mhForm s25 = true := by kernel_rfl
theorem r25 : mhRun Tryz.prog Γq 5000 80 s25 = true := by kernel_rfl
theorem h25 : mhForm s25 = true ∧ MHOk Tryz.prog s25 := ⟨z25, mh_of Γq_ok r25⟩
end Go.Proofs.YtcebboibpbbgdaaGreatDoor.SystemKnownDone
