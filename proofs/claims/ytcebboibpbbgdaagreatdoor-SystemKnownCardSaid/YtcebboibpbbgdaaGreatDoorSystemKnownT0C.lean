/- Calls in the run of the law SystemKnown: each does what is told of it. -/
import Derived.Test.YtcebboibpbbgdaaGreatDoorSystemKnownGC
import Derived.Test.YtcebboibpbbgdaaGreatDoorSystemKnownSC
namespace Go.Proofs.YtcebboibpbbgdaaGreatDoor.SystemKnownDone
open Go.Eng
theorem z1 : mhForm s1 = true := by kernel_rfl
theorem r1 : mhRun Tryz.prog Γb 5000 80 s1 = true := by kernel_rfl
theorem h1 : mhForm s1 = true ∧ MHOk Tryz.prog s1 := ⟨z1, mh_of Γb_ok r1⟩
theorem z7 : mhForm s7 = true := by kernel_rfl
theorem r7 : mhRun Tryz.prog Γb 5000 80 s7 = true := by kernel_rfl
theorem h7 : mhForm s7 = true ∧ MHOk Tryz.prog s7 := ⟨z7, mh_of Γb_ok r7⟩
theorem z12 : mhForm s12 = true := by kernel_rfl
theorem r12 : mhRun Tryz.prog Γb 5000 80 s12 = true := by kernel_rfl
theorem h12 : mhForm s12 = true ∧ MHOk Tryz.prog s12 := ⟨z12, mh_of Γb_ok r12⟩
theorem z17 : mhForm s17 = true := by kernel_rfl
theorem r17 : mhRun Tryz.prog Γb 5000 80 s17 = true := by kernel_rfl
theorem h17 : mhForm s17 = true ∧ MHOk Tryz.prog s17 := ⟨z17, mh_of Γb_ok r17⟩
theorem z23 : mhForm s23 = true := by kernel_rfl
theorem r23 : mhRun Tryz.prog Γb 5000 80 s23 = true := by kernel_rfl
theorem h23 : mhForm s23 = true ∧ MHOk Tryz.prog s23 := ⟨z23, mh_of Γb_ok r23⟩
theorem z29 : mhForm s29 = true := by kernel_rfl
theorem r29 : mhRun Tryz.prog Γb 5000 80 s29 = true := by kernel_rfl
theorem h29 : mhForm s29 = true ∧ MHOk Tryz.prog s29 := ⟨z29, mh_of Γb_ok r29⟩
end Go.Proofs.YtcebboibpbbgdaaGreatDoor.SystemKnownDone
