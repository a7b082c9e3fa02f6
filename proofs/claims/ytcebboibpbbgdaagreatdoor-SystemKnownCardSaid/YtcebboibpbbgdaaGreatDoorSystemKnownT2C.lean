/- Calls in the run of the law SystemKnown: each does what is told of it. -/
import Derived.Test.YtcebboibpbbgdaaGreatDoorSystemKnownGC
import Derived.Test.YtcebboibpbbgdaaGreatDoorSystemKnownSC
namespace Go.Proofs.YtcebboibpbbgdaaGreatDoor.SystemKnownDone
open Go.Eng
theorem z4 : mhForm s4 = true := by kernel_rfl
theorem r4 : mhRun Tryz.prog Γb 5000 80 s4 = true := by kernel_rfl
theorem h4 : mhForm s4 = true ∧ MHOk Tryz.prog s4 := ⟨z4, mh_of Γb_ok r4⟩
theorem z9 : mhForm s9 = true := by kernel_rfl
theorem r9 : mhRun Tryz.prog Γb 5000 80 s9 = true := by kernel_rfl
theorem h9 : mhForm s9 = true ∧ MHOk Tryz.prog s9 := ⟨z9, mh_of Γb_ok r9⟩
theorem z14 : mhForm s14 = true := by kernel_rfl
theorem r14 : mhRun Tryz.prog Γb 5000 80 s14 = true := by kernel_rfl
theorem h14 : mhForm s14 = true ∧ MHOk Tryz.prog s14 := ⟨z14, mh_of Γb_ok r14⟩
theorem z20 : mhForm s20 = true := by kernel_rfl
theorem r20 : mhRun Tryz.prog Γb 5000 80 s20 = true := by kernel_rfl
theorem h20 : mhForm s20 = true ∧ MHOk Tryz.prog s20 := ⟨z20, mh_of Γb_ok r20⟩
theorem z26 : mhForm s26 = true := by kernel_rfl
theorem r26 : mhRun Tryz.prog Γb 5000 80 s26 = true := by kernel_rfl
theorem h26 : mhForm s26 = true ∧ MHOk Tryz.prog s26 := ⟨z26, mh_of Γb_ok r26⟩
end Go.Proofs.YtcebboibpbbgdaaGreatDoor.SystemKnownDone
