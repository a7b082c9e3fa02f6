/- Calls in the run of the law SystemKnown: each does what is told of it. -/
import Derived.Test.YtcebboibpbbgdaaGreatDoorSystemKnownGC
import Derived.Test.YtcebboibpbbgdaaGreatDoorSystemKnownSC
namespace Go.Proofs.YtcebboibpbbgdaaGreatDoor.SystemKnownDone
open Go.Eng
theorem z3 : mhForm s3 = true := by kernel_rfl
theorem r3 : mhRun Tryz.prog Γb 5000 80 s3 = true := by kernel_rfl
theorem h3 : mhForm s3 = true ∧ MHOk Tryz.prog s3 := ⟨z3, mh_of Γb_ok r3⟩
theorem z8 : mhForm s8 = true := by kernel_rfl
theorem r8 : mhRun Tryz.prog Γb 5000 80 s8 = true := by kernel_rfl
theorem h8 : mhForm s8 = true ∧ MHOk Tryz.prog s8 := ⟨z8, mh_of Γb_ok r8⟩
theorem z13 : mhForm s13 = true := by kernel_rfl
theorem r13 : mhRun Tryz.prog Γb 5000 80 s13 = true := by kernel_rfl
theorem h13 : mhForm s13 = true ∧ MHOk Tryz.prog s13 := ⟨z13, mh_of Γb_ok r13⟩
theorem z18 : mhForm s18 = true := by kernel_rfl
theorem r18 : mhRun Tryz.prog Γb 5000 80 s18 = true := by kernel_rfl
theorem h18 : mhForm s18 = true ∧ MHOk Tryz.prog s18 := ⟨z18, mh_of Γb_ok r18⟩
theorem z24 : mhForm s24 = true := by kernel_rfl
theorem r24 : mhRun Tryz.prog Γb 5000 80 s24 = true := by kernel_rfl
theorem h24 : mhForm s24 = true ∧ MHOk Tryz.prog s24 := ⟨z24, mh_of Γb_ok r24⟩
end Go.Proofs.YtcebboibpbbgdaaGreatDoor.SystemKnownDone
