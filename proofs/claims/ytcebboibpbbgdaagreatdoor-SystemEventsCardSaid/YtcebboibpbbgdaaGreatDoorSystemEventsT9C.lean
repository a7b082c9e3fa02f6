/- Calls in the run of the law SystemEvents: each does what is told of it. -/
import Derived.Test.YtcebboibpbbgdaaGreatDoorSystemEventsGC
import Derived.Test.YtcebboibpbbgdaaGreatDoorSystemEventsSC
namespace Go.Proofs.YtcebboibpbbgdaaGreatDoor.SystemEventsDone
open Go.Eng
theorem z10 : mhForm s10 = true := by kernel_rfl
theorem r10 : mhRun Tryz.prog Γb 5000 80 s10 = true := by kernel_rfl
theorem h10 : mhForm s10 = true ∧ MHOk Tryz.prog s10 := ⟨z10, mh_of Γb_ok r10⟩
theorem z20 : mhForm s20 = true := by kernel_rfl
theorem r20 : mhRun Tryz.prog Γb 5000 80 s20 = true := by kernel_rfl
theorem h20 : mhForm s20 = true ∧ MHOk Tryz.prog s20 := ⟨z20, mh_of Γb_ok r20⟩
theorem z30 : mhForm s30 = true := by kernel_rfl
theorem r30 : mhRun Tryz.prog Γb 5000 80 s30 = true := by kernel_rfl
theorem h30 : mhForm s30 = true ∧ MHOk Tryz.prog s30 := ⟨z30, mh_of Γb_ok r30⟩
theorem z40 : mhForm s40 = true := by kernel_rfl
theorem r40 : mhRun Tryz.prog Γb 5000 80 s40 = true := by kernel_rfl
theorem h40 : mhForm s40 = true ∧ MHOk Tryz.prog s40 := ⟨z40, mh_of Γb_ok r40⟩
theorem z51 : mhForm s51 = true := by kernel_rfl
theorem r51 : mhRun Tryz.prog Γb 5000 80 s51 = true := by kernel_rfl
theorem h51 : mhForm s51 = true ∧ MHOk Tryz.prog s51 := ⟨z51, mh_of Γb_ok r51⟩
theorem z61 : mhForm s61 = true := by kernel_rfl
theorem r61 : mhRun Tryz.prog Γb 5000 80 s61 = true := by kernel_rfl
theorem h61 : mhForm s61 = true ∧ MHOk Tryz.prog s61 := ⟨z61, mh_of Γb_ok r61⟩
theorem z71 : mhForm s71 = true := by kernel_rfl
theorem r71 : mhRun Tryz.prog Γb 5000 80 s71 = true := by kernel_rfl
theorem h71 : mhForm s71 = true ∧ MHOk Tryz.prog s71 := ⟨z71, mh_of Γb_ok r71⟩
theorem z81 : mhForm s81 = true := by kernel_rfl
theorem r81 : mhRun Tryz.prog Γb 5000 80 s81 = true := by kernel_rfl
theorem h81 : mhForm s81 = true ∧ MHOk Tryz.prog s81 := ⟨z81, mh_of Γb_ok r81⟩
end Go.Proofs.YtcebboibpbbgdaaGreatDoor.SystemEventsDone
