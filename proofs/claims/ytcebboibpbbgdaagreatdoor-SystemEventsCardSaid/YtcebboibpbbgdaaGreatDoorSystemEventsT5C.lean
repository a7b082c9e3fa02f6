/- Calls in the run of the law SystemEvents: each does what is told of it. -/
import Derived.Test.YtcebboibpbbgdaaGreatDoorSystemEventsGC
import Derived.Test.YtcebboibpbbgdaaGreatDoorSystemEventsSC
namespace Go.Proofs.YtcebboibpbbgdaaGreatDoor.SystemEventsDone
open Go.Eng
theorem z6 : mhForm s6 = true := by kernel_rfl
theorem r6 : mhRun Tryz.prog Γb 5000 80 s6 = true := by kernel_rfl
theorem h6 : mhForm s6 = true ∧ MHOk Tryz.prog s6 := ⟨z6, mh_of Γb_ok r6⟩
theorem z16 : mhForm s16 = true := by kernel_rfl
theorem r16 : mhRun Tryz.prog Γb 5000 80 s16 = true := by kernel_rfl
theorem h16 : mhForm s16 = true ∧ MHOk Tryz.prog s16 := ⟨z16, mh_of Γb_ok r16⟩
theorem z26 : mhForm s26 = true := by kernel_rfl
theorem r26 : mhRun Tryz.prog Γb 5000 80 s26 = true := by kernel_rfl
theorem h26 : mhForm s26 = true ∧ MHOk Tryz.prog s26 := ⟨z26, mh_of Γb_ok r26⟩
theorem z36 : mhForm s36 = true := by kernel_rfl
theorem r36 : mhRun Tryz.prog Γb 5000 80 s36 = true := by kernel_rfl
theorem h36 : mhForm s36 = true ∧ MHOk Tryz.prog s36 := ⟨z36, mh_of Γb_ok r36⟩
theorem z47 : mhForm s47 = true := by kernel_rfl
theorem r47 : mhRun Tryz.prog Γb 5000 80 s47 = true := by kernel_rfl
theorem h47 : mhForm s47 = true ∧ MHOk Tryz.prog s47 := ⟨z47, mh_of Γb_ok r47⟩
theorem z57 : mhForm s57 = true := by kernel_rfl
theorem r57 : mhRun Tryz.prog Γb 5000 80 s57 = true := by kernel_rfl
theorem h57 : mhForm s57 = true ∧ MHOk Tryz.prog s57 := ⟨z57, mh_of Γb_ok r57⟩
theorem z67 : mhForm s67 = true := by kernel_rfl
theorem r67 : mhRun Tryz.prog Γb 5000 80 s67 = true := by kernel_rfl
theorem h67 : mhForm s67 = true ∧ MHOk Tryz.prog s67 := ⟨z67, mh_of Γb_ok r67⟩
theorem z77 : mhForm s77 = true := by kernel_rfl
theorem r77 : mhRun Tryz.prog Γb 5000 80 s77 = true := by kernel_rfl
theorem h77 : mhForm s77 = true ∧ MHOk Tryz.prog s77 := ⟨z77, mh_of Γb_ok r77⟩
theorem z88 : mhForm s88 = true := by kernel_rfl
theorem r88 : mhRun Tryz.prog Γb 5000 80 s88 = true := by kernel_rfl
theorem h88 : mhForm s88 = true ∧ MHOk Tryz.prog s88 := ⟨z88, mh_of Γb_ok r88⟩
end Go.Proofs.YtcebboibpbbgdaaGreatDoor.SystemEventsDone
