/- Calls in the run of the law SystemEvents: each does what is told of it. -/
import Derived.Test.YtcebboibpbbgdaaGreatDoorSystemEventsGC
import Derived.Test.YtcebboibpbbgdaaGreatDoorSystemEventsSC
namespace Go.Proofs.YtcebboibpbbgdaaGreatDoor.SystemEventsDone
open Go.Eng
theorem z3 : mhForm s3 = true := by kernel_rfl
theorem r3 : mhRun Tryz.prog Γb 5000 80 s3 = true := by kernel_rfl
theorem h3 : mhForm s3 = true ∧ MHOk Tryz.prog s3 := ⟨z3, mh_of Γb_ok r3⟩
theorem z13 : mhForm s13 = true := by kernel_rfl
theorem r13 : mhRun Tryz.prog Γb 5000 80 s13 = true := by kernel_rfl
theorem h13 : mhForm s13 = true ∧ MHOk Tryz.prog s13 := ⟨z13, mh_of Γb_ok r13⟩
theorem z23 : mhForm s23 = true := by kernel_rfl
theorem r23 : mhRun Tryz.prog Γb 5000 80 s23 = true := by kernel_rfl
theorem h23 : mhForm s23 = true ∧ MHOk Tryz.prog s23 := ⟨z23, mh_of Γb_ok r23⟩
theorem z33 : mhForm s33 = true := by kernel_rfl
theorem r33 : mhRun Tryz.prog Γb 5000 80 s33 = true := by kernel_rfl
theorem h33 : mhForm s33 = true ∧ MHOk Tryz.prog s33 := ⟨z33, mh_of Γb_ok r33⟩
theorem z44 : mhForm s44 = true := by kernel_rfl
theorem r44 : mhRun Tryz.prog Γb 5000 80 s44 = true := by kernel_rfl
theorem h44 : mhForm s44 = true ∧ MHOk Tryz.prog s44 := ⟨z44, mh_of Γb_ok r44⟩
theorem z54 : mhForm s54 = true := by kernel_rfl
theorem r54 : mhRun Tryz.prog Γb 5000 80 s54 = true := by kernel_rfl
theorem h54 : mhForm s54 = true ∧ MHOk Tryz.prog s54 := ⟨z54, mh_of Γb_ok r54⟩
theorem z64 : mhForm s64 = true := by kernel_rfl
theorem r64 : mhRun Tryz.prog Γb 5000 80 s64 = true := by kernel_rfl
theorem h64 : mhForm s64 = true ∧ MHOk Tryz.prog s64 := ⟨z64, mh_of Γb_ok r64⟩
theorem z74 : mhForm s74 = true := by kernel_rfl
theorem r74 : mhRun Tryz.prog Γb 5000 80 s74 = true := by kernel_rfl
theorem h74 : mhForm s74 = true ∧ MHOk Tryz.prog s74 := ⟨z74, mh_of Γb_ok r74⟩
theorem z85 : mhForm s85 = true := by kernel_rfl
theorem r85 : mhRun Tryz.prog Γb 5000 80 s85 = true := by kernel_rfl
theorem h85 : mhForm s85 = true ∧ MHOk Tryz.prog s85 := ⟨z85, mh_of Γb_ok r85⟩
end Go.Proofs.YtcebboibpbbgdaaGreatDoor.SystemEventsDone
