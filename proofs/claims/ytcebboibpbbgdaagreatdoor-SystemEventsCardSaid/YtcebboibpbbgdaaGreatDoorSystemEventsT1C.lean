/- Calls in the run of the law SystemEvents: each does what is told of it. -/
import Derived.Test.YtcebboibpbbgdaaGreatDoorSystemEventsGC
import Derived.Test.YtcebboibpbbgdaaGreatDoorSystemEventsSC
namespace Go.Proofs.YtcebboibpbbgdaaGreatDoor.SystemEventsDone
open Go.Eng
theorem z2 : mhForm s2 = true := by kernel_rfl
theorem r2 : mhRun Tryz.prog Γb 5000 80 s2 = true := by kernel_rfl
theorem h2 : mhForm s2 = true ∧ MHOk Tryz.prog s2 := ⟨z2, mh_of Γb_ok r2⟩
theorem z12 : mhForm s12 = true := by kernel_rfl
theorem r12 : mhRun Tryz.prog Γb 5000 80 s12 = true := by kernel_rfl
theorem h12 : mhForm s12 = true ∧ MHOk Tryz.prog s12 := ⟨z12, mh_of Γb_ok r12⟩
theorem z22 : mhForm s22 = true := by kernel_rfl
theorem r22 : mhRun Tryz.prog Γb 5000 80 s22 = true := by kernel_rfl
theorem h22 : mhForm s22 = true ∧ MHOk Tryz.prog s22 := ⟨z22, mh_of Γb_ok r22⟩
theorem z32 : mhForm s32 = true := by kernel_rfl
theorem r32 : mhRun Tryz.prog Γb 5000 80 s32 = true := by kernel_rfl
theorem h32 : mhForm s32 = true ∧ MHOk Tryz.prog s32 := ⟨z32, mh_of Γb_ok r32⟩
theorem z43 : mhForm s43 = true := by kernel_rfl
theorem r43 : mhRun Tryz.prog Γb 5000 80 s43 = true := by kernel_rfl
theorem h43 : mhForm s43 = true ∧ MHOk Tryz.prog s43 := ⟨z43, mh_of Γb_ok r43⟩
theorem z53 : mhForm s53 = true := by kernel_rfl
theorem r53 : mhRun Tryz.prog Γb 5000 80 s53 = true := by kernel_rfl
theorem h53 : mhForm s53 = true ∧ MHOk Tryz.prog s53 := ⟨z53, mh_of Γb_ok r53⟩
theorem z63 : mhForm s63 = true := by kernel_rfl
theorem r63 : mhRun Tryz.prog Γb 5000 80 s63 = true := by kernel_rfl
theorem h63 : mhForm s63 = true ∧ MHOk Tryz.prog s63 := ⟨z63, mh_of Γb_ok r63⟩
theorem z73 : mhForm s73 = true := by kernel_rfl
theorem r73 : mhRun Tryz.prog Γb 5000 80 s73 = true := by kernel_rfl
theorem h73 : mhForm s73 = true ∧ MHOk Tryz.prog s73 := ⟨z73, mh_of Γb_ok r73⟩
theorem z83 : mhForm s83 = true := by kernel_rfl
theorem r83 : mhRun Tryz.prog Γb 5000 80 s83 = true := by kernel_rfl
theorem h83 : mhForm s83 = true ∧ MHOk Tryz.prog s83 := ⟨z83, mh_of Γb_ok r83⟩
end Go.Proofs.YtcebboibpbbgdaaGreatDoor.SystemEventsDone
