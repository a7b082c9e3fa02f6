/- Calls of the law AsmKnown. -/
import Derived.Test.YtljdmppakiacdaaGreatDoorAsmKnownGC
namespace Go.Proofs.YtljdmppakiacdaaGreatDoor.AsmKnownDone
open Go.Eng
theorem m7 : memoGOk Tryz.prog G Γb 5000 60 t7 = true := by kernel_rfl
theorem m15 : memoGOk Tryz.prog G Γb 5000 60 t15 = true := by kernel_rfl
theorem m23 : memoGOk Tryz.prog G Γb 5000 60 t23 = true := by kernel_rfl
theorem m31 : memoGOk Tryz.prog G Γb 5000 60 t31 = true := by kernel_rfl
theorem m39 : memoGOk Tryz.prog G Γb 5000 60 t39 = true := by kernel_rfl
end Go.Proofs.YtljdmppakiacdaaGreatDoor.AsmKnownDone
