/- Calls of the law AsmKnown. -/
import Derived.Test.YtljdmppakiacdaaGreatDoorAsmKnownGC
namespace Go.Proofs.YtljdmppakiacdaaGreatDoor.AsmKnownDone
open Go.Eng
theorem m6 : memoGOk Tryz.prog G Γb 5000 60 t6 = true := by kernel_rfl
theorem m14 : memoGOk Tryz.prog G Γb 5000 60 t14 = true := by kernel_rfl
theorem m22 : memoGOk Tryz.prog G Γb 5000 60 t22 = true := by kernel_rfl
theorem m30 : memoGOk Tryz.prog G Γb 5000 60 t30 = true := by kernel_rfl
theorem m38 : memoGOk Tryz.prog G Γb 5000 60 t38 = true := by kernel_rfl
end Go.Proofs.YtljdmppakiacdaaGreatDoor.AsmKnownDone
