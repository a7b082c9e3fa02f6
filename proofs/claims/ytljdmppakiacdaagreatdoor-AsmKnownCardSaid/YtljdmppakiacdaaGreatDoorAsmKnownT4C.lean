/- Calls of the law AsmKnown. -/
import Derived.Test.YtljdmppakiacdaaGreatDoorAsmKnownGC
namespace Go.Proofs.YtljdmppakiacdaaGreatDoor.AsmKnownDone
open Go.Eng
theorem m4 : memoGOk Tryz.prog G Γb 5000 60 t4 = true := by kernel_rfl
theorem m12 : memoGOk Tryz.prog G Γb 5000 60 t12 = true := by kernel_rfl
theorem m20 : memoGOk Tryz.prog G Γb 5000 60 t20 = true := by kernel_rfl
theorem m28 : memoGOk Tryz.prog G Γb 5000 60 t28 = true := by kernel_rfl
theorem m36 : memoGOk Tryz.prog G Γb 5000 60 t36 = true := by kernel_rfl
end Go.Proofs.YtljdmppakiacdaaGreatDoor.AsmKnownDone
