/- Calls of the law AsmKnown. -/
import Derived.Test.YtljdmppakiacdaaGreatDoorAsmKnownGC
namespace Go.Proofs.YtljdmppakiacdaaGreatDoor.AsmKnownDone
open Go.Eng
theorem m5 : memoGOk Tryz.prog G Γb 5000 60 t5 = true := by kernel_rfl
theorem m13 : memoGOk Tryz.prog G Γb 5000 60 t13 = true := by kernel_rfl
theorem m21 : memoGOk Tryz.prog G Γb 5000 60 t21 = true := by kernel_rfl
theorem m29 : memoGOk Tryz.prog G Γb 5000 60 t29 = true := by kernel_rfl
theorem m37 : memoGOk Tryz.prog G Γb 5000 60 t37 = true := by kernel_rfl
end Go.Proofs.YtljdmppakiacdaaGreatDoor.AsmKnownDone
