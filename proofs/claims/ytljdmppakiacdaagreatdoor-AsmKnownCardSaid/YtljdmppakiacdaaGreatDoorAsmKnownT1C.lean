/- Calls of the law AsmKnown. -/
import Derived.Test.YtljdmppakiacdaaGreatDoorAsmKnownGC
namespace Go.Proofs.YtljdmppakiacdaaGreatDoor.AsmKnownDone
open Go.Eng
theorem m1 : memoGOk Tryz.prog G Γb 5000 60 t1 = true := by kernel_rfl
theorem m9 : memoGOk Tryz.prog G Γb 5000 60 t9 = true := by kernel_rfl
theorem m17 : memoGOk Tryz.prog G Γb 5000 60 t17 = true := by kernel_rfl
theorem m25 : memoGOk Tryz.prog G Γb 5000 60 t25 = true := by kernel_rfl
theorem m33 : memoGOk Tryz.prog G Γb 5000 60 t33 = true := by kernel_rfl
end Go.Proofs.YtljdmppakiacdaaGreatDoor.AsmKnownDone
