/- Calls of the law AsmKnown. -/
import Derived.Test.YtljdmppakiacdaaGreatDoorAsmKnownGC
namespace Go.Proofs.YtljdmppakiacdaaGreatDoor.AsmKnownDone
open Go.Eng
theorem m3 : memoGOk Tryz.prog G Γb 5000 60 t3 = true := by kernel_rfl
theorem m11 : memoGOk Tryz.prog G Γb 5000 60 t11 = true := by kernel_rfl
theorem m19 : memoGOk Tryz.prog G Γb 5000 60 t19 = true := by kernel_rfl
theorem m27 : memoGOk Tryz.prog G Γb 5000 60 t27 = true := by kernel_rfl
theorem m35 : memoGOk Tryz.prog G Γb 5000 60 t35 = true := by kernel_rfl
end Go.Proofs.YtljdmppakiacdaaGreatDoor.AsmKnownDone
