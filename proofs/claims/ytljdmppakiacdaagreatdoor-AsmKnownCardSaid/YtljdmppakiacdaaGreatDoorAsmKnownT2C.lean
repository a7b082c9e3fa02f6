/- Calls of the law AsmKnown. -/
import Derived.Test.YtljdmppakiacdaaGreatDoorAsmKnownGC
namespace Go.Proofs.YtljdmppakiacdaaGreatDoor.AsmKnownDone
open Go.Eng
theorem m2 : memoGOk Tryz.prog G Γb 5000 60 t2 = true := by kernel_rfl
theorem m10 : memoGOk Tryz.prog G Γb 5000 60 t10 = true := by kernel_rfl
theorem m18 : memoGOk Tryz.prog G Γb 5000 60 t18 = true := by kernel_rfl
theorem m26 : memoGOk Tryz.prog G Γb 5000 60 t26 = true := by kernel_rfl
theorem m34 : memoGOk Tryz.prog G Γb 5000 60 t34 = true := by kernel_rfl
end Go.Proofs.YtljdmppakiacdaaGreatDoor.AsmKnownDone
