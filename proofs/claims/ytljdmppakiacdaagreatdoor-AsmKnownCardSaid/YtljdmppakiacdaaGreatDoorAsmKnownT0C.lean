/- Calls of the law AsmKnown. -/
import Derived.Test.YtljdmppakiacdaaGreatDoorAsmKnownGC
namespace Go.Proofs.YtljdmppakiacdaaGreatDoor.AsmKnownDone
open Go.Eng
theorem m0 : memoGOk Tryz.prog G Γb 5000 60 t0 = true := by kernel_rfl
theorem m8 : memoGOk Tryz.prog G Γb 5000 60 t8 = true := by kernel_rfl
theorem m16 : memoGOk Tryz.prog G Γb 5000 60 t16 = true := by kernel_rfl
theorem m24 : memoGOk Tryz.prog G Γb 5000 60 t24 = true := by kernel_rfl
theorem m32 : memoGOk Tryz.prog G Γb 5000 60 t32 = true := by kernel_rfl
end Go.Proofs.YtljdmppakiacdaaGreatDoor.AsmKnownDone
