/- Leaves of the contract of the function 13. -/
import Derived.Test.YtdffbokmgdcjaaaDoorCsrTree13BaseC
namespace Go.Proofs.YtdffbokmgdcjaaaDoor.Csr
open Go.Eng
theorem l13_2t : ok13 F13_2t = true := by kernel_rfl
theorem l13_5t : ok13 F13_5t = true := by kernel_rfl
theorem l13_8t : ok13 F13_8t = true := by kernel_rfl
theorem l13_11t : ok13 F13_11t = true := by kernel_rfl
theorem l13_14t : ok13 F13_14t = true := by kernel_rfl
theorem l13_17t : ok13 F13_17t = true := by kernel_rfl
theorem l13_20t : ok13 F13_20t = true := by kernel_rfl
theorem l13_23t : ok13 F13_23t = true := by kernel_rfl
theorem l13_26t : ok13 F13_26t = true := by kernel_rfl
theorem l13_28e : ok13 F13_28e = true := by kernel_rfl
theorem l13_31t : ok13 F13_31t = true := by kernel_rfl
theorem l13_34t : ok13 F13_34t = true := by kernel_rfl
theorem l13_37t : ok13 F13_37t = true := by kernel_rfl
theorem l13_40t : ok13 F13_40t = true := by kernel_rfl
end Go.Proofs.YtdffbokmgdcjaaaDoor.Csr
