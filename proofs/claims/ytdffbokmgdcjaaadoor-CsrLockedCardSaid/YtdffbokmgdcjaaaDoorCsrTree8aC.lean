/- Leaves of the contract of the function 8. -/
import Derived.Test.YtdffbokmgdcjaaaDoorCsrTree8BaseC
namespace Go.Proofs.YtdffbokmgdcjaaaDoor.Csr
open Go.Eng
theorem l8_2t : ok8 F8_2t = true := by kernel_rfl
theorem l8_5t : ok8 F8_5t = true := by kernel_rfl
theorem l8_8t : ok8 F8_8t = true := by kernel_rfl
theorem l8_11t : ok8 F8_11t = true := by kernel_rfl
theorem l8_14t : ok8 F8_14t = true := by kernel_rfl
theorem l8_17t : ok8 F8_17t = true := by kernel_rfl
theorem l8_20t : ok8 F8_20t = true := by kernel_rfl
theorem l8_23t : ok8 F8_23t = true := by kernel_rfl
theorem l8_26t : ok8 F8_26t = true := by kernel_rfl
theorem l8_28e : ok8 F8_28e = true := by kernel_rfl
theorem l8_31t : ok8 F8_31t = true := by kernel_rfl
theorem l8_34t : ok8 F8_34t = true := by kernel_rfl
theorem l8_37t : ok8 F8_37t = true := by kernel_rfl
theorem l8_40t : ok8 F8_40t = true := by kernel_rfl
end Go.Proofs.YtdffbokmgdcjaaaDoor.Csr
