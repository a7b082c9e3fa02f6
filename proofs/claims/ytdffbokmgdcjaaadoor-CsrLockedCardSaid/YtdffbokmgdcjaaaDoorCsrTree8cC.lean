/- Leaves of the contract of the function 8. -/
import Derived.Test.YtdffbokmgdcjaaaDoorCsrTree8BaseC
namespace Go.Proofs.YtdffbokmgdcjaaaDoor.Csr
open Go.Eng
theorem l8_4t : ok8 F8_4t = true := by kernel_rfl
theorem l8_7t : ok8 F8_7t = true := by kernel_rfl
theorem l8_10t : ok8 F8_10t = true := by kernel_rfl
theorem l8_13t : ok8 F8_13t = true := by kernel_rfl
theorem l8_16t : ok8 F8_16t = true := by kernel_rfl
theorem l8_19t : ok8 F8_19t = true := by kernel_rfl
theorem l8_22t : ok8 F8_22t = true := by kernel_rfl
theorem l8_25t : ok8 F8_25t = true := by kernel_rfl
theorem l8_28t : ok8 F8_28t = true := by kernel_rfl
theorem l8_30t : ok8 F8_30t = true := by kernel_rfl
theorem l8_33t : ok8 F8_33t = true := by kernel_rfl
theorem l8_36t : ok8 F8_36t = true := by kernel_rfl
theorem l8_39t : ok8 F8_39t = true := by kernel_rfl
theorem l8_41e : ok8 F8_41e = true := by kernel_rfl
end Go.Proofs.YtdffbokmgdcjaaaDoor.Csr
