/- Leaves of the contract of the function 8. -/
import Derived.Test.YtdffbokmgdcjaaaDoorCsrTree8BaseC
namespace Go.Proofs.YtdffbokmgdcjaaaDoor.Csr
open Go.Eng
theorem l8_3t : ok8 F8_3t = true := by kernel_rfl
theorem l8_6t : ok8 F8_6t = true := by kernel_rfl
theorem l8_9t : ok8 F8_9t = true := by kernel_rfl
theorem l8_12t : ok8 F8_12t = true := by kernel_rfl
theorem l8_15t : ok8 F8_15t = true := by kernel_rfl
theorem l8_18t : ok8 F8_18t = true := by kernel_rfl
theorem l8_21t : ok8 F8_21t = true := by kernel_rfl
theorem l8_24t : ok8 F8_24t = true := by kernel_rfl
theorem l8_27t : ok8 F8_27t = true := by kernel_rfl
theorem l8_29t : ok8 F8_29t = true := by kernel_rfl
theorem l8_32t : ok8 F8_32t = true := by kernel_rfl
theorem l8_35t : ok8 F8_35t = true := by kernel_rfl
theorem l8_38t : ok8 F8_38t = true := by kernel_rfl
theorem l8_41t : ok8 F8_41t = true := by kernel_rfl
end Go.Proofs.YtdffbokmgdcjaaaDoor.Csr
