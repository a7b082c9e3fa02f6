/- Leaves of the contract of the function 13. -/
import Derived.Test.YtdffbokmgdcjaaaDoorCsrTree13BaseC
namespace Go.Proofs.YtdffbokmgdcjaaaDoor.Csr
open Go.Eng
theorem l13_3t : ok13 F13_3t = true := by kernel_rfl
theorem l13_6t : ok13 F13_6t = true := by kernel_rfl
theorem l13_9t : ok13 F13_9t = true := by kernel_rfl
theorem l13_12t : ok13 F13_12t = true := by kernel_rfl
theorem l13_15t : ok13 F13_15t = true := by kernel_rfl
theorem l13_18t : ok13 F13_18t = true := by kernel_rfl
theorem l13_21t : ok13 F13_21t = true := by kernel_rfl
theorem l13_24t : ok13 F13_24t = true := by kernel_rfl
theorem l13_27t : ok13 F13_27t = true := by kernel_rfl
theorem l13_29t : ok13 F13_29t = true := by kernel_rfl
theorem l13_32t : ok13 F13_32t = true := by kernel_rfl
theorem l13_35t : ok13 F13_35t = true := by kernel_rfl
theorem l13_38t : ok13 F13_38t = true := by kernel_rfl
theorem l13_41t : ok13 F13_41t = true := by kernel_rfl
end Go.Proofs.YtdffbokmgdcjaaaDoor.Csr
