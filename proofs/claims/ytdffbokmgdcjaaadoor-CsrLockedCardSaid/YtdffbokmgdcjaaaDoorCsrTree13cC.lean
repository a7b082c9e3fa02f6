/- Leaves of the contract of the function 13. -/
import Derived.Test.YtdffbokmgdcjaaaDoorCsrTree13BaseC
namespace Go.Proofs.YtdffbokmgdcjaaaDoor.Csr
open Go.Eng
theorem l13_4t : ok13 F13_4t = true := by kernel_rfl
theorem l13_7t : ok13 F13_7t = true := by kernel_rfl
theorem l13_10t : ok13 F13_10t = true := by kernel_rfl
theorem l13_13t : ok13 F13_13t = true := by kernel_rfl
theorem l13_16t : ok13 F13_16t = true := by kernel_rfl
theorem l13_19t : ok13 F13_19t = true := by kernel_rfl
theorem l13_22t : ok13 F13_22t = true := by kernel_rfl
theorem l13_25t : ok13 F13_25t = true := by kernel_rfl
theorem l13_28t : ok13 F13_28t = true := by kernel_rfl
theorem l13_30t : ok13 F13_30t = true := by kernel_rfl
theorem l13_33t : ok13 F13_33t = true := by kernel_rfl
theorem l13_36t : ok13 F13_36t = true := by kernel_rfl
theorem l13_39t : ok13 F13_39t = true := by kernel_rfl
theorem l13_41e : ok13 F13_41e = true := by kernel_rfl
end Go.Proofs.YtdffbokmgdcjaaaDoor.Csr
