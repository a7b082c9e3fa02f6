/- That the runs of CsrApart go by their plans (a part). -/
import Derived.Test.YtdffbokmgdcjaaaDoorCsrApartPlanC
namespace Go.Proofs.YtdffbokmgdcjaaaDoor.CsrApartDone
open Go.Eng
theorem r321 : runs (argsAt 31 321 args0) F0 pl321 = true := by kernel_rfl
theorem r3073 : runs (argsAt 31 3073 args0) F0 pl3073 = true := by kernel_rfl
theorem r772 : runs (argsAt 31 772 args0) F0 pl772 = true := by kernel_rfl
theorem r835 : runs (argsAt 31 835 args0) F0 pl835 = true := by kernel_rfl
theorem r3858 : runs (argsAt 31 3858 args0) F0 pl3858 = true := by kernel_rfl
theorem r947 : runs (argsAt 31 947 args0) F0 pl947 = true := by kernel_rfl
end Go.Proofs.YtdffbokmgdcjaaaDoor.CsrApartDone
