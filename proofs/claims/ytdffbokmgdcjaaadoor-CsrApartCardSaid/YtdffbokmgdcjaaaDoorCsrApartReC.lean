/- That the runs of CsrApart go by their plans (a part). -/
import Derived.Test.YtdffbokmgdcjaaaDoorCsrApartPlanC
namespace Go.Proofs.YtdffbokmgdcjaaaDoor.CsrApartDone
open Go.Eng
theorem r320 : runs (argsAt 31 320 args0) F0 pl320 = true := by kernel_rfl
theorem r3072 : runs (argsAt 31 3072 args0) F0 pl3072 = true := by kernel_rfl
theorem r771 : runs (argsAt 31 771 args0) F0 pl771 = true := by kernel_rfl
theorem r834 : runs (argsAt 31 834 args0) F0 pl834 = true := by kernel_rfl
theorem r3857 : runs (argsAt 31 3857 args0) F0 pl3857 = true := by kernel_rfl
theorem r946 : runs (argsAt 31 946 args0) F0 pl946 = true := by kernel_rfl
end Go.Proofs.YtdffbokmgdcjaaaDoor.CsrApartDone
