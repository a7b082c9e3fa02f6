/- That the runs of CsrKeeps go by their plans (a part). -/
import Derived.Test.YtdffbokmgdcjaaaDoorCsrKeepsPlanC
namespace Go.Proofs.YtdffbokmgdcjaaaDoor.CsrKeepsDone
open Go.Eng
theorem r262 : runs (argsAt 31 262 args0) F0 pl262 = true := by kernel_rfl
theorem r384 : runs (argsAt 31 384 args0) F0 pl384 = true := by kernel_rfl
theorem r770 : runs (argsAt 31 770 args0) F0 pl770 = true := by kernel_rfl
theorem r833 : runs (argsAt 31 833 args0) F0 pl833 = true := by kernel_rfl
theorem r3857 : runs (argsAt 31 3857 args0) F0 pl3857 = true := by kernel_rfl
theorem r946 : runs (argsAt 31 946 args0) F0 pl946 = true := by kernel_rfl
end Go.Proofs.YtdffbokmgdcjaaaDoor.CsrKeepsDone
