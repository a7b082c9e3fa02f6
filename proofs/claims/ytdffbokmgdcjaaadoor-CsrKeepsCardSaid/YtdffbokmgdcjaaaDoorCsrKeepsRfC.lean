/- That the runs of CsrKeeps go by their plans (a part). -/
import Derived.Test.YtdffbokmgdcjaaaDoorCsrKeepsPlanC
namespace Go.Proofs.YtdffbokmgdcjaaaDoor.CsrKeepsDone
open Go.Eng
theorem r321 : runs (argsAt 31 321 args0) F0 pl321 = true := by kernel_rfl
theorem r3073 : runs (argsAt 31 3073 args0) F0 pl3073 = true := by kernel_rfl
theorem r772 : runs (argsAt 31 772 args0) F0 pl772 = true := by kernel_rfl
theorem r835 : runs (argsAt 31 835 args0) F0 pl835 = true := by kernel_rfl
theorem r3859 : runs (argsAt 31 3859 args0) F0 pl3859 = true := by kernel_rfl
theorem r948 : runs (argsAt 31 948 args0) F0 pl948 = true := by kernel_rfl
end Go.Proofs.YtdffbokmgdcjaaaDoor.CsrKeepsDone
