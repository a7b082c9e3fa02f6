/- That the runs of CsrKeeps go by their plans (a part). -/
import Derived.Test.YtdffbokmgdcjaaaDoorCsrKeepsPlanC
namespace Go.Proofs.YtdffbokmgdcjaaaDoor.CsrKeepsDone
open Go.Eng
theorem r261 : runs (argsAt 31 261 args0) F0 pl261 = true := by kernel_rfl
theorem r324 : runs (argsAt 31 324 args0) F0 pl324 = true := by kernel_rfl
theorem r769 : runs (argsAt 31 769 args0) F0 pl769 = true := by kernel_rfl
theorem r832 : runs (argsAt 31 832 args0) F0 pl832 = true := by kernel_rfl
theorem r2818 : runs (argsAt 31 2818 args0) F0 pl2818 = true := by kernel_rfl
theorem r945 : runs (argsAt 31 945 args0) F0 pl945 = true := by kernel_rfl
theorem r951 : runs (argsAt 31 951 args0) F0 pl951 = true := by kernel_rfl
end Go.Proofs.YtdffbokmgdcjaaaDoor.CsrKeepsDone
