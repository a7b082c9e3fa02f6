/- That the runs of CsrKeeps go by their plans (a part). -/
import Derived.Test.YtdffbokmgdcjaaaDoorCsrKeepsPlanC
namespace Go.Proofs.YtdffbokmgdcjaaaDoor.CsrKeepsDone
open Go.Eng
theorem r260 : runs (argsAt 31 260 args0) F0 pl260 = true := by kernel_rfl
theorem r323 : runs (argsAt 31 323 args0) F0 pl323 = true := by kernel_rfl
theorem r768 : runs (argsAt 31 768 args0) F0 pl768 = true := by kernel_rfl
theorem r774 : runs (argsAt 31 774 args0) F0 pl774 = true := by kernel_rfl
theorem r2816 : runs (argsAt 31 2816 args0) F0 pl2816 = true := by kernel_rfl
theorem r944 : runs (argsAt 31 944 args0) F0 pl944 = true := by kernel_rfl
theorem r950 : runs (argsAt 31 950 args0) F0 pl950 = true := by kernel_rfl
end Go.Proofs.YtdffbokmgdcjaaaDoor.CsrKeepsDone
