/- That the runs of CsrKeeps go by their plans (a part). -/
import Derived.Test.YtdffbokmgdcjaaaDoorCsrKeepsPlanC
namespace Go.Proofs.YtdffbokmgdcjaaaDoor.CsrKeepsDone
open Go.Eng
theorem r256 : runs (argsAt 31 256 args0) F0 pl256 = true := by kernel_rfl
theorem r322 : runs (argsAt 31 322 args0) F0 pl322 = true := by kernel_rfl
theorem r3074 : runs (argsAt 31 3074 args0) F0 pl3074 = true := by kernel_rfl
theorem r773 : runs (argsAt 31 773 args0) F0 pl773 = true := by kernel_rfl
theorem r836 : runs (argsAt 31 836 args0) F0 pl836 = true := by kernel_rfl
theorem r3860 : runs (argsAt 31 3860 args0) F0 pl3860 = true := by kernel_rfl
theorem r949 : runs (argsAt 31 949 args0) F0 pl949 = true := by kernel_rfl
theorem rN : runs args0 FN plN = true := by kernel_rfl
end Go.Proofs.YtdffbokmgdcjaaaDoor.CsrKeepsDone
