/- That the runs of CsrKeeps go by their plans (a part). -/
import Derived.Test.YtdffbokmgdcjaaaDoorCsrKeepsPlanC
namespace Go.Proofs.YtdffbokmgdcjaaaDoor.CsrKeepsDone
open Go.Eng
theorem r320 : runs (argsAt 31 320 args0) F0 pl320 = true := by kernel_rfl
theorem r3072 : runs (argsAt 31 3072 args0) F0 pl3072 = true := by kernel_rfl
theorem r771 : runs (argsAt 31 771 args0) F0 pl771 = true := by kernel_rfl
theorem r834 : runs (argsAt 31 834 args0) F0 pl834 = true := by kernel_rfl
theorem r3858 : runs (argsAt 31 3858 args0) F0 pl3858 = true := by kernel_rfl
theorem r947 : runs (argsAt 31 947 args0) F0 pl947 = true := by kernel_rfl
end Go.Proofs.YtdffbokmgdcjaaaDoor.CsrKeepsDone
