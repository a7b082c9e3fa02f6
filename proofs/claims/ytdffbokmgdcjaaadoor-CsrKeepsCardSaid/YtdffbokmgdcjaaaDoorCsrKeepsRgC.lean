/- That the runs of CsrKeeps go by their plans (a part). -/
import Derived.Test.YtdffbokmgdcjaaaDoorCsrKeepsPlanC
namespace Go.Proofs.YtdffbokmgdcjaaaDoor.CsrKeepsDone
open Go.Eng
theorem r928 : runs (argsAt 31 928 args0) F0 pl928 = true := by kernel_rfl
end Go.Proofs.YtdffbokmgdcjaaaDoor.CsrKeepsDone
