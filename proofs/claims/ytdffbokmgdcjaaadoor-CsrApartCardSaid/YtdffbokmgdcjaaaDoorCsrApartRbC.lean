/- That the runs of CsrApart go by their plans (a part). -/
import Derived.Test.YtdffbokmgdcjaaaDoorCsrApartPlanC
namespace Go.Proofs.YtdffbokmgdcjaaaDoor.CsrApartDone
open Go.Eng
theorem r260 : runs (argsAt 31 260 args0) F0 pl260 = true := by kernel_rfl
theorem r323 : runs (argsAt 31 323 args0) F0 pl323 = true := by kernel_rfl
theorem r768 : runs (argsAt 31 768 args0) F0 pl768 = true := by kernel_rfl
theorem r774 : runs (argsAt 31 774 args0) F0 pl774 = true := by kernel_rfl
theorem r928 : runs (argsAt 31 928 args0) F0 pl928 = true := by kernel_rfl
theorem r3860 : runs (argsAt 31 3860 args0) F0 pl3860 = true := by kernel_rfl
theorem r949 : runs (argsAt 31 949 args0) F0 pl949 = true := by kernel_rfl
end Go.Proofs.YtdffbokmgdcjaaaDoor.CsrApartDone
