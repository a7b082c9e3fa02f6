/- That the runs of CsrApart go by their plans (a part). -/
import Derived.Test.YtdffbokmgdcjaaaDoorCsrApartPlanC
namespace Go.Proofs.YtdffbokmgdcjaaaDoor.CsrApartDone
open Go.Eng
theorem r261 : runs (argsAt 31 261 args0) F0 pl261 = true := by kernel_rfl
theorem r324 : runs (argsAt 31 324 args0) F0 pl324 = true := by kernel_rfl
theorem r769 : runs (argsAt 31 769 args0) F0 pl769 = true := by kernel_rfl
theorem r832 : runs (argsAt 31 832 args0) F0 pl832 = true := by kernel_rfl
theorem r2816 : runs (argsAt 31 2816 args0) F0 pl2816 = true := by kernel_rfl
theorem r944 : runs (argsAt 31 944 args0) F0 pl944 = true := by kernel_rfl
theorem r950 : runs (argsAt 31 950 args0) F0 pl950 = true := by kernel_rfl
end Go.Proofs.YtdffbokmgdcjaaaDoor.CsrApartDone
