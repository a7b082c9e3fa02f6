/- That the runs of CsrApart go by their plans (a part). -/
import Derived.Test.YtdffbokmgdcjaaaDoorCsrApartPlanC
namespace Go.Proofs.YtdffbokmgdcjaaaDoor.CsrApartDone
open Go.Eng
theorem r262 : runs (argsAt 31 262 args0) F0 pl262 = true := by kernel_rfl
theorem r384 : runs (argsAt 31 384 args0) F0 pl384 = true := by kernel_rfl
theorem r770 : runs (argsAt 31 770 args0) F0 pl770 = true := by kernel_rfl
theorem r833 : runs (argsAt 31 833 args0) F0 pl833 = true := by kernel_rfl
theorem r2818 : runs (argsAt 31 2818 args0) F0 pl2818 = true := by kernel_rfl
theorem r945 : runs (argsAt 31 945 args0) F0 pl945 = true := by kernel_rfl
theorem r951 : runs (argsAt 31 951 args0) F0 pl951 = true := by kernel_rfl
end Go.Proofs.YtdffbokmgdcjaaaDoor.CsrApartDone
