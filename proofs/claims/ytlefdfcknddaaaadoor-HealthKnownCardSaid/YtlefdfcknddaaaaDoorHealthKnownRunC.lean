/- That the law HealthKnown runs to true. -/
import Derived.Test.YtlefdfcknddaaaaDoorChecked
import Derived.Test.YtlefdfcknddaaaaDoorEngAI
namespace Go.Proofs.YtlefdfcknddaaaaDoor.HealthKnownDone
open Go.Eng
theorem run1 : DT.run Tryd.prog (fun _ => Γ0) 5000 60 7 (shDV Tryd.prog [] 0 0) (T.ofList (shH Tryd.prog [] 0 0)) (shN []) goodTrue { bnds := shB Tryd.prog [] 0 } .leaf = true := by kernel_rfl
end Go.Proofs.YtlefdfcknddaaaaDoor.HealthKnownDone
