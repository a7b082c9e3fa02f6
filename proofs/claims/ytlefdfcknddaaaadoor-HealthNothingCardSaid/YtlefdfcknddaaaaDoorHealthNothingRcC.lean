/- That the run of HealthNothing goes by its plan. -/
import Derived.Test.YtlefdfcknddaaaaDoorHealthNothingPlanC
namespace Go.Proofs.YtlefdfcknddaaaaDoor.HealthNothingDone
open Go.Eng
theorem run3 : ptOk Tryd.prog (fun _ => Γw) 1000 50 root Tryd.f5 pts ⟨rp0, tm0, facts0, plan1⟩ = true := by kernel_rfl
end Go.Proofs.YtlefdfcknddaaaaDoor.HealthNothingDone
