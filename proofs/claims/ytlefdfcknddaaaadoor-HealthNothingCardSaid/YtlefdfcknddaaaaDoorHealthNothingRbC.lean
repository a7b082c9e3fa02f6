/- That the run of HealthNothing goes by its plan. -/
import Derived.Test.YtlefdfcknddaaaaDoorHealthNothingPlanC
namespace Go.Proofs.YtlefdfcknddaaaaDoor.HealthNothingDone
open Go.Eng
theorem run2 : PL.run (seg Tryd.prog (fun _ => Γw) 1000 50 ((pts : List Pt).map (·.rp)) (.code root []) [] ⟨argsT 0 (shDV Tryd.prog sh2 0 501), T.ofList (glH G ++ shH Tryd.prog sh2 0 501), 501 + shN sh2, Tryd.f5.ntmps⟩) (finTrue Tryd.prog Tryd.f5) pts { bnds := shB Tryd.prog sh2 0, sem := fun _ => True } plan0 = true := by kernel_rfl
end Go.Proofs.YtlefdfcknddaaaaDoor.HealthNothingDone
