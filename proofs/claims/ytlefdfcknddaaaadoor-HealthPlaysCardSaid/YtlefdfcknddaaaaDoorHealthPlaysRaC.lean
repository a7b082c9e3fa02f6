/- That the run of HealthPlays goes by its plan. -/
import Derived.Test.YtlefdfcknddaaaaDoorHealthPlaysPlanC
namespace Go.Proofs.YtlefdfcknddaaaaDoor.HealthPlaysDone
open Go.Eng
theorem run1 : PL.run (seg Tryd.prog Γh 1000 50 (([] : List Pt).map (·.rp)) (.code root []) [] ⟨argsT 0 (shDV Tryd.prog sh1 0 501), T.ofList (glH G ++ shH Tryd.prog sh1 0 501), 501 + shN sh1, Tryd.f6.ntmps, []⟩) (finTrue Tryd.prog Tryd.f6) ([] : List Pt) { bnds := shB Tryd.prog sh1 0, sem := S } planN = true := by kernel_rfl
theorem run2 : PL.run (seg Tryd.prog Γh 1000 50 (pts.map (·.rp)) (.code root []) [] ⟨argsT 0 (shDV Tryd.prog sh2 0 501), T.ofList (glH G ++ shH Tryd.prog sh2 0 501), 501 + shN sh2, Tryd.f6.ntmps, []⟩) (finTrue Tryd.prog Tryd.f6) pts { bnds := shB Tryd.prog sh2 0, sem := S } planE = true := by kernel_rfl
theorem loc : locate root rp0 = some (.loop body, kont) := by kernel_rfl
end Go.Proofs.YtlefdfcknddaaaaDoor.HealthPlaysDone
