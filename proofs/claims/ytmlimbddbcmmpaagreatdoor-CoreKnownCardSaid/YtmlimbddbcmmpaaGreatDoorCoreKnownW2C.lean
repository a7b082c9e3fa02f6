/- That what the law CoreKnown asks of the chapter's answers runs from place to place. -/
import Derived.Test.YtmlimbddbcmmpaaGreatDoorCoreKnownWCutsC
namespace Go.Proofs.YtmlimbddbcmmpaaGreatDoor.CoreKnownDone
open Go.Eng
theorem rw2 : cutRun Tryz.prog Γb 5000 60 rootW Tryz.f5 {} w1 (some w2) = true := by kernel_rfl
end Go.Proofs.YtmlimbddbcmmpaaGreatDoor.CoreKnownDone
