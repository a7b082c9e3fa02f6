/- That what the law CoreKnown asks of the chapter's answers runs from place to place. -/
import Derived.Test.YtmlimbddbcmmpaaGreatDoorCoreKnownWCutsC
namespace Go.Proofs.YtmlimbddbcmmpaaGreatDoor.CoreKnownDone
open Go.Eng
theorem rw3 : cutRun Tryz.prog Γb 5000 60 rootW Tryz.f5 {} w2 (some w3) = true := by kernel_rfl
end Go.Proofs.YtmlimbddbcmmpaaGreatDoor.CoreKnownDone
