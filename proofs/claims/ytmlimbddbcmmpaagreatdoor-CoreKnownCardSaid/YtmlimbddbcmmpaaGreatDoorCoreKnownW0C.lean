/- That what the law CoreKnown asks of the chapter's answers runs from place to place. -/
import Derived.Test.YtmlimbddbcmmpaaGreatDoorCoreKnownWCutsC
namespace Go.Proofs.YtmlimbddbcmmpaaGreatDoor.CoreKnownDone
open Go.Eng
theorem rw0 : cutGo Tryz.prog Γb 5000 60 rootW Tryz.f5 {} (some w0) (.code rootW []) [] ⟨argsT 0 [], T.ofList [], 0, Tryz.f5.ntmps, []⟩ = true := by kernel_rfl
end Go.Proofs.YtmlimbddbcmmpaaGreatDoor.CoreKnownDone
