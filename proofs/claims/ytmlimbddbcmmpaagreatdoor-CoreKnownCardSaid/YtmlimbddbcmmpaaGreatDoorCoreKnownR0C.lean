/- That the law CoreKnown runs from place to place. -/
import Derived.Test.YtmlimbddbcmmpaaGreatDoorCoreKnownCutsC
namespace Go.Proofs.YtmlimbddbcmmpaaGreatDoor.CoreKnownDone
open Go.Eng
theorem rc0 : cutGo Tryz.prog Γr 5000 60 root Tryz.f3 {} (some c0) (.code root []) [] ⟨argsT 0 [], T.ofList [], 0, Tryz.f3.ntmps, []⟩ = true := by kernel_rfl
end Go.Proofs.YtmlimbddbcmmpaaGreatDoor.CoreKnownDone
