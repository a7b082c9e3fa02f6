/- That the law CoreKnown runs from place to place. -/
import Derived.Test.YtmlimbddbcmmpaaGreatDoorCoreKnownCutsC
namespace Go.Proofs.YtmlimbddbcmmpaaGreatDoor.CoreKnownDone
open Go.Eng
theorem rc19 : cutRun Tryz.prog Γr 5000 60 root Tryz.f3 {} c18 (some c19) = true := by kernel_rfl
end Go.Proofs.YtmlimbddbcmmpaaGreatDoor.CoreKnownDone
