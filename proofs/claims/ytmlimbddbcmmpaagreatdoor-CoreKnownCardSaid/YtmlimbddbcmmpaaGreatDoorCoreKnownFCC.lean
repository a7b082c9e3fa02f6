/- Closed facts of the row of CoreKnown. -/
import Derived.Test.YtmlimbddbcmmpaaGreatDoorCoreKnownFAC
import Derived.Test.YtmlimbddbcmmpaaGreatDoorCoreKnownFBC
import Derived.JoinedOf
namespace Go.Proofs.YtmlimbddbcmmpaaGreatDoor.CoreKnownDone
open Go
theorem closed : joinedFacts Tryz.prog 3 Tryz.f3 Rows.coreKnownSpec Rows.coreKnownRow = true := by
  unfold joinedFacts
  rw [e1, e2, e3, e4]
  kernel_rfl
end Go.Proofs.YtmlimbddbcmmpaaGreatDoor.CoreKnownDone
