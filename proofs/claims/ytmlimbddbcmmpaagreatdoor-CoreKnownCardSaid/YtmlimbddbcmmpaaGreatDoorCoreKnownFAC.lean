/- Closed facts of the row of CoreKnown. -/
import Derived.Test.YtmlimbddbcmmpaaGreatDoorRows
import Derived.Test.YtmlimbddbcmmpaaGreatDoorChecked
import Derived.JoinedOf
namespace Go.Proofs.YtmlimbddbcmmpaaGreatDoor.CoreKnownDone
open Go
theorem e1 : (Rows.coreKnownRow.inPlace == Tryz.prog.inPlace 3) = true := by kernel_rfl
theorem e2 : (Rows.coreKnownRow.unfollowed == Tryz.prog.unfollowed 3) = true := by kernel_rfl
end Go.Proofs.YtmlimbddbcmmpaaGreatDoor.CoreKnownDone
