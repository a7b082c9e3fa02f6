/- Closed facts of the row of CoreKnown. -/
import Derived.Test.YtmlimbddbcmmpaaGreatDoorRows
import Derived.Test.YtmlimbddbcmmpaaGreatDoorChecked
import Derived.JoinedOf
namespace Go.Proofs.YtmlimbddbcmmpaaGreatDoor.CoreKnownDone
open Go
theorem e3 : (Rows.coreKnownRow.recurses == Tryz.prog.recurses 3) = true := by kernel_rfl
theorem e4 : (Rows.coreKnownRow.named == Tryz.prog.varsNamed 3) = true := by kernel_rfl
end Go.Proofs.YtmlimbddbcmmpaaGreatDoor.CoreKnownDone
