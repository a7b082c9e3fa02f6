/- Closed facts of the row of CoreKnown. -/
import Derived.Test.YtmlimbddbcmmpaaGreatDoorCards
import Derived.Test.YtmlimbddbcmmpaaGreatDoorChecked
import Derived.JoinedOf
namespace Go.Proofs.YtmlimbddbcmmpaaGreatDoor.CoreKnownDone
open Go
theorem looks : false = Tryz.prog.looks [] := by kernel_rfl
theorem named : Tryz.prog.funcNamed Rows.coreKnownRow.func = some 3 := by kernel_rfl
end Go.Proofs.YtmlimbddbcmmpaaGreatDoor.CoreKnownDone
