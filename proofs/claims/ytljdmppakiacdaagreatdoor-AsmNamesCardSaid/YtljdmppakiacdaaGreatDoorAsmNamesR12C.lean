/- Rounds of the law AsmNames. -/
import Derived.Test.YtljdmppakiacdaaGreatDoorAsmNamesCutsC
namespace Go.Proofs.YtljdmppakiacdaaGreatDoor.AsmNamesDone
open Go.Eng
theorem c12 : ((List.range' 81 3).all fun i => cutNext Tryz.prog Γn 9000 40 root Tryz.f3 {} (ct i) (some (ct (i + 1)))) = true := by kernel_rfl
end Go.Proofs.YtljdmppakiacdaaGreatDoor.AsmNamesDone
