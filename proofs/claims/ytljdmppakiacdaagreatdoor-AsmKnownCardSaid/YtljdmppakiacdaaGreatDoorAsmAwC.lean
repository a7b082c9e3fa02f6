/- What the laws of asm ask of the chapter's answers holds. -/
import Derived.Test.YtljdmppakiacdaaGreatDoorAsmGC
namespace Go.Proofs.YtljdmppakiacdaaGreatDoor.Asm
open Go.Eng
def cw : MC := ⟨6, [], .bool (.lb true)⟩
theorem mw : memoOk Tryz.prog Γb 5000 40 cw = true := by kernel_rfl
end Go.Proofs.YtljdmppakiacdaaGreatDoor.Asm
