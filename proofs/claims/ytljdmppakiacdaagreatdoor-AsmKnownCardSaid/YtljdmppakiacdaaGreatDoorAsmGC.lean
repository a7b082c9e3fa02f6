/- What runs of the functions of asm ask for: library functions by their contracts; Parse recovers. -/
import Derived.Test.YtljdmppakiacdaaGreatDoorShelfC
import Derived.Test.YtljdmppakiacdaaGreatDoorChecked
import Derived.Test.YtljdmppakiacdaaGreatDoorEngG14
namespace Go.Proofs.YtljdmppakiacdaaGreatDoor.Asm
open Go.Eng
def libs : List (FuncId × CallD) := [(131, idxC), (78, cntC), (28, joinC)]
theorem libs_ok (F : Facts) : ∀ p ∈ libs, CallCOk Tryz.prog F p.1 p.2 := by
  simp only [libs, List.forall_mem_cons, List.not_mem_nil, false_implies, implies_true, and_true]
  exact ⟨idxC_ok Tryz.stringslite_IndexByte, cntC_ok Tryz.strings_Count_one, joinC_ok fun bk o c xs sep w h1 h2 _ h4 h5 h6 => Tryz.strings_Join bk o c xs sep w h1 h2 h4 h5 h6⟩
def Γl : Facts → FuncId → Option CallD := ΓN libs (fun _ => Γ0)
theorem Γl_ok : ∀ F : Facts, ΓOk Tryz.prog F (Γl F) := ΓN_ok libs_ok (fun _ => Γ0_ok)
noncomputable def Γc : Facts → FuncId → Option CallD := ΓC Tryz.prog [54, 89, 97, 90] Γl 5000 40
theorem Γc_ok : ∀ F : Facts, ΓOk Tryz.prog F (Γc F) := ΓC_ok Γl_ok
noncomputable def Γb : Facts → FuncId → Option CallD := ΓR Tryz.prog [13] Γc 5000 40
theorem Γb_ok : ∀ F : Facts, ΓOk Tryz.prog F (Γb F) := ΓR_ok Γc_ok
end Go.Proofs.YtljdmppakiacdaaGreatDoor.Asm
