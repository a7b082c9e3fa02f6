/- Where the run of the law AsmNames is cut: at each round's beginning. -/
import Derived.Test.YtljdmppakiacdaaGreatDoorAsmNamesMemoC
import Derived.Test.YtljdmppakiacdaaGreatDoorAsmAwC
import Derived.Test.YtljdmppakiacdaaGreatDoorEngG10
namespace Go.Proofs.YtljdmppakiacdaaGreatDoor.AsmNamesDone
open Go.Eng
noncomputable def root : Code := (Tryz.f3.body).getD .skip
def ct (i : Nat) : Cut := ⟨[0, 0, 0, 0, 1, 0, 1], 0, { tmps := [(0, .bool (.lb false)), (1, .int .i64 (.li (i : Int)))], heap := [], next := 0, sz := 35 }⟩
def Γn : Facts → FuncId → Option CallD := ΓN [(5, nameC), (6, memoC 6 [Asm.cw])] (fun _ => Γ0)
theorem Γn_ok : ∀ F : Facts, ΓOk Tryz.prog F (Γn F) := ΓN_ok (fun F => by
  simp only [List.forall_mem_cons, List.not_mem_nil, false_implies, implies_true, and_true]
  exact ⟨nameC_ok F, fun args h n r hr => memoC_ok (fun c hc => by rw [List.mem_singleton.1 hc]; exact memo_of Asm.Γb_ok Asm.mw) 6 args h n r hr⟩) (fun _ => Γ0_ok)
theorem r0 : cutGo Tryz.prog Γn 9000 40 root Tryz.f3 {} (some (ct 0)) (.code root []) [] ⟨argsT 0 [], T.ofList [], 0, Tryz.f3.ntmps, []⟩ = true := by kernel_rfl
theorem rl : cutNext Tryz.prog Γn 9000 40 root Tryz.f3 {} (ct 256) none = true := by kernel_rfl
end Go.Proofs.YtljdmppakiacdaaGreatDoor.AsmNamesDone
