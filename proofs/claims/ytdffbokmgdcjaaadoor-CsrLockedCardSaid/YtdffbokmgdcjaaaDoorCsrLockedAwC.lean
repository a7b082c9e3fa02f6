/- That what the law CsrLocked asks of the chapter's answers runs to true; its contract. -/
import Derived.Test.YtdffbokmgdcjaaaDoorChecked
import Derived.Test.YtdffbokmgdcjaaaDoorEngG13
namespace Go.Proofs.YtdffbokmgdcjaaaDoor.CsrLockedDone
open Go.Eng
theorem workRun : DT.run Tryd.prog (fun _ => Γ0) 5000 60 10 (shDV Tryd.prog [] 0 0) (T.ofList (shH Tryd.prog [] 0 0)) (shN []) goodTrue { bnds := shB Tryd.prog [] 0 } .leaf = true := by kernel_rfl
def Γw : FuncId → Option CallD := Γ1 10 (readC (T.ofList []) id 0 [] [] (.bool (.lb true)))
theorem Γw_ok (F : Facts) : ΓOk Tryd.prog F Γw := by
  intro f c hc
  unfold Γw Γ1 at hc
  split at hc
  · rename_i e
    cases hc
    subst e
    refine fun args h n r hr => readC_ok (fun ρ _ m w vs hvs hH hf => ?_) 10 args h n r hr
    refine (law_cases workRun (fun _ _ => trivial) (ρ.upd (T.ofList [])) (m.pull id 0) w vs (by intro p hp; simp [shB] at hp) (by simpa [shDV] using hvs) (by simpa [shH] using hH) (fun id hid => hf id (Nat.zero_le _))).mono fun e w' ⟨he, hb⟩ => ⟨_, he, ?_, hb⟩
    simp only [DV.R, E.ev, Sc.bool_B]
  · cases hc
end Go.Proofs.YtdffbokmgdcjaaaDoor.CsrLockedDone
