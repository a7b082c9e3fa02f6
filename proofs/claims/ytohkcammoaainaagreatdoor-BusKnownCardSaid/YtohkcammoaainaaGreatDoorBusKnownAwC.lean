/- That what the law BusKnown asks of the chapter's answers runs to true; its contract. -/
import Derived.Test.YtohkcammoaainaaGreatDoorChecked
import Derived.Test.YtohkcammoaainaaGreatDoorEngG13
import Derived.Test.YtohkcammoaainaaGreatDoorEngG10
namespace Go.Proofs.YtohkcammoaainaaGreatDoor.BusKnownDone
open Go.Eng
theorem workRun : DT.run Tryz.prog (fun _ => Γ0) 5000 60 9 (shDV Tryz.prog [] 0 0) (T.ofList (shH Tryz.prog [] 0 0)) (shN []) goodTrue { bnds := shB Tryz.prog [] 0 } .leaf = true := by kernel_rfl
def Γw : FuncId → Option CallD := Γ1 9 (readC (T.ofList []) id 0 [] [] (.bool (.lb true)))
theorem Γw_ok (F : Facts) : ΓOk Tryz.prog F Γw := by
  intro f c hc
  unfold Γw Γ1 at hc
  split at hc
  · rename_i e
    cases hc
    subst e
    refine fun args h n r hr => readC_ok (fun ρ _ m w vs hvs hH hf => ?_) 9 args h n r hr
    refine (law_cases workRun (fun _ _ => trivial) (ρ.upd (T.ofList [])) (m.pull id 0) w vs (by intro p hp; simp [shB] at hp) (by simpa [shDV] using hvs) (by simpa [shH] using hH) (fun id hid => hf id (Nat.zero_le _))).mono fun e w' ⟨he, hb⟩ => ⟨_, he, ?_, hb⟩
    simp only [DV.R, E.ev, Sc.bool_B]
  · cases hc
end Go.Proofs.YtohkcammoaainaaGreatDoor.BusKnownDone
