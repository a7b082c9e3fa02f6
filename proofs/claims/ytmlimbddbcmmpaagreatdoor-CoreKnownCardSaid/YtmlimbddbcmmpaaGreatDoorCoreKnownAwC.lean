/- That what the law CoreKnown asks of the chapter's answers runs to true; its contract. -/
import Derived.Test.YtmlimbddbcmmpaaGreatDoorCoreKnownW0C
import Derived.Test.YtmlimbddbcmmpaaGreatDoorCoreKnownW1C
import Derived.Test.YtmlimbddbcmmpaaGreatDoorCoreKnownW2C
import Derived.Test.YtmlimbddbcmmpaaGreatDoorCoreKnownW3C
import Derived.Test.YtmlimbddbcmmpaaGreatDoorCoreKnownW4C
namespace Go.Proofs.YtmlimbddbcmmpaaGreatDoor.CoreKnownDone
open Go.Eng
theorem kw3 : CutOk Tryz.prog rootW Tryz.f5 {} w3 := cut_step (Γ := Γb) (fun F _ => Γb_ok F) rw4 (fun _ e => by cases e)
theorem kw2 : CutOk Tryz.prog rootW Tryz.f5 {} w2 := cut_step (Γ := Γb) (fun F _ => Γb_ok F) rw3 (fun _ e => by cases e; exact kw3)
theorem kw1 : CutOk Tryz.prog rootW Tryz.f5 {} w1 := cut_step (Γ := Γb) (fun F _ => Γb_ok F) rw2 (fun _ e => by cases e; exact kw2)
theorem kw0 : CutOk Tryz.prog rootW Tryz.f5 {} w0 := cut_step (Γ := Γb) (fun F _ => Γb_ok F) rw1 (fun _ e => by cases e; exact kw1)
def Γw (F : Facts) (g : FuncId) : Option CallD := if g = 5 then Γ1 5 (readC (T.ofList []) id 0 [] [] (.bool (.lb true))) g else Γb F g
theorem Γw_ok (F : Facts) : ΓOk Tryz.prog F (Γw F) := by
  intro f c hc
  unfold Γw at hc
  split at hc
  · unfold Γ1 at hc
    split at hc
    · rename_i e
      cases hc
      subst e
      refine fun args h n r hr => readC_ok (fun ρ _ m w vs hvs hH hf => ?_) 5 args h n r hr
      refine (law_by_cuts (Γ := Γb) (F := {}) (fun F _ => Γb_ok F) Tryz.func5 (root := rootW) (by kernel_rfl) (args := []) (h := T.ofList []) (n := 0) (of_decide_eq_true (by kernel_rfl)) rw0 kw0 (ρ := ρ.upd (T.ofList [])) ⟨by simp, by simp, by simp, trivial⟩ (m := m.pull id 0) (w := w) (vs := vs) (by simpa using hvs) (by simpa using hH) (fun id hid => hf id (Nat.zero_le _)) (fun id B h => by have := ofList_mem h; cases this)).mono fun e w' ⟨he, hb⟩ => ⟨_, he, ?_, hb⟩
      simp only [DV.R, E.ev, Sc.bool_B]
    · rename_i h1 h2
      exact absurd h1 h2
  · exact Γb_ok F f c hc
end Go.Proofs.YtmlimbddbcmmpaaGreatDoor.CoreKnownDone
