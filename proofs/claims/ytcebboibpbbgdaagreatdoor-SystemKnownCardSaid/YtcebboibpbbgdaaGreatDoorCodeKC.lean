/- The contract of config.Code: of a fault, the error within it; of nil, none. -/
import Derived.Test.YtcebboibpbbgdaaGreatDoorCodeC
import Derived.Test.YtcebboibpbbgdaaGreatDoorEngG15
namespace Go.Proofs.YtcebboibpbbgdaaGreatDoor.Code
open Go.Eng Go.RowKit
def codeC : CallD := fun _ xs h n => match xs with
  | [.nili] => some ⟨.int .i64 (.li 0), h, n⟩
  | [.ifc 110 (.ptr id ⟨0, []⟩)] => match h.get 0, h.get id with
    | some (.cells [.ifc 308 (.agg [.gptr 9 74])] _ (.gl 0)), some (.cells [_, _, .int .i64 e] _ _) => some ⟨.int .i64 e, h, n⟩
    | _, _ => none
  | _ => none
theorem codeC_ok {F : Facts} : CallCOk Tryz.prog F 22 codeC := by
  intro args h n r hr ρ hF m w vs hvs hH hn
  unfold codeC at hr
  split at hr
  · cases hr
    simp only [DV.RL] at hvs
    obtain ⟨x, vr, e1, hx, rfl⟩ := hvs
    simp only [DV.R] at hx
    subst hx
    obtain rfl : vs = #[.nilIface] := Array.toList_inj.1 (by simpa using e1)
    refine (code_nil w).mono fun e w' ⟨he, hb⟩ => ?_
    exact ⟨_, m, he, by simp only [DV.R, E.ev, Sc.int_I], heap_below hH hb, trans_below hb, hn⟩
  · rename_i id
    split at hr
    · rename_i t0 l0 l1 e t md h0 hid
      cases hr
      simp only [DV.RL] at hvs
      obtain ⟨x, vr, e1, hx, rfl⟩ := hvs
      simp only [DV.R] at hx
      obtain ⟨y, rfl, b, hb, rfl⟩ := hx
      have hd : Off.den ρ ⟨0, []⟩ = 0 := by simp [Off.den, sumT]
      rw [hd] at e1
      obtain rfl : vs = #[.iface 110 (.pointer (some ⟨b, 0, none⟩))] := Array.toList_inj.1 (by simpa using e1)
      obtain ⟨b0, o0, hb0, ho0, c0, fr0, ⟨t0', rfl⟩, _, hc0, hmd0⟩ := hH.blk 0 _ h0 rfl
      have hz : b0 = 0 := Option.some.inj (hb0.symm.trans hmd0)
      subst hz
      obtain ⟨v0, hv0, hr0⟩ := hc0 0 _ rfl
      simp only [DV.R, DV.RL] at hr0
      obtain ⟨_, rfl, vs0, rfl, _, _, e0, rfl, rfl⟩ := hr0
      obtain rfl : vs0 = #[.pointer (some ⟨9, 74, none⟩)] := Array.toList_inj.1 (by simpa using e0)
      obtain ⟨b1, o1, hb1, ho1, c1, fr1, ⟨t1', rfl⟩, _, hc1, _⟩ := hH.blk id _ hid rfl
      obtain rfl : b1 = b := Option.some.inj (hb1.symm.trans hb)
      obtain ⟨v1, hv1, hr1⟩ := hc1 2 _ rfl
      simp only [DV.R] at hr1
      subst hr1
      refine (code_of b1 (e.ev ρ).int w (by rw [cell_at ho0, hv0]) (by rw [cell_at ho1, hv1])).mono fun e w' ⟨he, hb'⟩ => ?_
      exact ⟨_, m, he, by simp only [DV.R], heap_below hH hb', trans_below hb', hn⟩
    · cases hr
  · cases hr
end Go.Proofs.YtcebboibpbbgdaaGreatDoor.Code
