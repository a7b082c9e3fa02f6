/- The law SystemEvents: it takes nothing, and returns true. Of the listed package-level variables the card speaks as its words say. No condition. -/
import Derived.Test.YtcebboibpbbgdaaGreatDoorSystemEventsRunC
import Derived.Test.YtcebboibpbbgdaaGreatDoorSystemEventsLAC
import Derived.Test.YtcebboibpbbgdaaGreatDoorSystemEventsLCC
import Derived.Test.YtcebboibpbbgdaaGreatDoorSystemEventsFCC
import Derived.Test.YtcebboibpbbgdaaGreatDoorSystemEventsFDC
import Derived.Test.YtcebboibpbbgdaaGreatDoorSystemEventsFEC
import Derived.Test.YtcebboibpbbgdaaGreatDoorRows
import Derived.Test.YtcebboibpbbgdaaGreatDoorCards
import Derived.Test.YtcebboibpbbgdaaGreatDoorTieAC
import Derived.Test.YtcebboibpbbgdaaGreatDoorTieBC
import Derived.Test.YtcebboibpbbgdaaGreatDoorTieCC
import Derived.Test.YtcebboibpbbgdaaGreatDoorTieDC
import Derived.Test.YtcebboibpbbgdaaGreatDoorTieEC
import Derived.Test.YtcebboibpbbgdaaGreatDoorTieFC
import Derived.Test.YtcebboibpbbgdaaGreatDoorTieGC
import Derived.Test.YtcebboibpbbgdaaGreatDoorTieHC
import Derived.Test.YtcebboibpbbgdaaGreatDoorTieIC
import Derived.LaidHandle
namespace Go.Proofs.YtcebboibpbbgdaaGreatDoor.SystemEventsDone
open Go.Eng Go.RowKit Go.ChangeShapes Go.WideShapes Go.ChangeAt
set_option maxRecDepth 100000

theorem law1 : LawG Tryz.prog G 3 [] := lawG_run (fun F _ => Γn_ok F) Tryz.func3 (by kernel_rfl) run
theorem laidMetH_laid {P : Program} {l : List (String × DataW Unit)} {w : World} (h : laidMetH P l w) : laidMet P (l.filter fun x => x.2.handleName?.isNone) w := by
  unfold laidMetH at h
  split at h
  · rename_i hfl
    have e : (l.filter fun x => x.2.handleName?.isNone) = l := by
      rw [List.filter_eq_self]
      intro x hx
      have := (List.filter_eq_nil_iff.1 hfl) x hx
      cases hn : x.2.handleName? with
      | none => rfl
      | some s => rw [hn] at this; exact absurd rfl this
    rw [e]; exact h
  · exact h.1
theorem tie : Tryz.prog.laidByTextLater listed [.data, .sentinel, .sentinel, .data, .data, .data, .handle] true := Program.laidByTextLater_by_run_h 400 8 Go.Proofs.YtcebboibpbbgdaaGreatDoor.t1 Go.Proofs.YtcebboibpbbgdaaGreatDoor.t2 Go.Proofs.YtcebboibpbbgdaaGreatDoor.t3 Go.Proofs.YtcebboibpbbgdaaGreatDoor.t4 Go.Proofs.YtcebboibpbbgdaaGreatDoor.t5 Go.Proofs.YtcebboibpbbgdaaGreatDoor.t6 Go.Proofs.YtcebboibpbbgdaaGreatDoor.t7 Go.Proofs.YtcebboibpbbgdaaGreatDoor.t8 Go.Proofs.YtcebboibpbbgdaaGreatDoor.t9 Go.Proofs.YtcebboibpbbgdaaGreatDoor.t10
theorem rowTie : Rows.systemEventsRow.laidByTextAt .later Tryz.pinned [.pinned, .data, .sentinel, .sentinel, .data, .data, .data, .handle] true :=
  OpenClaim.laidByTextAt_pinned rfl rfl tie rfl rfl rfl rfl (fun y hy _e => by
    simp only [Rows.systemEventsRow, List.zip_cons_cons, List.zip_nil_right, List.mem_cons, List.mem_nil_iff, or_false] at hy
    rcases hy with rfl | rfl | rfl | rfl | rfl | rfl | rfl | rfl
    · exact ⟨pin_first, by kernel_rfl⟩
    · cases _e
    · cases _e
    · cases _e
    · cases _e
    · cases _e
    · cases _e
    · cases _e) fits1
theorem hGx (W : World) (hX : laidMetH Tryz.prog Rows.systemEventsRow.laid W) (hsh : W.ShapedOpen Tryz.prog) : ∃ ρ0 : Nat → Sc, ∀ (m : Emb) (ρ : Env), (∀ i, i < 900 → ρ.v i = ρ0 i) → ∀ g l, (g, l) ∈ G → g < 500 ∧ ∃ c t fr, W.heap[g]? = some (.cells c t fr) ∧ DV.RL m ρ l c.toList := by
  obtain ⟨n, t', fr, hn⟩ := number_shaped hsh maxLt maxLen rfl maxB maxC Tryz.underlying3
  refine ⟨fun _ => .I n, fun m ρ hρ g l hgl => ?_⟩
  rcases List.mem_cons.1 hgl with e | hgl
  · cases e
    exact ⟨by decide, #[.int .i64 n], t', fr, hn, by simp [DV.RL, DV.R, E.ev, hρ, Sc.int_I]⟩
  · rw [← hGl] at hgl
    exact glOf_ok (laidMetH_laid hX) m ρ (List.mem_filter.1 hgl).1

theorem lifted (os : Os) (started : os.Started) (H : Type) (enc : TypeId × Value → H) :
    ReturnsInHanded {} Tryz.checked os 3 .any (fun w args => (Rows.systemEventsSpec.pre enc Tryz.prog Tryz.f3 [] false w args ∧ laidMetH Tryz.prog Rows.systemEventsRow.laid w) ∧ sizedMet enc Tryz.prog Tryz.f3 (OpenSpec.ofChange Rows.systemEventsSpec) false w args)
      (Rows.systemEventsSpec.post enc Tryz.prog Tryz.f3 false true false false) :=
  lifted_closed (C := Tryz.checked) (s := Rows.systemEventsSpec) (X := fun w => laidMetH Tryz.prog Rows.systemEventsRow.laid w) own laidOut started (fun _ _ hh h => h.of_heap hh) (G := G) (List.cons_ne_nil _ _) hGx (by kernel_rfl) Tryz.func3
    (witness os H enc)
    (by kernel_rfl) rfl Tryz.underlying4 rfl rfl law1

theorem row_holds : Rows.SystemEventsSaid :=
  OpenClaim.holds_of_wide 3 Tryz.f3 rfl rfl rfl rfl rfl rfl rfl ⟨rfl, rfl, rfl, rfl, rfl⟩ rfl rfl rfl rfl rfl named Tryz.func3 closed
    (of_decide_eq_true (by kernel_rfl)) (by unfold Func.isWrapper; first | (rw [if_pos (by decide +kernel)]; kernel_rfl) | (rw [if_neg (by decide +kernel)]; exact ⟨rfl, rfl⟩))
    (fun os started H enc _ => lifted os started H enc)

theorem card_holds : Rows.SystemEventsCardSaid :=
  Claim7.holds_tied_plain_at .later [] [.pinned, .data, .sentinel, .sentinel, .data, .data, .data, .handle] true (true, "2ffd877a46f7b7efeb382e5413afa4a612c4f818d9a5e7ddfe34e27b12fb87f6") true
    row_holds (fun _ h => by cases h) (by kernel_rfl) (fun _ h => by cases h) rowTie rfl ⟨rfl, rfl⟩ (by kernel_rfl) rfl
    (fun f fn hf hfn => by
      obtain rfl : f = 3 := Option.some.inj (named.symm.trans hf) |>.symm
      obtain rfl : fn = Tryz.f3 := (Option.some.inj (Tryz.func3.symm.trans hfn)).symm
      exact ⟨looks, fun j t ht => by
        rw [show Tryz.f3.params = #[] by kernel_rfl] at ht
        simp at ht⟩)
    goes
#print axioms card_holds
end Go.Proofs.YtcebboibpbbgdaaGreatDoor.SystemEventsDone
