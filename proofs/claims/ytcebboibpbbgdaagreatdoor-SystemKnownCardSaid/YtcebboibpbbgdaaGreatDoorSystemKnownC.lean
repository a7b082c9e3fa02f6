/- The law SystemKnown: it takes nothing, and returns true. Of the listed package-level variables the card speaks as its words say. No condition. -/
import Derived.Test.YtcebboibpbbgdaaGreatDoorSystemKnownRunC
import Derived.Test.YtcebboibpbbgdaaGreatDoorSystemKnownLAC
import Derived.Test.YtcebboibpbbgdaaGreatDoorSystemKnownLCC
import Derived.Test.YtcebboibpbbgdaaGreatDoorSystemKnownFCC
import Derived.Test.YtcebboibpbbgdaaGreatDoorSystemKnownFDC
import Derived.Test.YtcebboibpbbgdaaGreatDoorRows
import Derived.Test.YtcebboibpbbgdaaGreatDoorCards
import Derived.Test.YtcebboibpbbgdaaGreatDoorTieAC
import Derived.Test.YtcebboibpbbgdaaGreatDoorTieJC
import Derived.Test.YtcebboibpbbgdaaGreatDoorTieCC
import Derived.Test.YtcebboibpbbgdaaGreatDoorTieDC
import Derived.Test.YtcebboibpbbgdaaGreatDoorTieEC
import Derived.Test.YtcebboibpbbgdaaGreatDoorTieFC
import Derived.Test.YtcebboibpbbgdaaGreatDoorTieGC
import Derived.Test.YtcebboibpbbgdaaGreatDoorTieHC
import Derived.LaidHandle
namespace Go.Proofs.YtcebboibpbbgdaaGreatDoor.SystemKnownDone
open Go.Eng Go.RowKit Go.ChangeShapes Go.WideShapes Go.ChangeAt
set_option maxRecDepth 100000

theorem law1 : LawG Tryz.prog G 4 [] := lawG_run (fun F _ => Γn_ok F) Tryz.func4 (by kernel_rfl) run
theorem laidMetH_laid {P : Program} {l : List (String × DataW Unit)} {w : World} (h : laidMetH P l w) : laidMet P (l.filter fun x => x.2.handleName?.isNone) w := by
  unfold laidMetH at h
  split at h
  · rename_i hfl
    have e : (l.filter fun x => x.2.handleName?.isNone) = l := by
      rw [List.filter_eq_self]
      intro x hx
      have := (List.filter_eq_nil_iff.1 hfl) x hx
      cases hn : x.2.handleName? with
      | none => rfl
      | some s => rw [hn] at this; exact absurd rfl this
    rw [e]; exact h
  · exact h.1
theorem tie : Tryz.prog.laidByTextLater listed [.data, .sentinel, .sentinel, .data, .data, .data, .handle] true := Program.laidByTextLater_by_run_h 400 8 Go.Proofs.YtcebboibpbbgdaaGreatDoor.t1 Go.Proofs.YtcebboibpbbgdaaGreatDoor.t2 Go.Proofs.YtcebboibpbbgdaaGreatDoor.t3 Go.Proofs.YtcebboibpbbgdaaGreatDoor.t4 Go.Proofs.YtcebboibpbbgdaaGreatDoor.t5 Go.Proofs.YtcebboibpbbgdaaGreatDoor.t6 Go.Proofs.YtcebboibpbbgdaaGreatDoor.t7 Go.Proofs.YtcebboibpbbgdaaGreatDoor.t8 Go.Proofs.YtcebboibpbbgdaaGreatDoor.t9 Go.Proofs.YtcebboibpbbgdaaGreatDoor.t10
theorem rowTie : Rows.systemKnownRow.laidByTextAt .later Tryz.pinned [.pinned, .data, .sentinel, .sentinel, .data, .data, .data, .handle] true :=
  OpenClaim.laidByTextAt_pinned rfl rfl tie rfl rfl rfl rfl (fun y hy _e => by
    simp only [Rows.systemKnownRow, List.zip_cons_cons, List.zip_nil_right, List.mem_cons, List.mem_nil_iff, or_false] at hy
    rcases hy with rfl | rfl | rfl | rfl | rfl | rfl | rfl | rfl
    · exact ⟨pin_first, by kernel_rfl⟩
    · cases _e
    · cases _e
    · cases _e
    · cases _e
    · cases _e
    · cases _e
    · cases _e) fits1
theorem laidMetH_handles {P : Program} {l : List (String × DataW Unit)} {w : World} (h : laidMetH P l w) : handlesMet P (l.filter fun x => x.2.handleName?.isSome) w := by
  unfold laidMetH at h
  split at h
  · rename_i hfl
    rw [hfl]
    intro x hx
    cases hx
  · rename_i x xs hfl
    rw [hfl]; exact h.2
theorem handle {W : World} (hX : laidMetH Tryz.prog Rows.systemKnownRow.laid W) : ∃ t fr, W.heap[0]? = some (.cells #[.iface 308 (.agg #[.pointer (some ⟨9, 74, none⟩)])] t fr) := by
  have h' := laidMetH_handles hX
  rw [theH] at h'
  obtain ⟨name, u, ty, e1, e2, e3, e4, e5⟩ := h' _ (List.mem_singleton.2 rfl)
  have en : name = [101, 114, 114, 111, 114] := (Option.some.inj e1).symm
  subst en
  obtain rfl := Option.some.inj (rt.symm.trans e2)
  have hm : ty ∈ (List.range 731).filter fun t => Tryz.prog.rowNamed t [101, 114, 114, 111, 114] := List.mem_filter.2 ⟨List.mem_range.2 (by rw [← typesN]; exact e3), e4⟩
  rw [oneRow] at hm
  obtain rfl := List.mem_singleton.1 hm
  have hh : typeHandle Tryz.prog 74 = .pointer (some ⟨9, 74, none⟩) := by kernel_rfl
  rw [hh] at e5
  simp only [World.var?, et, Option.bind_some] at e5
  split at e5
  · rename_i cs t fr hc
    cases e5
    exact ⟨_, _, hc⟩
  · cases e5
theorem hGx (W : World) (hX : laidMetH Tryz.prog Rows.systemKnownRow.laid W) (hsh : W.ShapedOpen Tryz.prog) : ∃ ρ0 : Nat → Sc, ∀ (m : Emb) (ρ : Env), (∀ i, i < 900 → ρ.v i = ρ0 i) → ∀ g l, (g, l) ∈ G → g < 500 ∧ ∃ c t fr, W.heap[g]? = some (.cells c t fr) ∧ DV.RL m ρ l c.toList := by
  obtain ⟨n, t', fr, hn⟩ := number_shaped hsh maxLt maxLen rfl maxB maxC Tryz.underlying3
  refine ⟨fun _ => .I n, fun m ρ hρ g l hgl => ?_⟩
  rcases List.mem_cons.1 hgl with e | hgl
  · cases e
    exact ⟨by decide, #[.int .i64 n], t', fr, hn, by simp [DV.RL, DV.R, E.ev, hρ, Sc.int_I]⟩
  rcases List.mem_cons.1 hgl with e | hgl
  · cases e
    obtain ⟨t0, fr0, h0⟩ := handle hX
    exact ⟨by decide, #[.iface 308 (.agg #[.pointer (some ⟨9, 74, none⟩)])], t0, fr0, h0, by simp [DV.RL, DV.R]⟩
  · rw [← hGl] at hgl
    exact glOf_ok (laidMetH_laid hX) m ρ (List.mem_filter.1 hgl).1

theorem lifted (os : Os) (started : os.Started) (H : Type) (enc : TypeId × Value → H) :
    ReturnsInHanded {} Tryz.checked os 4 .any (fun w args => (Rows.systemKnownSpec.pre enc Tryz.prog Tryz.f4 [] false w args ∧ laidMetH Tryz.prog Rows.systemKnownRow.laid w) ∧ sizedMet enc Tryz.prog Tryz.f4 (OpenSpec.ofChange Rows.systemKnownSpec) false w args)
      (Rows.systemKnownSpec.post enc Tryz.prog Tryz.f4 false true false false) :=
  lifted_closed (C := Tryz.checked) (s := Rows.systemKnownSpec) (X := fun w => laidMetH Tryz.prog Rows.systemKnownRow.laid w) own laidOut started (fun _ _ hh h => h.of_heap hh) (G := G) (List.cons_ne_nil _ _) hGx (by kernel_rfl) Tryz.func4
    (witness os H enc)
    (by kernel_rfl) rfl Tryz.underlying4 rfl rfl law1

theorem row_holds : Rows.SystemKnownSaid :=
  OpenClaim.holds_of_wide 4 Tryz.f4 rfl rfl rfl rfl rfl rfl rfl ⟨rfl, rfl, rfl, rfl, rfl⟩ rfl rfl rfl rfl rfl named Tryz.func4 closed
    (of_decide_eq_true (by kernel_rfl)) (by unfold Func.isWrapper; first | (rw [if_pos (by decide +kernel)]; kernel_rfl) | (rw [if_neg (by decide +kernel)]; exact ⟨rfl, rfl⟩))
    (fun os started H enc _ => lifted os started H enc)

theorem card_holds : Rows.SystemKnownCardSaid :=
  Claim7.holds_tied_plain_at .later [] [.pinned, .data, .sentinel, .sentinel, .data, .data, .data, .handle] true (true, "2ffd877a46f7b7efeb382e5413afa4a612c4f818d9a5e7ddfe34e27b12fb87f6") true
    row_holds (fun _ h => by cases h) (by kernel_rfl) (fun _ h => by cases h) rowTie rfl ⟨rfl, rfl⟩ (by kernel_rfl) rfl
    (fun f fn hf hfn => by
      obtain rfl : f = 4 := Option.some.inj (named.symm.trans hf) |>.symm
      obtain rfl : fn = Tryz.f4 := (Option.some.inj (Tryz.func4.symm.trans hfn)).symm
      exact ⟨looks, fun j t ht => by
        rw [show Tryz.f4.params = #[] by kernel_rfl] at ht
        simp at ht⟩)
    goes
#print axioms card_holds
end Go.Proofs.YtcebboibpbbgdaaGreatDoor.SystemKnownDone
