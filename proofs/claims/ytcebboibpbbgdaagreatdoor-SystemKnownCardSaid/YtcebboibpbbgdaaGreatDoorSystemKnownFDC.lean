/- Closed facts of the row of SystemKnown. -/
import Derived.Test.YtcebboibpbbgdaaGreatDoorCards
import Derived.Test.YtcebboibpbbgdaaGreatDoorChecked
import Derived.JoinedOf
namespace Go.Proofs.YtcebboibpbbgdaaGreatDoor.SystemKnownDone
open Go
theorem none_goes : Tryz.prog.funcs.any Func.goes = false := by kernel_rfl
/-- Where no text of the program starts a goroutine, none is started. -/
theorem goesBy_none {P : Program} {c : OpenClaim} (hs : c.start = .entering) (h : P.funcs.any Func.goes = false) : c.goesBy P = false := by
  have h1 : ∀ f, P.goes f = false := fun f => by
    unfold Program.goes
    rw [h, Bool.and_false, Bool.or_false, List.any_eq_false]
    intro g _
    cases hg : P.funcs[g]? with
    | none => simp
    | some fn =>
      have hm : fn ∈ P.funcs := Array.mem_of_getElem? hg
      rw [Array.any_eq_false'] at h
      simpa using h fn hm
  unfold OpenClaim.goesBy Program.goesAt Program.goesFrom
  rw [hs]
  cases P.funcNamed c.func with
  | none => rfl
  | some f => simp [h1 f]
theorem goes : false = Rows.systemKnownRow.goesBy Tryz.prog := (goesBy_none rfl none_goes).symm
theorem looks : true = Tryz.prog.looks [] := by kernel_rfl
theorem named : Tryz.prog.funcNamed Rows.systemKnownRow.func = some 4 := by kernel_rfl
end Go.Proofs.YtcebboibpbbgdaaGreatDoor.SystemKnownDone
