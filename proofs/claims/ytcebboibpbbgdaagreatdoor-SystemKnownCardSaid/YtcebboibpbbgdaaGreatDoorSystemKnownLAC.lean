/- Closed facts of the law SystemKnown and its program. -/
import Derived.Test.YtcebboibpbbgdaaGreatDoorSystemKnownGC
import Derived.Test.YtcebboibpbbgdaaGreatDoorRows
namespace Go.Proofs.YtcebboibpbbgdaaGreatDoor.SystemKnownDone
open Go.Eng Go.RowKit Go.ChangeShapes Go.WideShapes Go.ChangeAt
set_option maxRecDepth 100000
theorem own : ownKnob Tryz.prog.godebug = none := by kernel_rfl
theorem fine0 : ((List.range' 0 80).all (rowFine Tryz.prog)) = true := by kernel_rfl
theorem fine1 : ((List.range' 80 80).all (rowFine Tryz.prog)) = true := by kernel_rfl
theorem fine2 : ((List.range' 160 80).all (rowFine Tryz.prog)) = true := by kernel_rfl
theorem fine3 : ((List.range' 240 80).all (rowFine Tryz.prog)) = true := by kernel_rfl
theorem fine4 : ((List.range' 320 80).all (rowFine Tryz.prog)) = true := by kernel_rfl
theorem fine5 : ((List.range' 400 80).all (rowFine Tryz.prog)) = true := by kernel_rfl
theorem fine6 : ((List.range' 480 80).all (rowFine Tryz.prog)) = true := by kernel_rfl
theorem fine7 : ((List.range' 560 80).all (rowFine Tryz.prog)) = true := by kernel_rfl
theorem fine8 : ((List.range' 640 80).all (rowFine Tryz.prog)) = true := by kernel_rfl
theorem fine9 : ((List.range' 720 11).all (rowFine Tryz.prog)) = true := by kernel_rfl
theorem fineG : Tryz.prog.globals.all (fun g => decide (g.type < Tryz.prog.types.size)) = true := by kernel_rfl
theorem fineF : (Tryz.prog.funcs.all fun f => f.params.all fun t => decide (t < Tryz.prog.types.size)) = true := by kernel_rfl
theorem sizeT : Tryz.prog.types.size = 731 := by kernel_rfl
theorem parts : List.range 731 = List.range' 0 80 ++ List.range' 80 80 ++ List.range' 160 80 ++ List.range' 240 80 ++ List.range' 320 80 ++ List.range' 400 80 ++ List.range' 480 80 ++ List.range' 560 80 ++ List.range' 640 80 ++ List.range' 720 11 := by kernel_rfl
theorem laidOut : laidOutB Tryz.prog = true := by
  have h : (List.range Tryz.prog.types.size).all (rowFine Tryz.prog) = true := by
    rw [sizeT, parts]
    simp only [List.all_append, fine0, fine1, fine2, fine3, fine4, fine5, fine6, fine7, fine8, fine9, Bool.and_self]
  unfold laidOutB
  rw [h, fineG, fineF]
  rfl
theorem hGl : ((glOf Tryz.prog (Rows.systemKnownRow.laid.filter fun x => x.2.handleName?.isNone)).filter fun p => [4, 5, 6, 7, 8].contains p.1) = Gl := by kernel_rfl
theorem maxLen : (((begin Tryz.prog (fun _ _ => 0) default).world).heap[1]?).bind Obj.row? = some (#[.int .i64 0], 3) := by kernel_rfl
theorem maxLt : 1 < Tryz.prog.globals.size := of_decide_eq_true (by kernel_rfl)
theorem maxB : Tryz.prog.buildable 3 = true := by kernel_rfl
theorem maxC : Tryz.prog.cellTypes Tryz.prog.depth 3 = some [3] := by kernel_rfl
theorem et : Tryz.prog.globalNamed "errors.errorType" = some 0 := by kernel_rfl
theorem rt : (Tryz.prog.cutTypes.find? (·.1 == "internal/reflectlite.rtype")).map (·.2) = some 308 := by kernel_rfl
theorem oneRow : ((List.range 731).filter fun t => Tryz.prog.rowNamed t [101, 114, 114, 111, 114]) = [74] := by kernel_rfl
theorem typesN : Tryz.prog.types.size = 731 := by kernel_rfl
theorem theH : (Rows.systemKnownRow.laid.filter fun x => x.2.handleName?.isSome) = [("errors.errorType", Rows.laid_errors_errorType)] := by rfl
end Go.Proofs.YtcebboibpbbgdaaGreatDoor.SystemKnownDone
