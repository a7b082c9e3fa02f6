/- A state in which the listed variables hold what they are listed with. -/
import Derived.Test.YtcebboibpbbgdaaGreatDoorEngG15
import Derived.Test.YtcebboibpbbgdaaGreatDoorRows
import Derived.LaidHandle
namespace Go.Proofs.YtcebboibpbbgdaaGreatDoor.SystemKnownDone
open Go.Eng Go.RowKit Go.ChangeShapes Go.WideShapes Go.ChangeAt
set_option maxRecDepth 100000
/-- Where the texts of the two errors lie. -/
noncomputable def low : Nat := (World.holding Tryz.prog default ⟨#[], #[], []⟩).heap.size
noncomputable def laidWorld (os : Os) : World :=
  let w0 := World.holding Tryz.prog os ⟨#[.cells #[.string ⟨#[118, 97, 108, 117, 101, 32, 111, 117, 116, 32, 111, 102, 32, 114, 97, 110, 103, 101]⟩] 607, .cells #[.string ⟨#[105, 110, 118, 97, 108, 105, 100, 32, 115, 121, 110, 116, 97, 120]⟩] 607], #[], []⟩
  let w1 : World :=
    { w0 with heap := ([(4, Rows.laid_internal_strconv_uint64pow10), (7, Rows.laid_math_bits_deBruijn32tab), (8, Rows.laid_math_bits_deBruijn64tab), (3, Rows.laid_unicode_utf8_acceptRanges), (2, Rows.laid_unicode_utf8_first)] : List (Nat × DataW Unit)).foldl (fun h p => h.modify p.1 fun
        | .cells _ t fr => .cells (dataC 8 p.2).toArray t fr
        | o => o) w0.heap }
  { w1 with heap := ([(6, .iface 605 (.pointer (some ⟨low, 0, none⟩))), (5, .iface 605 (.pointer (some ⟨low + 1, 0, none⟩))), (0, .iface 308 (.agg #[.pointer (some ⟨9, 74, none⟩)]))] : List (Nat × Value)).foldl (fun h p => h.modify p.1 fun
      | .cells _ t fr => .cells #[p.2] t fr
      | o => o) w1.heap }
theorem laid_met (os : Os) (args : Array Value) : laidMetH Tryz.prog Rows.systemKnownRow.laid ((laidWorld os).forCall (fun _ _ => 0) ⟨#[], args, []⟩).memory :=
  laidMetH_of_parts (laidMet_of_run' 8 (by kernel_rfl) (by kernel_rfl)) (by kernel_rfl)

end Go.Proofs.YtcebboibpbbgdaaGreatDoor.SystemKnownDone
