/-
  No cell of these rows narrows 'for every input' (looked for: loops, veiled, ifaces, maps, wideKeys, modest, calm, conditions, laid).
  DERIVED. THE GIVEN ROWS OF THIS SEAT. 4 by the template 'for every input the law returns true; each argument reads behind the call as it read before'; 0 by the template 'total and deterministic' (their statements: YtdffbokmgdcjaaaGreatTotals.lean).
  GIVEN WITH THE SEED: the statements are not yours to turn. If you find one false, say at which input.
  Laid BY PROGRAM, IN A SANDBOX (cutbox-rows.mjs): the forced cells as the released guide's own fill.sh prints them over the translation 98a13f4a2230c4df… (all of the seat's roots in one cut). By AI agents, Wed Nov 11 2026. No macro, syntax, notation, axiom, sorry.
-/
import Derived.Test.YtdffbokmgdcjaaaGreatChecked
import GoSem.Claim
import GoSem.ClaimJoined
import GoSem.ClaimMapViews
import Derived.JoinedTies
import Derived.KernelRfl
namespace Go.Proofs.YtdffbokmgdcjaaaGreat
/- THE CELL 'sum', in the pinned program and in every row, IS THE sha256 OF THE DUMP (.gsa) THAT YtdffbokmgdcjaaaGreatProg.lean LOADS. Nothing in Lean hashes anything: it is a label: what it is worth is what the hold of that sum in a sandbox is worth. -/
noncomputable def Tryz.pinned : Pinned := { name := "ytdffbokmgdcjaaagreat", sum := "98a13f4a2230c4dfd85fbfb6fc7a2d9132fe5ea87faa13040355fc00c41dbdb0", checked := Tryz.checked }
namespace Rows
def none {H : Type} : Left H := { results := [], args := [] }

/-- 'almonrylaw24.AmoMakes': WHATEVER THE INPUT: true; the input reads as it did. -/
def amoMakesSpec : ChangeSpec := { name := "amoMakes", fn := fun _ => fun
  | [d1, d2, d3] => { results := [.lit (.bool true)], args := [d1, d2, d3] }
  | _ => none }
def amoMakesRow : OpenClaim := { program := "ytdffbokmgdcjaaagreat", sum := "98a13f4a2230c4dfd85fbfb6fc7a2d9132fe5ea87faa13040355fc00c41dbdb0", func := "almonry/almonrylaw24.AmoMakes", spec := "amoMakes", unfollowed := true, recurses := true, apart := false }
def AmoMakesSaid : Prop := amoMakesRow.holds Tryz.pinned (OpenSpec.ofChange amoMakesSpec)

/-- ITS FALSE NEIGHBOUR: 'it returns false'. Refute it at one input. -/
def amoMakesWrong : ChangeSpec := { name := "amoMakes", fn := fun _ => fun
  | [d1, d2, d3] => { results := [.lit (.bool false)], args := [d1, d2, d3] }
  | _ => none }
def AmoMakesWrongFalsely : Prop := amoMakesRow.holds Tryz.pinned (OpenSpec.ofChange amoMakesWrong)

/-- 'almonrylaw24.AmoApart': WHATEVER THE INPUT: true; the input reads as it did. -/
def amoApartSpec : ChangeSpec := { name := "amoApart", fn := fun _ => fun
  | [d1, d2, d3] => { results := [.lit (.bool true)], args := [d1, d2, d3] }
  | _ => none }
def amoApartRow : OpenClaim := { program := "ytdffbokmgdcjaaagreat", sum := "98a13f4a2230c4dfd85fbfb6fc7a2d9132fe5ea87faa13040355fc00c41dbdb0", func := "almonry/almonrylaw24.AmoApart", spec := "amoApart", unfollowed := true, recurses := true, apart := false }
def AmoApartSaid : Prop := amoApartRow.holds Tryz.pinned (OpenSpec.ofChange amoApartSpec)

/-- ITS FALSE NEIGHBOUR: 'it returns false'. Refute it at one input. -/
def amoApartWrong : ChangeSpec := { name := "amoApart", fn := fun _ => fun
  | [d1, d2, d3] => { results := [.lit (.bool false)], args := [d1, d2, d3] }
  | _ => none }
def AmoApartWrongFalsely : Prop := amoApartRow.holds Tryz.pinned (OpenSpec.ofChange amoApartWrong)

/-- 'almonrylaw24.AmoHolds': WHATEVER THE INPUT: true; the input reads as it did. -/
def amoHoldsSpec : ChangeSpec := { name := "amoHolds", fn := fun _ => fun
  | [d1, d2, d3] => { results := [.lit (.bool true)], args := [d1, d2, d3] }
  | _ => none }
def amoHoldsRow : OpenClaim := { program := "ytdffbokmgdcjaaagreat", sum := "98a13f4a2230c4dfd85fbfb6fc7a2d9132fe5ea87faa13040355fc00c41dbdb0", func := "almonry/almonrylaw24.AmoHolds", spec := "amoHolds", unfollowed := true, recurses := true, apart := false }
def AmoHoldsSaid : Prop := amoHoldsRow.holds Tryz.pinned (OpenSpec.ofChange amoHoldsSpec)

/-- ITS FALSE NEIGHBOUR: 'it returns false'. Refute it at one input. -/
def amoHoldsWrong : ChangeSpec := { name := "amoHolds", fn := fun _ => fun
  | [d1, d2, d3] => { results := [.lit (.bool false)], args := [d1, d2, d3] }
  | _ => none }
def AmoHoldsWrongFalsely : Prop := amoHoldsRow.holds Tryz.pinned (OpenSpec.ofChange amoHoldsWrong)

/-- 'almonrylaw24.AmoKnown': WHATEVER THE INPUT: true; the input reads as it did. -/
def amoKnownSpec : ChangeSpec := { name := "amoKnown", fn := fun _ => fun
  | [] => { results := [.lit (.bool true)], args := [] }
  | _ => none }
def amoKnownRow : OpenClaim := { program := "ytdffbokmgdcjaaagreat", sum := "98a13f4a2230c4dfd85fbfb6fc7a2d9132fe5ea87faa13040355fc00c41dbdb0", func := "almonry/almonrylaw24.AmoKnown", spec := "amoKnown", unfollowed := true, recurses := true, apart := false }
def AmoKnownSaid : Prop := amoKnownRow.holds Tryz.pinned (OpenSpec.ofChange amoKnownSpec)

/-- ITS FALSE NEIGHBOUR: 'it returns false'. Refute it at one input. -/
def amoKnownWrong : ChangeSpec := { name := "amoKnown", fn := fun _ => fun
  | [] => { results := [.lit (.bool false)], args := [] }
  | _ => none }
def AmoKnownWrongFalsely : Prop := amoKnownRow.holds Tryz.pinned (OpenSpec.ofChange amoKnownWrong)

/- THE SECOND FORM. 'bulk': how many values and letters a reading holds, each counted each time it is reached (what is shared counts as often as it is met; a slice's spare places count too). A statement '..UptoSaid' is the law's where the arguments, and the package variables that the reading takes, are together of bulk at most 1048576: NARROWER than '..Said'. Prove '..Said' where nothing that the law and all that it calls make is longer than what came in: it says more and counts as full. Else prove '..UptoSaid'. A law counts once. -/
mutual
def uptoBulk {H : Type} : DataW H → Nat
  | .lit (.string bytes) => bytes.length + 1
  | .lit _ => 1
  | .nil => 1
  | .ptr d => uptoBulk d + 1
  | .slice elems spare => uptoBulkAll elems + uptoBulkAll spare + 1
  | .agg parts => uptoBulkAll parts + 1
  | .iface _ d => uptoBulk d + 1
  | .map entries => uptoBulkEntries entries + 1
  | .held _ => 1
def uptoBulkAll {H : Type} : List (DataW H) → Nat
  | [] => 0
  | d :: r => uptoBulk d + uptoBulkAll r
def uptoBulkEntries {H : Type} : List (Lit × DataW H) → Nat
  | [] => 0
  | x :: r => uptoBulkEntry x + uptoBulkEntries r
def uptoBulkEntry {H : Type} : Lit × DataW H → Nat
  | (.string bytes, d) => bytes.length + uptoBulk d + 1
  | (_, d) => uptoBulk d + 1
 end
def uptoSmall : (H : Type) → List (DataW H) → Bool := fun _ ds => decide (uptoBulkAll ds ≤ 1048576)
def OpenSpec.upto (s : _root_.Go.ChangeSpec) : _root_.Go.OpenSpec := { _root_.Go.OpenSpec.ofChange s with cond := some uptoSmall }

/-- 'almonrylaw24.AmoMakes', WHERE WHAT IT READS IS OF BULK AT MOST 1048576: true; the input reads as it did. -/
def amoMakesUptoRow : OpenClaim := { program := "ytdffbokmgdcjaaagreat", sum := "98a13f4a2230c4dfd85fbfb6fc7a2d9132fe5ea87faa13040355fc00c41dbdb0", func := "almonry/almonrylaw24.AmoMakes", spec := "amoMakes", unfollowed := true, recurses := true, apart := false, narrowed := true }
def AmoMakesUptoSaid : Prop := amoMakesUptoRow.holds Tryz.pinned (OpenSpec.upto amoMakesSpec)

/-- 'almonrylaw24.AmoApart', WHERE WHAT IT READS IS OF BULK AT MOST 1048576: true; the input reads as it did. -/
def amoApartUptoRow : OpenClaim := { program := "ytdffbokmgdcjaaagreat", sum := "98a13f4a2230c4dfd85fbfb6fc7a2d9132fe5ea87faa13040355fc00c41dbdb0", func := "almonry/almonrylaw24.AmoApart", spec := "amoApart", unfollowed := true, recurses := true, apart := false, narrowed := true }
def AmoApartUptoSaid : Prop := amoApartUptoRow.holds Tryz.pinned (OpenSpec.upto amoApartSpec)

/-- 'almonrylaw24.AmoHolds', WHERE WHAT IT READS IS OF BULK AT MOST 1048576: true; the input reads as it did. -/
def amoHoldsUptoRow : OpenClaim := { program := "ytdffbokmgdcjaaagreat", sum := "98a13f4a2230c4dfd85fbfb6fc7a2d9132fe5ea87faa13040355fc00c41dbdb0", func := "almonry/almonrylaw24.AmoHolds", spec := "amoHolds", unfollowed := true, recurses := true, apart := false, narrowed := true }
def AmoHoldsUptoSaid : Prop := amoHoldsUptoRow.holds Tryz.pinned (OpenSpec.upto amoHoldsSpec)

/-- 'almonrylaw24.AmoKnown', WHERE WHAT IT READS IS OF BULK AT MOST 1048576: true; the input reads as it did. -/
def amoKnownUptoRow : OpenClaim := { program := "ytdffbokmgdcjaaagreat", sum := "98a13f4a2230c4dfd85fbfb6fc7a2d9132fe5ea87faa13040355fc00c41dbdb0", func := "almonry/almonrylaw24.AmoKnown", spec := "amoKnown", unfollowed := true, recurses := true, apart := false, narrowed := true }
def AmoKnownUptoSaid : Prop := amoKnownUptoRow.holds Tryz.pinned (OpenSpec.upto amoKnownSpec)

end Rows
end Go.Proofs.YtdffbokmgdcjaaaGreat
