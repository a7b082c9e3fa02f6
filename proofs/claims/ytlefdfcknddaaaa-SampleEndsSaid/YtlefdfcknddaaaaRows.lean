/-
  No cell of these rows narrows 'for every input' (looked for: loops, veiled, ifaces, maps, wideKeys, modest, calm, conditions, laid).
  DERIVED. THE GIVEN ROWS OF THIS SEAT. 5 by the template 'for every input the law returns true; each argument reads behind the call as it read before'; 0 by the template 'total and deterministic' (their statements: YtlefdfcknddaaaaTotals.lean).
  GIVEN WITH THE SEED: the statements are not yours to turn. If you find one false, say at which input.
  Laid BY PROGRAM, IN A SANDBOX (cutbox-rows.mjs): the forced cells as the released guide's own fill.sh prints them over the translation 64332a0b772ed9b7… (all of the seat's roots in one cut). By AI agents, Wed Nov 11 2026. No macro, syntax, notation, axiom, sorry.
-/
import Derived.Test.YtlefdfcknddaaaaChecked
import GoSem.Claim
import GoSem.ClaimJoined
import GoSem.ClaimMapViews
import Derived.JoinedTies
import Derived.KernelRfl
namespace Go.Proofs.Ytlefdfcknddaaaa
/- THE CELL 'sum', in the pinned program and in every row, IS THE sha256 OF THE DUMP (.gsa) THAT YtlefdfcknddaaaaProg.lean LOADS. Nothing in Lean hashes anything: it is a label: what it is worth is what the hold of that sum in a sandbox is worth. -/
noncomputable def Try.pinned : Pinned := { name := "ytlefdfcknddaaaa", sum := "64332a0b772ed9b7dbc6e7cbff52faaa1fbe66152f4a734a081046ddc19174e9", checked := Try.checked }
namespace Rows
def none {H : Type} : Left H := { results := [], args := [] }

/-- 'almonrylaw18.SampleLatest': WHATEVER THE INPUT: true; the input reads as it did. -/
def sampleLatestSpec : ChangeSpec := { name := "sampleLatest", fn := fun _ => fun
  | [d1, d2, d3] => { results := [.lit (.bool true)], args := [d1, d2, d3] }
  | _ => none }
def sampleLatestRow : OpenClaim := { program := "ytlefdfcknddaaaa", sum := "64332a0b772ed9b7dbc6e7cbff52faaa1fbe66152f4a734a081046ddc19174e9", func := "almonry/almonrylaw18.SampleLatest", spec := "sampleLatest", apart := false }
def SampleLatestSaid : Prop := sampleLatestRow.holds Try.pinned (OpenSpec.ofChange sampleLatestSpec)

/-- ITS FALSE NEIGHBOUR: 'it returns false'. Refute it at one input. -/
def sampleLatestWrong : ChangeSpec := { name := "sampleLatest", fn := fun _ => fun
  | [d1, d2, d3] => { results := [.lit (.bool false)], args := [d1, d2, d3] }
  | _ => none }
def SampleLatestWrongFalsely : Prop := sampleLatestRow.holds Try.pinned (OpenSpec.ofChange sampleLatestWrong)

/-- 'almonrylaw18.SampleEnds': WHATEVER THE INPUT: true; the input reads as it did. -/
def sampleEndsSpec : ChangeSpec := { name := "sampleEnds", fn := fun _ => fun
  | [d1, d2] => { results := [.lit (.bool true)], args := [d1, d2] }
  | _ => none }
def sampleEndsRow : OpenClaim := { program := "ytlefdfcknddaaaa", sum := "64332a0b772ed9b7dbc6e7cbff52faaa1fbe66152f4a734a081046ddc19174e9", func := "almonry/almonrylaw18.SampleEnds", spec := "sampleEnds", apart := false }
def SampleEndsSaid : Prop := sampleEndsRow.holds Try.pinned (OpenSpec.ofChange sampleEndsSpec)

/-- ITS FALSE NEIGHBOUR: 'it returns false'. Refute it at one input. -/
def sampleEndsWrong : ChangeSpec := { name := "sampleEnds", fn := fun _ => fun
  | [d1, d2] => { results := [.lit (.bool false)], args := [d1, d2] }
  | _ => none }
def SampleEndsWrongFalsely : Prop := sampleEndsRow.holds Try.pinned (OpenSpec.ofChange sampleEndsWrong)

/-- 'almonrylaw18.SampleAges': WHATEVER THE INPUT: true; the input reads as it did. -/
def sampleAgesSpec : ChangeSpec := { name := "sampleAges", fn := fun _ => fun
  | [d1, d2, d3] => { results := [.lit (.bool true)], args := [d1, d2, d3] }
  | _ => none }
def sampleAgesRow : OpenClaim := { program := "ytlefdfcknddaaaa", sum := "64332a0b772ed9b7dbc6e7cbff52faaa1fbe66152f4a734a081046ddc19174e9", func := "almonry/almonrylaw18.SampleAges", spec := "sampleAges", apart := false }
def SampleAgesSaid : Prop := sampleAgesRow.holds Try.pinned (OpenSpec.ofChange sampleAgesSpec)

/-- ITS FALSE NEIGHBOUR: 'it returns false'. Refute it at one input. -/
def sampleAgesWrong : ChangeSpec := { name := "sampleAges", fn := fun _ => fun
  | [d1, d2, d3] => { results := [.lit (.bool false)], args := [d1, d2, d3] }
  | _ => none }
def SampleAgesWrongFalsely : Prop := sampleAgesRow.holds Try.pinned (OpenSpec.ofChange sampleAgesWrong)

/-- 'almonrylaw18.SampleSame': WHATEVER THE INPUT: true; the input reads as it did. -/
def sampleSameSpec : ChangeSpec := { name := "sampleSame", fn := fun _ => fun
  | [d1, d2, d3] => { results := [.lit (.bool true)], args := [d1, d2, d3] }
  | _ => none }
def sampleSameRow : OpenClaim := { program := "ytlefdfcknddaaaa", sum := "64332a0b772ed9b7dbc6e7cbff52faaa1fbe66152f4a734a081046ddc19174e9", func := "almonry/almonrylaw18.SampleSame", spec := "sampleSame", apart := false }
def SampleSameSaid : Prop := sampleSameRow.holds Try.pinned (OpenSpec.ofChange sampleSameSpec)

/-- ITS FALSE NEIGHBOUR: 'it returns false'. Refute it at one input. -/
def sampleSameWrong : ChangeSpec := { name := "sampleSame", fn := fun _ => fun
  | [d1, d2, d3] => { results := [.lit (.bool false)], args := [d1, d2, d3] }
  | _ => none }
def SampleSameWrongFalsely : Prop := sampleSameRow.holds Try.pinned (OpenSpec.ofChange sampleSameWrong)

/-- 'almonrylaw29.HealthCounts': WHATEVER THE INPUT: true; the input reads as it did. -/
def healthCountsSpec : ChangeSpec := { name := "healthCounts", fn := fun _ => fun
  | [d1, d2] => { results := [.lit (.bool true)], args := [d1, d2] }
  | _ => none }
def healthCountsRow : OpenClaim := { program := "ytlefdfcknddaaaa", sum := "64332a0b772ed9b7dbc6e7cbff52faaa1fbe66152f4a734a081046ddc19174e9", func := "almonry/almonrylaw29.HealthCounts", spec := "healthCounts", apart := false }
def HealthCountsSaid : Prop := healthCountsRow.holds Try.pinned (OpenSpec.ofChange healthCountsSpec)

/-- ITS FALSE NEIGHBOUR: 'it returns false'. Refute it at one input. -/
def healthCountsWrong : ChangeSpec := { name := "healthCounts", fn := fun _ => fun
  | [d1, d2] => { results := [.lit (.bool false)], args := [d1, d2] }
  | _ => none }
def HealthCountsWrongFalsely : Prop := healthCountsRow.holds Try.pinned (OpenSpec.ofChange healthCountsWrong)

/- THE SECOND FORM. 'bulk': how many values and letters a reading holds, each counted each time it is reached (what is shared counts as often as it is met; a slice's spare places count too). A statement '..UptoSaid' is the law's where the arguments, and the package variables that the reading takes, are together of bulk at most 1048576: NARROWER than '..Said'. Prove '..Said' where nothing that the law and all that it calls make is longer than what came in: it says more and counts as full. Else prove '..UptoSaid'. A law counts once. -/
mutual
def uptoBulk {H : Type} : DataW H → Nat
  | .lit (.string bytes) => bytes.length + 1
  | .lit _ => 1
  | .nil => 1
  | .ptr d => uptoBulk d + 1
  | .slice elems spare => uptoBulkAll elems + uptoBulkAll spare + 1
  | .agg parts => uptoBulkAll parts + 1
  | .iface _ d => uptoBulk d + 1
  | .map entries => uptoBulkEntries entries + 1
  | .held _ => 1
def uptoBulkAll {H : Type} : List (DataW H) → Nat
  | [] => 0
  | d :: r => uptoBulk d + uptoBulkAll r
def uptoBulkEntries {H : Type} : List (Lit × DataW H) → Nat
  | [] => 0
  | x :: r => uptoBulkEntry x + uptoBulkEntries r
def uptoBulkEntry {H : Type} : Lit × DataW H → Nat
  | (.string bytes, d) => bytes.length + uptoBulk d + 1
  | (_, d) => uptoBulk d + 1
 end
def uptoSmall : (H : Type) → List (DataW H) → Bool := fun _ ds => decide (uptoBulkAll ds ≤ 1048576)
def OpenSpec.upto (s : _root_.Go.ChangeSpec) : _root_.Go.OpenSpec := { _root_.Go.OpenSpec.ofChange s with cond := some uptoSmall }

/-- 'almonrylaw18.SampleLatest', WHERE WHAT IT READS IS OF BULK AT MOST 1048576: true; the input reads as it did. -/
def sampleLatestUptoRow : OpenClaim := { program := "ytlefdfcknddaaaa", sum := "64332a0b772ed9b7dbc6e7cbff52faaa1fbe66152f4a734a081046ddc19174e9", func := "almonry/almonrylaw18.SampleLatest", spec := "sampleLatest", apart := false, narrowed := true }
def SampleLatestUptoSaid : Prop := sampleLatestUptoRow.holds Try.pinned (OpenSpec.upto sampleLatestSpec)

/-- 'almonrylaw18.SampleEnds', WHERE WHAT IT READS IS OF BULK AT MOST 1048576: true; the input reads as it did. -/
def sampleEndsUptoRow : OpenClaim := { program := "ytlefdfcknddaaaa", sum := "64332a0b772ed9b7dbc6e7cbff52faaa1fbe66152f4a734a081046ddc19174e9", func := "almonry/almonrylaw18.SampleEnds", spec := "sampleEnds", apart := false, narrowed := true }
def SampleEndsUptoSaid : Prop := sampleEndsUptoRow.holds Try.pinned (OpenSpec.upto sampleEndsSpec)

/-- 'almonrylaw18.SampleAges', WHERE WHAT IT READS IS OF BULK AT MOST 1048576: true; the input reads as it did. -/
def sampleAgesUptoRow : OpenClaim := { program := "ytlefdfcknddaaaa", sum := "64332a0b772ed9b7dbc6e7cbff52faaa1fbe66152f4a734a081046ddc19174e9", func := "almonry/almonrylaw18.SampleAges", spec := "sampleAges", apart := false, narrowed := true }
def SampleAgesUptoSaid : Prop := sampleAgesUptoRow.holds Try.pinned (OpenSpec.upto sampleAgesSpec)

/-- 'almonrylaw18.SampleSame', WHERE WHAT IT READS IS OF BULK AT MOST 1048576: true; the input reads as it did. -/
def sampleSameUptoRow : OpenClaim := { program := "ytlefdfcknddaaaa", sum := "64332a0b772ed9b7dbc6e7cbff52faaa1fbe66152f4a734a081046ddc19174e9", func := "almonry/almonrylaw18.SampleSame", spec := "sampleSame", apart := false, narrowed := true }
def SampleSameUptoSaid : Prop := sampleSameUptoRow.holds Try.pinned (OpenSpec.upto sampleSameSpec)

/-- 'almonrylaw29.HealthCounts', WHERE WHAT IT READS IS OF BULK AT MOST 1048576: true; the input reads as it did. -/
def healthCountsUptoRow : OpenClaim := { program := "ytlefdfcknddaaaa", sum := "64332a0b772ed9b7dbc6e7cbff52faaa1fbe66152f4a734a081046ddc19174e9", func := "almonry/almonrylaw29.HealthCounts", spec := "healthCounts", apart := false, narrowed := true }
def HealthCountsUptoSaid : Prop := healthCountsUptoRow.holds Try.pinned (OpenSpec.upto healthCountsSpec)

end Rows
end Go.Proofs.Ytlefdfcknddaaaa
