/-
  DERIVED. GIVEN WITH THE SEED: THE CARDS: each row of YtlefdfcknddaaaaDoorRows.lean that lists a variable, with what it lists TIED to the program's text (the seventh form; the later family's looks); each row that meets fmt, with fmt's text TOLD by the authors' own Lean function (tested against real Go, not proved from fmt's source: count such statements apart). THE CARD IS WHAT COUNTS. Prove the row's statement (the work); the ties are given (YtlefdfcknddaaaaDoorTie.lean); close each card by the builder's one call (the guide's Derived/Test/ToyasCard.lean, 'card_holds'). Laid BY PROGRAM, IN A SANDBOX (cutbox-door.mjs). By AI agents, Wed Nov 11 2026. No macro, syntax, notation, axiom, sorry.
-/
import Derived.Test.YtlefdfcknddaaaaDoorRows
import GoSem.ClaimSeven
namespace Go.Proofs.YtlefdfcknddaaaaDoor
namespace Rows

/-- THE TIED CARD OF 'almonrylaw18.SamplePlays'. -/
def samplePlaysCard : Claim7 := { stood := { row := samplePlaysRow, standIns := [], harness := (true, "48aa0cddf59691a5c5f39e5b4de159f74fa27b05123f036bb93da225aae80c85"), looks := false }, kinds := [], alts := [], laidByText := true, laidKinds := [.data, .data, .data], laidTests := true, laidLooks := .later }
def SamplePlaysCardSaid : Prop := Claim7.holds Tryd.pinned (.plain (OpenSpec.ofChange samplePlaysSpec)) samplePlaysCard

/-- THE TIED CARD OF 'almonrylaw18.SampleKnown'. -/
def sampleKnownCard : Claim7 := { stood := { row := sampleKnownRow, standIns := [], harness := (true, "48aa0cddf59691a5c5f39e5b4de159f74fa27b05123f036bb93da225aae80c85"), looks := false }, kinds := [], alts := [], laidByText := true, laidKinds := [.data, .data, .data], laidTests := true, laidLooks := .later }
def SampleKnownCardSaid : Prop := Claim7.holds Tryd.pinned (.plain (OpenSpec.ofChange sampleKnownSpec)) sampleKnownCard

/-- THE TIED CARD OF 'almonrylaw29.HealthNothing'. -/
def healthNothingCard : Claim7 := { stood := { row := healthNothingRow, standIns := [], harness := (true, "48aa0cddf59691a5c5f39e5b4de159f74fa27b05123f036bb93da225aae80c85"), looks := false }, kinds := [], alts := [], laidByText := true, laidKinds := [.data, .data, .data], laidTests := true, laidLooks := .later }
def HealthNothingCardSaid : Prop := Claim7.holds Tryd.pinned (.plain (OpenSpec.ofChange healthNothingSpec)) healthNothingCard

/-- THE TIED CARD OF 'almonrylaw29.HealthPlays'. -/
def healthPlaysCard : Claim7 := { stood := { row := healthPlaysRow, standIns := [], harness := (true, "48aa0cddf59691a5c5f39e5b4de159f74fa27b05123f036bb93da225aae80c85"), looks := false }, kinds := [], alts := [], laidByText := true, laidKinds := [.data, .data, .data], laidTests := true, laidLooks := .later }
def HealthPlaysCardSaid : Prop := Claim7.holds Tryd.pinned (.plain (OpenSpec.ofChange healthPlaysSpec)) healthPlaysCard

/-- THE TIED CARD OF 'almonrylaw29.HealthKnown'. -/
def healthKnownCard : Claim7 := { stood := { row := healthKnownRow, standIns := [], harness := (true, "48aa0cddf59691a5c5f39e5b4de159f74fa27b05123f036bb93da225aae80c85"), looks := false }, kinds := [], alts := [], laidByText := true, laidKinds := [.data, .data, .data], laidTests := true, laidLooks := .later }
def HealthKnownCardSaid : Prop := Claim7.holds Tryd.pinned (.plain (OpenSpec.ofChange healthKnownSpec)) healthKnownCard

/-- THE SECOND FORM's CARD OF 'almonrylaw18.SamplePlays'. -/
def samplePlaysUptoCard : Claim7 := { stood := { row := samplePlaysUptoRow, standIns := [], harness := (true, "48aa0cddf59691a5c5f39e5b4de159f74fa27b05123f036bb93da225aae80c85"), looks := false }, kinds := [], alts := [], laidByText := true, laidKinds := [.data, .data, .data], laidTests := true, laidLooks := .later }
def SamplePlaysUptoCardSaid : Prop := Claim7.holds Tryd.pinned (.plain (OpenSpec.upto samplePlaysSpec)) samplePlaysUptoCard

/-- THE SECOND FORM's CARD OF 'almonrylaw18.SampleKnown'. -/
def sampleKnownUptoCard : Claim7 := { stood := { row := sampleKnownUptoRow, standIns := [], harness := (true, "48aa0cddf59691a5c5f39e5b4de159f74fa27b05123f036bb93da225aae80c85"), looks := false }, kinds := [], alts := [], laidByText := true, laidKinds := [.data, .data, .data], laidTests := true, laidLooks := .later }
def SampleKnownUptoCardSaid : Prop := Claim7.holds Tryd.pinned (.plain (OpenSpec.upto sampleKnownSpec)) sampleKnownUptoCard

/-- THE SECOND FORM's CARD OF 'almonrylaw29.HealthNothing'. -/
def healthNothingUptoCard : Claim7 := { stood := { row := healthNothingUptoRow, standIns := [], harness := (true, "48aa0cddf59691a5c5f39e5b4de159f74fa27b05123f036bb93da225aae80c85"), looks := false }, kinds := [], alts := [], laidByText := true, laidKinds := [.data, .data, .data], laidTests := true, laidLooks := .later }
def HealthNothingUptoCardSaid : Prop := Claim7.holds Tryd.pinned (.plain (OpenSpec.upto healthNothingSpec)) healthNothingUptoCard

/-- THE SECOND FORM's CARD OF 'almonrylaw29.HealthPlays'. -/
def healthPlaysUptoCard : Claim7 := { stood := { row := healthPlaysUptoRow, standIns := [], harness := (true, "48aa0cddf59691a5c5f39e5b4de159f74fa27b05123f036bb93da225aae80c85"), looks := false }, kinds := [], alts := [], laidByText := true, laidKinds := [.data, .data, .data], laidTests := true, laidLooks := .later }
def HealthPlaysUptoCardSaid : Prop := Claim7.holds Tryd.pinned (.plain (OpenSpec.upto healthPlaysSpec)) healthPlaysUptoCard

/-- THE SECOND FORM's CARD OF 'almonrylaw29.HealthKnown'. -/
def healthKnownUptoCard : Claim7 := { stood := { row := healthKnownUptoRow, standIns := [], harness := (true, "48aa0cddf59691a5c5f39e5b4de159f74fa27b05123f036bb93da225aae80c85"), looks := false }, kinds := [], alts := [], laidByText := true, laidKinds := [.data, .data, .data], laidTests := true, laidLooks := .later }
def HealthKnownUptoCardSaid : Prop := Claim7.holds Tryd.pinned (.plain (OpenSpec.upto healthKnownSpec)) healthKnownUptoCard
end Rows
end Go.Proofs.YtlefdfcknddaaaaDoor
