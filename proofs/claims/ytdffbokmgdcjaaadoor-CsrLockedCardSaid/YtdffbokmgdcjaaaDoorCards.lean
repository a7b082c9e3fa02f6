/-
  DERIVED. GIVEN WITH THE SEED: THE CARDS: each row of YtdffbokmgdcjaaaDoorRows.lean that lists a variable, with what it lists TIED to the program's text (the seventh form; the later family's looks); each row that meets fmt, with fmt's text TOLD by the authors' own Lean function (tested against real Go, not proved from fmt's source: count such statements apart). THE CARD IS WHAT COUNTS. Prove the row's statement (the work); the ties are given (YtdffbokmgdcjaaaDoorTie.lean); close each card by the builder's one call (the guide's Derived/Test/ToyasCard.lean, 'card_holds'). Laid BY PROGRAM, IN A SANDBOX (cutbox-door.mjs). By AI agents, Wed Nov 11 2026. No macro, syntax, notation, axiom, sorry.
-/
import Derived.Test.YtdffbokmgdcjaaaDoorRows
import GoSem.ClaimSeven
namespace Go.Proofs.YtdffbokmgdcjaaaDoor
namespace Rows

/-- THE TIED CARD OF 'almonrylaw08.CsrWrites'. -/
def csrWritesCard : Claim7 := { stood := { row := csrWritesRow, standIns := [], harness := (true, "6f6159bc4e4295399c46c7e777cd8a3a1ca9935b0d08bb4fdf293bdaa6a63570"), looks := false }, kinds := [], alts := [], laidByText := true, laidKinds := [.data, .data, .data], laidTests := true, laidLooks := .later }
def CsrWritesCardSaid : Prop := Claim7.holds Tryd.pinned (.plain (OpenSpec.ofChange csrWritesSpec)) csrWritesCard

/-- THE TIED CARD OF 'almonrylaw08.CsrApart'. -/
def csrApartCard : Claim7 := { stood := { row := csrApartRow, standIns := [], harness := (true, "6f6159bc4e4295399c46c7e777cd8a3a1ca9935b0d08bb4fdf293bdaa6a63570"), looks := false }, kinds := [], alts := [], laidByText := true, laidKinds := [.data, .data, .data], laidTests := true, laidLooks := .later }
def CsrApartCardSaid : Prop := Claim7.holds Tryd.pinned (.plain (OpenSpec.ofChange csrApartSpec)) csrApartCard

/-- THE TIED CARD OF 'almonrylaw08.CsrLocked'. -/
def csrLockedCard : Claim7 := { stood := { row := csrLockedRow, standIns := [], harness := (true, "6f6159bc4e4295399c46c7e777cd8a3a1ca9935b0d08bb4fdf293bdaa6a63570"), looks := false }, kinds := [], alts := [], laidByText := true, laidKinds := [.data, .data, .data], laidTests := true, laidLooks := .later }
def CsrLockedCardSaid : Prop := Claim7.holds Tryd.pinned (.plain (OpenSpec.ofChange csrLockedSpec)) csrLockedCard

/-- THE TIED CARD OF 'almonrylaw08.CsrKeeps'. -/
def csrKeepsCard : Claim7 := { stood := { row := csrKeepsRow, standIns := [], harness := (true, "6f6159bc4e4295399c46c7e777cd8a3a1ca9935b0d08bb4fdf293bdaa6a63570"), looks := false }, kinds := [], alts := [], laidByText := true, laidKinds := [.data, .data, .data], laidTests := true, laidLooks := .later }
def CsrKeepsCardSaid : Prop := Claim7.holds Tryd.pinned (.plain (OpenSpec.ofChange csrKeepsSpec)) csrKeepsCard

/-- THE TIED CARD OF 'almonrylaw08.CsrKnown'. -/
def csrKnownCard : Claim7 := { stood := { row := csrKnownRow, standIns := [], harness := (true, "6f6159bc4e4295399c46c7e777cd8a3a1ca9935b0d08bb4fdf293bdaa6a63570"), looks := false }, kinds := [], alts := [], laidByText := true, laidKinds := [.data, .data, .data], laidTests := true, laidLooks := .later }
def CsrKnownCardSaid : Prop := Claim7.holds Tryd.pinned (.plain (OpenSpec.ofChange csrKnownSpec)) csrKnownCard

/-- THE SECOND FORM's CARD OF 'almonrylaw08.CsrWrites'. -/
def csrWritesUptoCard : Claim7 := { stood := { row := csrWritesUptoRow, standIns := [], harness := (true, "6f6159bc4e4295399c46c7e777cd8a3a1ca9935b0d08bb4fdf293bdaa6a63570"), looks := false }, kinds := [], alts := [], laidByText := true, laidKinds := [.data, .data, .data], laidTests := true, laidLooks := .later }
def CsrWritesUptoCardSaid : Prop := Claim7.holds Tryd.pinned (.plain (OpenSpec.upto csrWritesSpec)) csrWritesUptoCard

/-- THE SECOND FORM's CARD OF 'almonrylaw08.CsrApart'. -/
def csrApartUptoCard : Claim7 := { stood := { row := csrApartUptoRow, standIns := [], harness := (true, "6f6159bc4e4295399c46c7e777cd8a3a1ca9935b0d08bb4fdf293bdaa6a63570"), looks := false }, kinds := [], alts := [], laidByText := true, laidKinds := [.data, .data, .data], laidTests := true, laidLooks := .later }
def CsrApartUptoCardSaid : Prop := Claim7.holds Tryd.pinned (.plain (OpenSpec.upto csrApartSpec)) csrApartUptoCard

/-- THE SECOND FORM's CARD OF 'almonrylaw08.CsrLocked'. -/
def csrLockedUptoCard : Claim7 := { stood := { row := csrLockedUptoRow, standIns := [], harness := (true, "6f6159bc4e4295399c46c7e777cd8a3a1ca9935b0d08bb4fdf293bdaa6a63570"), looks := false }, kinds := [], alts := [], laidByText := true, laidKinds := [.data, .data, .data], laidTests := true, laidLooks := .later }
def CsrLockedUptoCardSaid : Prop := Claim7.holds Tryd.pinned (.plain (OpenSpec.upto csrLockedSpec)) csrLockedUptoCard

/-- THE SECOND FORM's CARD OF 'almonrylaw08.CsrKeeps'. -/
def csrKeepsUptoCard : Claim7 := { stood := { row := csrKeepsUptoRow, standIns := [], harness := (true, "6f6159bc4e4295399c46c7e777cd8a3a1ca9935b0d08bb4fdf293bdaa6a63570"), looks := false }, kinds := [], alts := [], laidByText := true, laidKinds := [.data, .data, .data], laidTests := true, laidLooks := .later }
def CsrKeepsUptoCardSaid : Prop := Claim7.holds Tryd.pinned (.plain (OpenSpec.upto csrKeepsSpec)) csrKeepsUptoCard

/-- THE SECOND FORM's CARD OF 'almonrylaw08.CsrKnown'. -/
def csrKnownUptoCard : Claim7 := { stood := { row := csrKnownUptoRow, standIns := [], harness := (true, "6f6159bc4e4295399c46c7e777cd8a3a1ca9935b0d08bb4fdf293bdaa6a63570"), looks := false }, kinds := [], alts := [], laidByText := true, laidKinds := [.data, .data, .data], laidTests := true, laidLooks := .later }
def CsrKnownUptoCardSaid : Prop := Claim7.holds Tryd.pinned (.plain (OpenSpec.upto csrKnownSpec)) csrKnownUptoCard
end Rows
end Go.Proofs.YtdffbokmgdcjaaaDoor
