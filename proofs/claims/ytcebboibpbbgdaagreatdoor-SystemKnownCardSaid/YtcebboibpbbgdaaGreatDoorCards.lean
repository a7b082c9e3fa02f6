/-
  DERIVED. GIVEN WITH THE SEED: THE CARDS: each row of YtcebboibpbbgdaaGreatDoorRows.lean that lists a variable, with what it lists TIED to the program's text (the seventh form; the later family's looks); each row that meets fmt, with fmt's text TOLD by the authors' own Lean function (tested against real Go, not proved from fmt's source: count such statements apart). THE CARD IS WHAT COUNTS. Prove the row's statement (the work); the ties are given (YtcebboibpbbgdaaGreatDoorTie.lean); close each card by the builder's one call (the guide's Derived/Test/ToyasCard.lean, 'card_holds'). Laid BY PROGRAM, IN A SANDBOX (cutbox-door.mjs). By AI agents, Wed Nov 11 2026. No macro, syntax, notation, axiom, sorry.
-/
import Derived.Test.YtcebboibpbbgdaaGreatDoorRows
import GoSem.ClaimSeven
namespace Go.Proofs.YtcebboibpbbgdaaGreatDoor
namespace Rows

/-- THE TIED CARD OF 'almonrylaw31.SystemEvents'. -/
def systemEventsCard : Claim7 := { stood := { row := systemEventsRow, standIns := [], harness := (true, "2ffd877a46f7b7efeb382e5413afa4a612c4f818d9a5e7ddfe34e27b12fb87f6"), looks := true }, kinds := [], alts := [], laidByText := true, laidKinds := [.pinned, .data, .sentinel, .sentinel, .data, .data, .data, .handle], laidTests := true, laidLooks := .later }
def SystemEventsCardSaid : Prop := Claim7.holds Tryz.pinned (.plain (OpenSpec.ofChange systemEventsSpec)) systemEventsCard

/-- THE TIED CARD OF 'almonrylaw31.SystemKnown'. -/
def systemKnownCard : Claim7 := { stood := { row := systemKnownRow, standIns := [], harness := (true, "2ffd877a46f7b7efeb382e5413afa4a612c4f818d9a5e7ddfe34e27b12fb87f6"), looks := true }, kinds := [], alts := [], laidByText := true, laidKinds := [.pinned, .data, .sentinel, .sentinel, .data, .data, .data, .handle], laidTests := true, laidLooks := .later }
def SystemKnownCardSaid : Prop := Claim7.holds Tryz.pinned (.plain (OpenSpec.ofChange systemKnownSpec)) systemKnownCard

/-- THE SECOND FORM's CARD OF 'almonrylaw31.SystemEvents'. -/
def systemEventsUptoCard : Claim7 := { stood := { row := systemEventsUptoRow, standIns := [], harness := (true, "2ffd877a46f7b7efeb382e5413afa4a612c4f818d9a5e7ddfe34e27b12fb87f6"), looks := true }, kinds := [], alts := [], laidByText := true, laidKinds := [.pinned, .data, .sentinel, .sentinel, .data, .data, .data, .handle], laidTests := true, laidLooks := .later }
def SystemEventsUptoCardSaid : Prop := Claim7.holds Tryz.pinned (.plain (OpenSpec.upto systemEventsSpec)) systemEventsUptoCard

/-- THE SECOND FORM's CARD OF 'almonrylaw31.SystemKnown'. -/
def systemKnownUptoCard : Claim7 := { stood := { row := systemKnownUptoRow, standIns := [], harness := (true, "2ffd877a46f7b7efeb382e5413afa4a612c4f818d9a5e7ddfe34e27b12fb87f6"), looks := true }, kinds := [], alts := [], laidByText := true, laidKinds := [.pinned, .data, .sentinel, .sentinel, .data, .data, .data, .handle], laidTests := true, laidLooks := .later }
def SystemKnownUptoCardSaid : Prop := Claim7.holds Tryz.pinned (.plain (OpenSpec.upto systemKnownSpec)) systemKnownUptoCard
end Rows
end Go.Proofs.YtcebboibpbbgdaaGreatDoor
