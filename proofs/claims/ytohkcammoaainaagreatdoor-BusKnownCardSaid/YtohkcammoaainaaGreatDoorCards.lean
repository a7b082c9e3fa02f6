/-
  DERIVED. GIVEN WITH THE SEED: THE CARDS: each row of YtohkcammoaainaaGreatDoorRows.lean that lists a variable, with what it lists TIED to the program's text (the seventh form; the later family's looks); each row that meets fmt, with fmt's text TOLD by the authors' own Lean function (tested against real Go, not proved from fmt's source: count such statements apart). THE CARD IS WHAT COUNTS. Prove the row's statement (the work); the ties are given (YtohkcammoaainaaGreatDoorTie.lean); close each card by the builder's one call (the guide's Derived/Test/ToyasCard.lean, 'card_holds'). Laid BY PROGRAM, IN A SANDBOX (cutbox-door.mjs). By AI agents, Wed Nov 11 2026. No macro, syntax, notation, axiom, sorry.
-/
import Derived.Test.YtohkcammoaainaaGreatDoorRows
import GoSem.ClaimSeven
namespace Go.Proofs.YtohkcammoaainaaGreatDoor
namespace Rows

/-- THE TIED CARD OF 'almonrylaw22.BusApart'. -/
def busApartCard : Claim7 := { stood := { row := busApartRow, standIns := [], harness := (true, "e9f017d30e38b4d97004c239c4521080542256703a2abf5e7786e29172bbd68f"), looks := false }, kinds := [], alts := [], laidByText := true, laidKinds := [.data, .data, .data], laidTests := true, laidLooks := .later }
def BusApartCardSaid : Prop := Claim7.holds Tryz.pinned (.plain (OpenSpec.ofChange busApartSpec)) busApartCard

/-- THE TIED CARD OF 'almonrylaw22.BusKnown'. -/
def busKnownCard : Claim7 := { stood := { row := busKnownRow, standIns := [], harness := (true, "e9f017d30e38b4d97004c239c4521080542256703a2abf5e7786e29172bbd68f"), looks := false }, kinds := [], alts := [], laidByText := true, laidKinds := [.data, .data, .data], laidTests := true, laidLooks := .later }
def BusKnownCardSaid : Prop := Claim7.holds Tryz.pinned (.plain (OpenSpec.ofChange busKnownSpec)) busKnownCard

/-- THE TIED CARD OF 'almonrylaw22.BusWatches'. -/
def busWatchesCard : Claim7 := { stood := { row := busWatchesRow, standIns := [], harness := (true, "e9f017d30e38b4d97004c239c4521080542256703a2abf5e7786e29172bbd68f"), looks := false }, kinds := [], alts := [], laidByText := true, laidKinds := [.data, .data, .data], laidTests := true, laidLooks := .later }
def BusWatchesCardSaid : Prop := Claim7.holds Tryz.pinned (.plain (OpenSpec.ofChange busWatchesSpec)) busWatchesCard

/-- THE SECOND FORM's CARD OF 'almonrylaw22.BusApart'. -/
def busApartUptoCard : Claim7 := { stood := { row := busApartUptoRow, standIns := [], harness := (true, "e9f017d30e38b4d97004c239c4521080542256703a2abf5e7786e29172bbd68f"), looks := false }, kinds := [], alts := [], laidByText := true, laidKinds := [.data, .data, .data], laidTests := true, laidLooks := .later }
def BusApartUptoCardSaid : Prop := Claim7.holds Tryz.pinned (.plain (OpenSpec.upto busApartSpec)) busApartUptoCard

/-- THE SECOND FORM's CARD OF 'almonrylaw22.BusKnown'. -/
def busKnownUptoCard : Claim7 := { stood := { row := busKnownUptoRow, standIns := [], harness := (true, "e9f017d30e38b4d97004c239c4521080542256703a2abf5e7786e29172bbd68f"), looks := false }, kinds := [], alts := [], laidByText := true, laidKinds := [.data, .data, .data], laidTests := true, laidLooks := .later }
def BusKnownUptoCardSaid : Prop := Claim7.holds Tryz.pinned (.plain (OpenSpec.upto busKnownSpec)) busKnownUptoCard

/-- THE SECOND FORM's CARD OF 'almonrylaw22.BusWatches'. -/
def busWatchesUptoCard : Claim7 := { stood := { row := busWatchesUptoRow, standIns := [], harness := (true, "e9f017d30e38b4d97004c239c4521080542256703a2abf5e7786e29172bbd68f"), looks := false }, kinds := [], alts := [], laidByText := true, laidKinds := [.data, .data, .data], laidTests := true, laidLooks := .later }
def BusWatchesUptoCardSaid : Prop := Claim7.holds Tryz.pinned (.plain (OpenSpec.upto busWatchesSpec)) busWatchesUptoCard
end Rows
end Go.Proofs.YtohkcammoaainaaGreatDoor
