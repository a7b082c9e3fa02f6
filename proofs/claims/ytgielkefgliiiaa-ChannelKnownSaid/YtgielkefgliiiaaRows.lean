/-
  No cell of these rows narrows 'for every input' (looked for: loops, veiled, ifaces, maps, wideKeys, modest, calm, conditions, laid).
  DERIVED. THE GIVEN ROWS OF THIS SEAT. 10 by the template 'for every input the law returns true; each argument reads behind the call as it read before'; 0 by the template 'total and deterministic' (their statements: YtgielkefgliiiaaTotals.lean).
  GIVEN WITH THE SEED: the statements are not yours to turn. If you find one false, say at which input.
  Laid BY PROGRAM, IN A SANDBOX (cutbox-rows.mjs): the forced cells as the released guide's own fill.sh prints them over the translation aca48466399f390f… (all of the seat's roots in one cut). By AI agents, Wed Nov 11 2026. No macro, syntax, notation, axiom, sorry.
-/
import Derived.Test.YtgielkefgliiiaaChecked
import GoSem.Claim
import GoSem.ClaimJoined
import GoSem.ClaimMapViews
import Derived.JoinedTies
import Derived.KernelRfl
namespace Go.Proofs.Ytgielkefgliiiaa
/- THE CELL 'sum', in the pinned program and in every row, IS THE sha256 OF THE DUMP (.gsa) THAT YtgielkefgliiiaaProg.lean LOADS. Nothing in Lean hashes anything: it is a label: what it is worth is what the hold of that sum in a sandbox is worth. -/
noncomputable def Try.pinned : Pinned := { name := "ytgielkefgliiiaa", sum := "aca48466399f390fad7b5c96a454a5d839a352f355050eb3d0b02f8dbfe131cb", checked := Try.checked }
namespace Rows
def none {H : Type} : Left H := { results := [], args := [] }

/-- 'almonrylaw20.ChannelReaches': WHATEVER THE INPUT: true; the input reads as it did. -/
def channelReachesSpec : ChangeSpec := { name := "channelReaches", fn := fun _ => fun
  | [d1, d2, d3] => { results := [.lit (.bool true)], args := [d1, d2, d3] }
  | _ => none }
def channelReachesRow : OpenClaim := { program := "ytgielkefgliiiaa", sum := "aca48466399f390fad7b5c96a454a5d839a352f355050eb3d0b02f8dbfe131cb", func := "almonry/almonrylaw20.ChannelReaches", spec := "channelReaches", unfollowed := true, recurses := true, plainKeys := false, apart := false }
def ChannelReachesSaid : Prop := channelReachesRow.holds Try.pinned (OpenSpec.ofChange channelReachesSpec)

/-- ITS FALSE NEIGHBOUR: 'it returns false'. Refute it at one input. -/
def channelReachesWrong : ChangeSpec := { name := "channelReaches", fn := fun _ => fun
  | [d1, d2, d3] => { results := [.lit (.bool false)], args := [d1, d2, d3] }
  | _ => none }
def ChannelReachesWrongFalsely : Prop := channelReachesRow.holds Try.pinned (OpenSpec.ofChange channelReachesWrong)

/-- 'almonrylaw20.ChannelGoes': WHATEVER THE INPUT: true; the input reads as it did. -/
def channelGoesSpec : ChangeSpec := { name := "channelGoes", fn := fun _ => fun
  | [d1, d2, d3] => { results := [.lit (.bool true)], args := [d1, d2, d3] }
  | _ => none }
def channelGoesRow : OpenClaim := { program := "ytgielkefgliiiaa", sum := "aca48466399f390fad7b5c96a454a5d839a352f355050eb3d0b02f8dbfe131cb", func := "almonry/almonrylaw20.ChannelGoes", spec := "channelGoes", unfollowed := true, recurses := true, plainKeys := false, apart := false }
def ChannelGoesSaid : Prop := channelGoesRow.holds Try.pinned (OpenSpec.ofChange channelGoesSpec)

/-- ITS FALSE NEIGHBOUR: 'it returns false'. Refute it at one input. -/
def channelGoesWrong : ChangeSpec := { name := "channelGoes", fn := fun _ => fun
  | [d1, d2, d3] => { results := [.lit (.bool false)], args := [d1, d2, d3] }
  | _ => none }
def ChannelGoesWrongFalsely : Prop := channelGoesRow.holds Try.pinned (OpenSpec.ofChange channelGoesWrong)

/-- 'almonrylaw20.ChannelApart': WHATEVER THE INPUT: true; the input reads as it did. -/
def channelApartSpec : ChangeSpec := { name := "channelApart", fn := fun _ => fun
  | [d1, d2, d3] => { results := [.lit (.bool true)], args := [d1, d2, d3] }
  | _ => none }
def channelApartRow : OpenClaim := { program := "ytgielkefgliiiaa", sum := "aca48466399f390fad7b5c96a454a5d839a352f355050eb3d0b02f8dbfe131cb", func := "almonry/almonrylaw20.ChannelApart", spec := "channelApart", unfollowed := true, recurses := true, plainKeys := false, apart := false }
def ChannelApartSaid : Prop := channelApartRow.holds Try.pinned (OpenSpec.ofChange channelApartSpec)

/-- ITS FALSE NEIGHBOUR: 'it returns false'. Refute it at one input. -/
def channelApartWrong : ChangeSpec := { name := "channelApart", fn := fun _ => fun
  | [d1, d2, d3] => { results := [.lit (.bool false)], args := [d1, d2, d3] }
  | _ => none }
def ChannelApartWrongFalsely : Prop := channelApartRow.holds Try.pinned (OpenSpec.ofChange channelApartWrong)

/-- 'almonrylaw20.ChannelPlays': WHATEVER THE INPUT: true; the input reads as it did. -/
def channelPlaysSpec : ChangeSpec := { name := "channelPlays", fn := fun _ => fun
  | [d1, d2, d3] => { results := [.lit (.bool true)], args := [d1, d2, d3] }
  | _ => none }
def channelPlaysRow : OpenClaim := { program := "ytgielkefgliiiaa", sum := "aca48466399f390fad7b5c96a454a5d839a352f355050eb3d0b02f8dbfe131cb", func := "almonry/almonrylaw20.ChannelPlays", spec := "channelPlays", unfollowed := true, recurses := true, plainKeys := false, apart := false }
def ChannelPlaysSaid : Prop := channelPlaysRow.holds Try.pinned (OpenSpec.ofChange channelPlaysSpec)

/-- ITS FALSE NEIGHBOUR: 'it returns false'. Refute it at one input. -/
def channelPlaysWrong : ChangeSpec := { name := "channelPlays", fn := fun _ => fun
  | [d1, d2, d3] => { results := [.lit (.bool false)], args := [d1, d2, d3] }
  | _ => none }
def ChannelPlaysWrongFalsely : Prop := channelPlaysRow.holds Try.pinned (OpenSpec.ofChange channelPlaysWrong)

/-- 'almonrylaw20.ChannelKnown': WHATEVER THE INPUT: true; the input reads as it did. -/
def channelKnownSpec : ChangeSpec := { name := "channelKnown", fn := fun _ => fun
  | [] => { results := [.lit (.bool true)], args := [] }
  | _ => none }
def channelKnownRow : OpenClaim := { program := "ytgielkefgliiiaa", sum := "aca48466399f390fad7b5c96a454a5d839a352f355050eb3d0b02f8dbfe131cb", func := "almonry/almonrylaw20.ChannelKnown", spec := "channelKnown", unfollowed := true, recurses := true, plainKeys := false, apart := false }
def ChannelKnownSaid : Prop := channelKnownRow.holds Try.pinned (OpenSpec.ofChange channelKnownSpec)

/-- ITS FALSE NEIGHBOUR: 'it returns false'. Refute it at one input. -/
def channelKnownWrong : ChangeSpec := { name := "channelKnown", fn := fun _ => fun
  | [] => { results := [.lit (.bool false)], args := [] }
  | _ => none }
def ChannelKnownWrongFalsely : Prop := channelKnownRow.holds Try.pinned (OpenSpec.ofChange channelKnownWrong)

/-- 'almonrylaw21.PortioPasses': WHATEVER THE INPUT: true; the input reads as it did. -/
def portioPassesSpec : ChangeSpec := { name := "portioPasses", fn := fun _ => fun
  | [d1, d2, d3] => { results := [.lit (.bool true)], args := [d1, d2, d3] }
  | _ => none }
def portioPassesRow : OpenClaim := { program := "ytgielkefgliiiaa", sum := "aca48466399f390fad7b5c96a454a5d839a352f355050eb3d0b02f8dbfe131cb", func := "almonry/almonrylaw21.PortioPasses", spec := "portioPasses", unfollowed := true, recurses := true, plainKeys := false, apart := false }
def PortioPassesSaid : Prop := portioPassesRow.holds Try.pinned (OpenSpec.ofChange portioPassesSpec)

/-- ITS FALSE NEIGHBOUR: 'it returns false'. Refute it at one input. -/
def portioPassesWrong : ChangeSpec := { name := "portioPasses", fn := fun _ => fun
  | [d1, d2, d3] => { results := [.lit (.bool false)], args := [d1, d2, d3] }
  | _ => none }
def PortioPassesWrongFalsely : Prop := portioPassesRow.holds Try.pinned (OpenSpec.ofChange portioPassesWrong)

/-- 'almonrylaw21.PortioSends': WHATEVER THE INPUT: true; the input reads as it did. -/
def portioSendsSpec : ChangeSpec := { name := "portioSends", fn := fun _ => fun
  | [d1, d2] => { results := [.lit (.bool true)], args := [d1, d2] }
  | _ => none }
def portioSendsRow : OpenClaim := { program := "ytgielkefgliiiaa", sum := "aca48466399f390fad7b5c96a454a5d839a352f355050eb3d0b02f8dbfe131cb", func := "almonry/almonrylaw21.PortioSends", spec := "portioSends", unfollowed := true, recurses := true, plainKeys := false, apart := false }
def PortioSendsSaid : Prop := portioSendsRow.holds Try.pinned (OpenSpec.ofChange portioSendsSpec)

/-- ITS FALSE NEIGHBOUR: 'it returns false'. Refute it at one input. -/
def portioSendsWrong : ChangeSpec := { name := "portioSends", fn := fun _ => fun
  | [d1, d2] => { results := [.lit (.bool false)], args := [d1, d2] }
  | _ => none }
def PortioSendsWrongFalsely : Prop := portioSendsRow.holds Try.pinned (OpenSpec.ofChange portioSendsWrong)

/-- 'almonrylaw21.PortioApart': WHATEVER THE INPUT: true; the input reads as it did. -/
def portioApartSpec : ChangeSpec := { name := "portioApart", fn := fun _ => fun
  | [d1, d2] => { results := [.lit (.bool true)], args := [d1, d2] }
  | _ => none }
def portioApartRow : OpenClaim := { program := "ytgielkefgliiiaa", sum := "aca48466399f390fad7b5c96a454a5d839a352f355050eb3d0b02f8dbfe131cb", func := "almonry/almonrylaw21.PortioApart", spec := "portioApart", unfollowed := true, recurses := true, plainKeys := false, apart := false }
def PortioApartSaid : Prop := portioApartRow.holds Try.pinned (OpenSpec.ofChange portioApartSpec)

/-- ITS FALSE NEIGHBOUR: 'it returns false'. Refute it at one input. -/
def portioApartWrong : ChangeSpec := { name := "portioApart", fn := fun _ => fun
  | [d1, d2] => { results := [.lit (.bool false)], args := [d1, d2] }
  | _ => none }
def PortioApartWrongFalsely : Prop := portioApartRow.holds Try.pinned (OpenSpec.ofChange portioApartWrong)

/-- 'almonrylaw21.PortioPlays': WHATEVER THE INPUT: true; the input reads as it did. -/
def portioPlaysSpec : ChangeSpec := { name := "portioPlays", fn := fun _ => fun
  | [d1, d2] => { results := [.lit (.bool true)], args := [d1, d2] }
  | _ => none }
def portioPlaysRow : OpenClaim := { program := "ytgielkefgliiiaa", sum := "aca48466399f390fad7b5c96a454a5d839a352f355050eb3d0b02f8dbfe131cb", func := "almonry/almonrylaw21.PortioPlays", spec := "portioPlays", unfollowed := true, recurses := true, plainKeys := false, apart := false }
def PortioPlaysSaid : Prop := portioPlaysRow.holds Try.pinned (OpenSpec.ofChange portioPlaysSpec)

/-- ITS FALSE NEIGHBOUR: 'it returns false'. Refute it at one input. -/
def portioPlaysWrong : ChangeSpec := { name := "portioPlays", fn := fun _ => fun
  | [d1, d2] => { results := [.lit (.bool false)], args := [d1, d2] }
  | _ => none }
def PortioPlaysWrongFalsely : Prop := portioPlaysRow.holds Try.pinned (OpenSpec.ofChange portioPlaysWrong)

/-- 'almonrylaw21.PortioKnown': WHATEVER THE INPUT: true; the input reads as it did. -/
def portioKnownSpec : ChangeSpec := { name := "portioKnown", fn := fun _ => fun
  | [] => { results := [.lit (.bool true)], args := [] }
  | _ => none }
def portioKnownRow : OpenClaim := { program := "ytgielkefgliiiaa", sum := "aca48466399f390fad7b5c96a454a5d839a352f355050eb3d0b02f8dbfe131cb", func := "almonry/almonrylaw21.PortioKnown", spec := "portioKnown", unfollowed := true, recurses := true, plainKeys := false, apart := false }
def PortioKnownSaid : Prop := portioKnownRow.holds Try.pinned (OpenSpec.ofChange portioKnownSpec)

/-- ITS FALSE NEIGHBOUR: 'it returns false'. Refute it at one input. -/
def portioKnownWrong : ChangeSpec := { name := "portioKnown", fn := fun _ => fun
  | [] => { results := [.lit (.bool false)], args := [] }
  | _ => none }
def PortioKnownWrongFalsely : Prop := portioKnownRow.holds Try.pinned (OpenSpec.ofChange portioKnownWrong)

/- THE SECOND FORM. 'bulk': how many values and letters a reading holds, each counted each time it is reached (what is shared counts as often as it is met; a slice's spare places count too). A statement '..UptoSaid' is the law's where the arguments, and the package variables that the reading takes, are together of bulk at most 1048576: NARROWER than '..Said'. Prove '..Said' where nothing that the law and all that it calls make is longer than what came in: it says more and counts as full. Else prove '..UptoSaid'. A law counts once. -/
mutual
def uptoBulk {H : Type} : DataW H → Nat
  | .lit (.string bytes) => bytes.length + 1
  | .lit _ => 1
  | .nil => 1
  | .ptr d => uptoBulk d + 1
  | .slice elems spare => uptoBulkAll elems + uptoBulkAll spare + 1
  | .agg parts => uptoBulkAll parts + 1
  | .iface _ d => uptoBulk d + 1
  | .map entries => uptoBulkEntries entries + 1
  | .held _ => 1
def uptoBulkAll {H : Type} : List (DataW H) → Nat
  | [] => 0
  | d :: r => uptoBulk d + uptoBulkAll r
def uptoBulkEntries {H : Type} : List (Lit × DataW H) → Nat
  | [] => 0
  | x :: r => uptoBulkEntry x + uptoBulkEntries r
def uptoBulkEntry {H : Type} : Lit × DataW H → Nat
  | (.string bytes, d) => bytes.length + uptoBulk d + 1
  | (_, d) => uptoBulk d + 1
 end
def uptoSmall : (H : Type) → List (DataW H) → Bool := fun _ ds => decide (uptoBulkAll ds ≤ 1048576)
def OpenSpec.upto (s : _root_.Go.ChangeSpec) : _root_.Go.OpenSpec := { _root_.Go.OpenSpec.ofChange s with cond := some uptoSmall }

/-- 'almonrylaw20.ChannelReaches', WHERE WHAT IT READS IS OF BULK AT MOST 1048576: true; the input reads as it did. -/
def channelReachesUptoRow : OpenClaim := { program := "ytgielkefgliiiaa", sum := "aca48466399f390fad7b5c96a454a5d839a352f355050eb3d0b02f8dbfe131cb", func := "almonry/almonrylaw20.ChannelReaches", spec := "channelReaches", unfollowed := true, recurses := true, plainKeys := false, apart := false, narrowed := true }
def ChannelReachesUptoSaid : Prop := channelReachesUptoRow.holds Try.pinned (OpenSpec.upto channelReachesSpec)

/-- 'almonrylaw20.ChannelGoes', WHERE WHAT IT READS IS OF BULK AT MOST 1048576: true; the input reads as it did. -/
def channelGoesUptoRow : OpenClaim := { program := "ytgielkefgliiiaa", sum := "aca48466399f390fad7b5c96a454a5d839a352f355050eb3d0b02f8dbfe131cb", func := "almonry/almonrylaw20.ChannelGoes", spec := "channelGoes", unfollowed := true, recurses := true, plainKeys := false, apart := false, narrowed := true }
def ChannelGoesUptoSaid : Prop := channelGoesUptoRow.holds Try.pinned (OpenSpec.upto channelGoesSpec)

/-- 'almonrylaw20.ChannelApart', WHERE WHAT IT READS IS OF BULK AT MOST 1048576: true; the input reads as it did. -/
def channelApartUptoRow : OpenClaim := { program := "ytgielkefgliiiaa", sum := "aca48466399f390fad7b5c96a454a5d839a352f355050eb3d0b02f8dbfe131cb", func := "almonry/almonrylaw20.ChannelApart", spec := "channelApart", unfollowed := true, recurses := true, plainKeys := false, apart := false, narrowed := true }
def ChannelApartUptoSaid : Prop := channelApartUptoRow.holds Try.pinned (OpenSpec.upto channelApartSpec)

/-- 'almonrylaw20.ChannelPlays', WHERE WHAT IT READS IS OF BULK AT MOST 1048576: true; the input reads as it did. -/
def channelPlaysUptoRow : OpenClaim := { program := "ytgielkefgliiiaa", sum := "aca48466399f390fad7b5c96a454a5d839a352f355050eb3d0b02f8dbfe131cb", func := "almonry/almonrylaw20.ChannelPlays", spec := "channelPlays", unfollowed := true, recurses := true, plainKeys := false, apart := false, narrowed := true }
def ChannelPlaysUptoSaid : Prop := channelPlaysUptoRow.holds Try.pinned (OpenSpec.upto channelPlaysSpec)

/-- 'almonrylaw20.ChannelKnown', WHERE WHAT IT READS IS OF BULK AT MOST 1048576: true; the input reads as it did. -/
def channelKnownUptoRow : OpenClaim := { program := "ytgielkefgliiiaa", sum := "aca48466399f390fad7b5c96a454a5d839a352f355050eb3d0b02f8dbfe131cb", func := "almonry/almonrylaw20.ChannelKnown", spec := "channelKnown", unfollowed := true, recurses := true, plainKeys := false, apart := false, narrowed := true }
def ChannelKnownUptoSaid : Prop := channelKnownUptoRow.holds Try.pinned (OpenSpec.upto channelKnownSpec)

/-- 'almonrylaw21.PortioPasses', WHERE WHAT IT READS IS OF BULK AT MOST 1048576: true; the input reads as it did. -/
def portioPassesUptoRow : OpenClaim := { program := "ytgielkefgliiiaa", sum := "aca48466399f390fad7b5c96a454a5d839a352f355050eb3d0b02f8dbfe131cb", func := "almonry/almonrylaw21.PortioPasses", spec := "portioPasses", unfollowed := true, recurses := true, plainKeys := false, apart := false, narrowed := true }
def PortioPassesUptoSaid : Prop := portioPassesUptoRow.holds Try.pinned (OpenSpec.upto portioPassesSpec)

/-- 'almonrylaw21.PortioSends', WHERE WHAT IT READS IS OF BULK AT MOST 1048576: true; the input reads as it did. -/
def portioSendsUptoRow : OpenClaim := { program := "ytgielkefgliiiaa", sum := "aca48466399f390fad7b5c96a454a5d839a352f355050eb3d0b02f8dbfe131cb", func := "almonry/almonrylaw21.PortioSends", spec := "portioSends", unfollowed := true, recurses := true, plainKeys := false, apart := false, narrowed := true }
def PortioSendsUptoSaid : Prop := portioSendsUptoRow.holds Try.pinned (OpenSpec.upto portioSendsSpec)

/-- 'almonrylaw21.PortioApart', WHERE WHAT IT READS IS OF BULK AT MOST 1048576: true; the input reads as it did. -/
def portioApartUptoRow : OpenClaim := { program := "ytgielkefgliiiaa", sum := "aca48466399f390fad7b5c96a454a5d839a352f355050eb3d0b02f8dbfe131cb", func := "almonry/almonrylaw21.PortioApart", spec := "portioApart", unfollowed := true, recurses := true, plainKeys := false, apart := false, narrowed := true }
def PortioApartUptoSaid : Prop := portioApartUptoRow.holds Try.pinned (OpenSpec.upto portioApartSpec)

/-- 'almonrylaw21.PortioPlays', WHERE WHAT IT READS IS OF BULK AT MOST 1048576: true; the input reads as it did. -/
def portioPlaysUptoRow : OpenClaim := { program := "ytgielkefgliiiaa", sum := "aca48466399f390fad7b5c96a454a5d839a352f355050eb3d0b02f8dbfe131cb", func := "almonry/almonrylaw21.PortioPlays", spec := "portioPlays", unfollowed := true, recurses := true, plainKeys := false, apart := false, narrowed := true }
def PortioPlaysUptoSaid : Prop := portioPlaysUptoRow.holds Try.pinned (OpenSpec.upto portioPlaysSpec)

/-- 'almonrylaw21.PortioKnown', WHERE WHAT IT READS IS OF BULK AT MOST 1048576: true; the input reads as it did. -/
def portioKnownUptoRow : OpenClaim := { program := "ytgielkefgliiiaa", sum := "aca48466399f390fad7b5c96a454a5d839a352f355050eb3d0b02f8dbfe131cb", func := "almonry/almonrylaw21.PortioKnown", spec := "portioKnown", unfollowed := true, recurses := true, plainKeys := false, apart := false, narrowed := true }
def PortioKnownUptoSaid : Prop := portioKnownUptoRow.holds Try.pinned (OpenSpec.upto portioKnownSpec)

end Rows
end Go.Proofs.Ytgielkefgliiiaa
