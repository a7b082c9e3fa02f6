/- That the law BusKnown runs from place to place. -/
import Derived.Test.YtohkcammoaainaaGreatDoorBusKnownCutsC
namespace Go.Proofs.YtohkcammoaainaaGreatDoor.BusKnownDone
open Go.Eng
theorem r0 : cutGo Tryz.prog (fun _ => Γw) 5000 60 root Tryz.f4 {} (some c0) (.code root []) [] ⟨argsT 0 [], T.ofList [], 0, Tryz.f4.ntmps, []⟩ = true := by kernel_rfl
end Go.Proofs.YtohkcammoaainaaGreatDoor.BusKnownDone
