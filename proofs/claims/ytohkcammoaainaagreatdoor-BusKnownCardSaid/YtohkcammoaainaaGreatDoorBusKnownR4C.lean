/- That the law BusKnown runs from place to place. -/
import Derived.Test.YtohkcammoaainaaGreatDoorBusKnownCutsC
namespace Go.Proofs.YtohkcammoaainaaGreatDoor.BusKnownDone
open Go.Eng
theorem r4 : cutRun Tryz.prog (fun _ => Γw) 5000 60 root Tryz.f4 {} c3 (some c4) = true := by kernel_rfl
end Go.Proofs.YtohkcammoaainaaGreatDoor.BusKnownDone
