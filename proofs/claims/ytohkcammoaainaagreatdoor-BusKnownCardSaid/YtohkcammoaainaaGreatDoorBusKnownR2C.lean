/- That the law BusKnown runs from place to place. -/
import Derived.Test.YtohkcammoaainaaGreatDoorBusKnownCutsC
namespace Go.Proofs.YtohkcammoaainaaGreatDoor.BusKnownDone
open Go.Eng
theorem r2 : cutRun Tryz.prog (fun _ => Γw) 5000 60 root Tryz.f4 {} c1 (some c2) = true := by kernel_rfl
end Go.Proofs.YtohkcammoaainaaGreatDoor.BusKnownDone
