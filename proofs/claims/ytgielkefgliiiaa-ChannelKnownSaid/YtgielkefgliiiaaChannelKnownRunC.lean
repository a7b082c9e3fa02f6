/- That the law ChannelKnown runs to true. -/
import Derived.Test.YtgielkefgliiiaaChannelKnownAwC
namespace Go.Proofs.Ytgielkefgliiiaa.ChannelKnownDone
open Go.Eng
theorem run1 : DT.run Try.prog (fun _ => Γw) 5000 60 7 (shDV Try.prog [] 0 0) (T.ofList (shH Try.prog [] 0 0)) (shN []) goodTrue { bnds := shB Try.prog [] 0 } .leaf = true := by kernel_rfl
end Go.Proofs.Ytgielkefgliiiaa.ChannelKnownDone
