/- That the law PortioKnown runs to true. -/
import Derived.Test.YtgielkefgliiiaaChecked
import Derived.Test.YtgielkefgliiiaaEngAI
namespace Go.Proofs.Ytgielkefgliiiaa.PortioKnownDone
open Go.Eng
theorem run1 : DT.run Try.prog (fun _ => Γ0) 5000 60 12 (shDV Try.prog [] 0 0) (T.ofList (shH Try.prog [] 0 0)) (shN []) goodTrue { bnds := shB Try.prog [] 0 } .leaf = true := by kernel_rfl
end Go.Proofs.Ytgielkefgliiiaa.PortioKnownDone
