/- That the law AmoKnown runs to true. -/
import Derived.Test.YtdffbokmgdcjaaaGreatChecked
import Derived.Test.YtdffbokmgdcjaaaGreatEngAI
namespace Go.Proofs.YtdffbokmgdcjaaaGreat.AmoKnownDone
open Go.Eng
theorem run1 : DT.run Tryz.prog (fun _ => Γ0) 5000 60 6 (shDV Tryz.prog [] 0 0) (T.ofList (shH Tryz.prog [] 0 0)) (shN []) goodTrue { bnds := shB Tryz.prog [] 0 } .leaf = true := by kernel_rfl
end Go.Proofs.YtdffbokmgdcjaaaGreat.AmoKnownDone
