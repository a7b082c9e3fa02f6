/- That the law CsrKnown runs to true. -/
import Derived.Test.YtdffbokmgdcjaaaDoorCsrKnownAwC
import Derived.Test.YtdffbokmgdcjaaaDoorCsrKnownMemoC
import Derived.Test.YtdffbokmgdcjaaaDoorCsrCheckC
namespace Go.Proofs.YtdffbokmgdcjaaaDoor.CsrKnownDone
open Go.Eng
def l14 : List PC := [⟨14, Csr.ks14, Csr.res14⟩]
def Γk (F : Facts) (g : FuncId) : Option CallD := if g = 10 then Γw g else ΓM [8, 13] told (ΓA l14) F g
theorem Γk_ok (F : Facts) : ΓOk Tryd.prog F (Γk F) := fun g c hc => by
  unfold Γk at hc
  split at hc
  · exact Γw_ok F g c hc
  · exact ΓM_ok told_ok (ΓA_ok (l := l14) (fun c hm => by rw [List.mem_singleton.1 hm]; exact Csr.check_pure)) F g c hc
theorem run1 : DT.run Tryd.prog Γk 6005000 60 7 (shDV Tryd.prog [] 0 0) (T.ofList (shH Tryd.prog [] 0 0)) (shN []) goodTrue { bnds := shB Tryd.prog [] 0 } .leaf = true := by kernel_rfl
end Go.Proofs.YtdffbokmgdcjaaaDoor.CsrKnownDone
