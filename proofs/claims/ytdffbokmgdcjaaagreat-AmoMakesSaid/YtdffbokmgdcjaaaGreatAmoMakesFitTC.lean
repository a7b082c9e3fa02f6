/- What Make makes of any two numbers is what the document says, whatever the operation. -/
import Derived.Test.YtdffbokmgdcjaaaGreatAmoMakesFitAC
import Derived.Test.YtdffbokmgdcjaaaGreatAmoMakesFitBC
namespace Go.Proofs.YtdffbokmgdcjaaaGreat.AmoMakesDone
open Go.Eng Go.RowKit

theorem e0_lo {ρ : Env} (h : (ρ.v 0).int ≤ 66) : (e0.ev ρ).bool = true := by
  have k : (ρ.v 0).int < 67 := by omega
  have n1 : ∀ c : Int, 67 ≤ c → ¬ (ρ.v 0).int = c := fun c hc => by omega
  simp only [e0, ev_eqi, ev_lt, ev_vr, ev_li, ev_ite, k, if_true, n1 69 (by decide), n1 70 (by decide), n1 71 (by decide), n1 72 (by decide), n1 73 (by decide), n1 74 (by decide), n1 75 (by decide), n1 76 (by decide), n1 77 (by decide), n1 80 (by decide), n1 81 (by decide), n1 82 (by decide), n1 83 (by decide), n1 84 (by decide), n1 85 (by decide), n1 86 (by decide), n1 87 (by decide), n1 88 (by decide), if_false]
theorem e0_hi {ρ : Env} (h : 89 ≤ (ρ.v 0).int) : (e0.ev ρ).bool = true := by
  have k : ¬ (ρ.v 0).int < 67 := by omega
  have k2 : (77 : Int) < (ρ.v 0).int := by omega
  have k3 : (88 : Int) < (ρ.v 0).int := by omega
  have n1 : ∀ c : Int, c ≤ 88 → ¬ (ρ.v 0).int = c := fun c hc => by omega
  simp only [e0, ev_eqi, ev_lt, ev_vr, ev_li, ev_ite, k, k2, k3, if_true, n1 69 (by decide), n1 70 (by decide), n1 71 (by decide), n1 72 (by decide), n1 73 (by decide), n1 74 (by decide), n1 75 (by decide), n1 76 (by decide), n1 77 (by decide), n1 80 (by decide), n1 81 (by decide), n1 82 (by decide), n1 83 (by decide), n1 84 (by decide), n1 85 (by decide), n1 86 (by decide), n1 87 (by decide), n1 88 (by decide), if_false]
theorem e0_t {ρ : Env} {a b : Nat} (ha : a < 18446744073709551616) (hb : b < 18446744073709551616) (h1 : (ρ.v 1).int = a) (h2 : (ρ.v 2).int = b) : (e0.ev ρ).bool = true := by
  have hv : (ρ.v 0).int ≤ 66 ∨ (ρ.v 0).int = 67 ∨ (ρ.v 0).int = 68 ∨ (ρ.v 0).int = 69 ∨ (ρ.v 0).int = 70 ∨ (ρ.v 0).int = 71 ∨ (ρ.v 0).int = 72 ∨ (ρ.v 0).int = 73 ∨ (ρ.v 0).int = 74 ∨ (ρ.v 0).int = 75 ∨ (ρ.v 0).int = 76 ∨ (ρ.v 0).int = 77 ∨ (ρ.v 0).int = 78 ∨ (ρ.v 0).int = 79 ∨ (ρ.v 0).int = 80 ∨ (ρ.v 0).int = 81 ∨ (ρ.v 0).int = 82 ∨ (ρ.v 0).int = 83 ∨ (ρ.v 0).int = 84 ∨ (ρ.v 0).int = 85 ∨ (ρ.v 0).int = 86 ∨ (ρ.v 0).int = 87 ∨ (ρ.v 0).int = 88 ∨ 89 ≤ (ρ.v 0).int := by omega
  rcases hv with hv | hv | hv | hv | hv | hv | hv | hv | hv | hv | hv | hv | hv | hv | hv | hv | hv | hv | hv | hv | hv | hv | hv | hv
  · exact e0_lo hv
  · exact e0_67 ha hb hv h1 h2
  · exact e0_68 ha hb hv h1 h2
  · exact e0_69 ha hb hv h1 h2
  · exact e0_70 ha hb hv h1 h2
  · exact e0_71 ha hb hv h1 h2
  · exact e0_72 ha hb hv h1 h2
  · exact e0_73 ha hb hv h1 h2
  · exact e0_74 ha hb hv h1 h2
  · exact e0_75 ha hb hv h1 h2
  · exact e0_76 ha hb hv h1 h2
  · exact e0_77 ha hb hv h1 h2
  · exact e0_78 ha hb hv h1 h2
  · exact e0_79 ha hb hv h1 h2
  · exact e0_80 ha hb hv h1 h2
  · exact e0_81 ha hb hv h1 h2
  · exact e0_82 ha hb hv h1 h2
  · exact e0_83 ha hb hv h1 h2
  · exact e0_84 ha hb hv h1 h2
  · exact e0_85 ha hb hv h1 h2
  · exact e0_86 ha hb hv h1 h2
  · exact e0_87 ha hb hv h1 h2
  · exact e0_88 ha hb hv h1 h2
  · exact e0_hi hv
end Go.Proofs.YtdffbokmgdcjaaaGreat.AmoMakesDone
