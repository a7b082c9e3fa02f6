/- Eight bytes in a word: what stands in each, and what csr.Check and csr.Write make of them. -/
import Derived.Test.YtdffbokmgdcjaaaDoorEngG13
namespace Go.Proofs.YtdffbokmgdcjaaaDoor.CsrKeepsDone
open Go.Eng

theorem byte_at0 (F0 F1 F2 F3 F4 F5 F6 F7 : BitVec 8) : (((((((((0#64 ||| F0.setWidth 64) ||| ((F1.setWidth 64) <<< 8)) ||| ((F2.setWidth 64) <<< 16)) ||| ((F3.setWidth 64) <<< 24)) ||| ((F4.setWidth 64) <<< 32)) ||| ((F5.setWidth 64) <<< 40)) ||| ((F6.setWidth 64) <<< 48)) ||| ((F7.setWidth 64) <<< 56)) >>> 0).setWidth 8 = F0 := by
  refine BitVec.eq_of_getLsbD_eq fun i hi => ?_
  rcases i with _ | _ | _ | _ | _ | _ | _ | _ | i <;> first | (simp; done) | omega
theorem byte_at1 (F0 F1 F2 F3 F4 F5 F6 F7 : BitVec 8) : (((((((((0#64 ||| F0.setWidth 64) ||| ((F1.setWidth 64) <<< 8)) ||| ((F2.setWidth 64) <<< 16)) ||| ((F3.setWidth 64) <<< 24)) ||| ((F4.setWidth 64) <<< 32)) ||| ((F5.setWidth 64) <<< 40)) ||| ((F6.setWidth 64) <<< 48)) ||| ((F7.setWidth 64) <<< 56)) >>> 8).setWidth 8 = F1 := by
  refine BitVec.eq_of_getLsbD_eq fun i hi => ?_
  rcases i with _ | _ | _ | _ | _ | _ | _ | _ | i <;> first | (simp; done) | omega
theorem byte_at2 (F0 F1 F2 F3 F4 F5 F6 F7 : BitVec 8) : (((((((((0#64 ||| F0.setWidth 64) ||| ((F1.setWidth 64) <<< 8)) ||| ((F2.setWidth 64) <<< 16)) ||| ((F3.setWidth 64) <<< 24)) ||| ((F4.setWidth 64) <<< 32)) ||| ((F5.setWidth 64) <<< 40)) ||| ((F6.setWidth 64) <<< 48)) ||| ((F7.setWidth 64) <<< 56)) >>> 16).setWidth 8 = F2 := by
  refine BitVec.eq_of_getLsbD_eq fun i hi => ?_
  rcases i with _ | _ | _ | _ | _ | _ | _ | _ | i <;> first | (simp; done) | omega
theorem byte_at3 (F0 F1 F2 F3 F4 F5 F6 F7 : BitVec 8) : (((((((((0#64 ||| F0.setWidth 64) ||| ((F1.setWidth 64) <<< 8)) ||| ((F2.setWidth 64) <<< 16)) ||| ((F3.setWidth 64) <<< 24)) ||| ((F4.setWidth 64) <<< 32)) ||| ((F5.setWidth 64) <<< 40)) ||| ((F6.setWidth 64) <<< 48)) ||| ((F7.setWidth 64) <<< 56)) >>> 24).setWidth 8 = F3 := by
  refine BitVec.eq_of_getLsbD_eq fun i hi => ?_
  rcases i with _ | _ | _ | _ | _ | _ | _ | _ | i <;> first | (simp; done) | omega
theorem byte_at4 (F0 F1 F2 F3 F4 F5 F6 F7 : BitVec 8) : (((((((((0#64 ||| F0.setWidth 64) ||| ((F1.setWidth 64) <<< 8)) ||| ((F2.setWidth 64) <<< 16)) ||| ((F3.setWidth 64) <<< 24)) ||| ((F4.setWidth 64) <<< 32)) ||| ((F5.setWidth 64) <<< 40)) ||| ((F6.setWidth 64) <<< 48)) ||| ((F7.setWidth 64) <<< 56)) >>> 32).setWidth 8 = F4 := by
  refine BitVec.eq_of_getLsbD_eq fun i hi => ?_
  rcases i with _ | _ | _ | _ | _ | _ | _ | _ | i <;> first | (simp; done) | omega
theorem byte_at5 (F0 F1 F2 F3 F4 F5 F6 F7 : BitVec 8) : (((((((((0#64 ||| F0.setWidth 64) ||| ((F1.setWidth 64) <<< 8)) ||| ((F2.setWidth 64) <<< 16)) ||| ((F3.setWidth 64) <<< 24)) ||| ((F4.setWidth 64) <<< 32)) ||| ((F5.setWidth 64) <<< 40)) ||| ((F6.setWidth 64) <<< 48)) ||| ((F7.setWidth 64) <<< 56)) >>> 40).setWidth 8 = F5 := by
  refine BitVec.eq_of_getLsbD_eq fun i hi => ?_
  rcases i with _ | _ | _ | _ | _ | _ | _ | _ | i <;> first | (simp; done) | omega
theorem byte_at6 (F0 F1 F2 F3 F4 F5 F6 F7 : BitVec 8) : (((((((((0#64 ||| F0.setWidth 64) ||| ((F1.setWidth 64) <<< 8)) ||| ((F2.setWidth 64) <<< 16)) ||| ((F3.setWidth 64) <<< 24)) ||| ((F4.setWidth 64) <<< 32)) ||| ((F5.setWidth 64) <<< 40)) ||| ((F6.setWidth 64) <<< 48)) ||| ((F7.setWidth 64) <<< 56)) >>> 48).setWidth 8 = F6 := by
  refine BitVec.eq_of_getLsbD_eq fun i hi => ?_
  rcases i with _ | _ | _ | _ | _ | _ | _ | _ | i <;> first | (simp; done) | omega
theorem byte_at7 (F0 F1 F2 F3 F4 F5 F6 F7 : BitVec 8) : (((((((((0#64 ||| F0.setWidth 64) ||| ((F1.setWidth 64) <<< 8)) ||| ((F2.setWidth 64) <<< 16)) ||| ((F3.setWidth 64) <<< 24)) ||| ((F4.setWidth 64) <<< 32)) ||| ((F5.setWidth 64) <<< 40)) ||| ((F6.setWidth 64) <<< 48)) ||| ((F7.setWidth 64) <<< 56)) >>> 56).setWidth 8 = F7 := by
  refine BitVec.eq_of_getLsbD_eq fun i hi => ?_
  rcases i with _ | _ | _ | _ | _ | _ | _ | _ | i <;> first | (simp; done) | omega
end Go.Proofs.YtdffbokmgdcjaaaDoor.CsrKeepsDone
