/- What the run of the law SystemKnown asks for: listed variables, library functions and csr.Check by their contracts; Parse recovers. -/
import Derived.Test.YtcebboibpbbgdaaGreatDoorShelfC
import Derived.Test.YtcebboibpbbgdaaGreatDoorCsrCheckC
import Derived.Test.YtcebboibpbbgdaaGreatDoorCodeKC
import Derived.Test.YtcebboibpbbgdaaGreatDoorSumC
import Derived.Test.YtcebboibpbbgdaaGreatDoorEngG15
namespace Go.Proofs.YtcebboibpbbgdaaGreatDoor.SystemKnownDone
open Go.Eng
/-- The listed variables that are read. -/
def Gl : List (Nat × List DV) := [(5, [.anyi]), (6, [.anyi]), (4, [.int .u64 (.li 1), .int .u64 (.li 10), .int .u64 (.li 100), .int .u64 (.li 1000), .int .u64 (.li 10000), .int .u64 (.li 100000), .int .u64 (.li 1000000), .int .u64 (.li 10000000), .int .u64 (.li 100000000), .int .u64 (.li 1000000000), .int .u64 (.li 10000000000), .int .u64 (.li 100000000000), .int .u64 (.li 1000000000000), .int .u64 (.li 10000000000000), .int .u64 (.li 100000000000000), .int .u64 (.li 1000000000000000), .int .u64 (.li 10000000000000000), .int .u64 (.li 100000000000000000), .int .u64 (.li 1000000000000000000), .int .u64 (.li 10000000000000000000)]), (7, [.int .u8 (.li 0), .int .u8 (.li 1), .int .u8 (.li 28), .int .u8 (.li 2), .int .u8 (.li 29), .int .u8 (.li 14), .int .u8 (.li 24), .int .u8 (.li 3), .int .u8 (.li 30), .int .u8 (.li 22), .int .u8 (.li 20), .int .u8 (.li 15), .int .u8 (.li 25), .int .u8 (.li 17), .int .u8 (.li 4), .int .u8 (.li 8), .int .u8 (.li 31), .int .u8 (.li 27), .int .u8 (.li 13), .int .u8 (.li 23), .int .u8 (.li 21), .int .u8 (.li 19), .int .u8 (.li 16), .int .u8 (.li 7), .int .u8 (.li 26), .int .u8 (.li 12), .int .u8 (.li 18), .int .u8 (.li 6), .int .u8 (.li 11), .int .u8 (.li 5), .int .u8 (.li 10), .int .u8 (.li 9)]), (8, [.int .u8 (.li 0), .int .u8 (.li 1), .int .u8 (.li 56), .int .u8 (.li 2), .int .u8 (.li 57), .int .u8 (.li 49), .int .u8 (.li 28), .int .u8 (.li 3), .int .u8 (.li 61), .int .u8 (.li 58), .int .u8 (.li 42), .int .u8 (.li 50), .int .u8 (.li 38), .int .u8 (.li 29), .int .u8 (.li 17), .int .u8 (.li 4), .int .u8 (.li 62), .int .u8 (.li 47), .int .u8 (.li 59), .int .u8 (.li 36), .int .u8 (.li 45), .int .u8 (.li 43), .int .u8 (.li 51), .int .u8 (.li 22), .int .u8 (.li 53), .int .u8 (.li 39), .int .u8 (.li 33), .int .u8 (.li 30), .int .u8 (.li 24), .int .u8 (.li 18), .int .u8 (.li 12), .int .u8 (.li 5), .int .u8 (.li 63), .int .u8 (.li 55), .int .u8 (.li 48), .int .u8 (.li 27), .int .u8 (.li 60), .int .u8 (.li 41), .int .u8 (.li 37), .int .u8 (.li 16), .int .u8 (.li 46), .int .u8 (.li 35), .int .u8 (.li 44), .int .u8 (.li 21), .int .u8 (.li 52), .int .u8 (.li 32), .int .u8 (.li 23), .int .u8 (.li 11), .int .u8 (.li 54), .int .u8 (.li 26), .int .u8 (.li 40), .int .u8 (.li 15), .int .u8 (.li 34), .int .u8 (.li 20), .int .u8 (.li 31), .int .u8 (.li 10), .int .u8 (.li 25), .int .u8 (.li 14), .int .u8 (.li 19), .int .u8 (.li 9), .int .u8 (.li 13), .int .u8 (.li 8), .int .u8 (.li 7), .int .u8 (.li 6)])]
/-- Ahead of them bytealg.MaxLen, a number. -/
def G : List (Nat × List DV) := (1, [.int .i64 (.vr 0)]) :: (0, [.ifc 308 (.agg [.gptr 9 74])]) :: Gl
def libs : List (FuncId × CallD) := [(245, idxC), (90, cntC), (148, joinC), (438, cloneC), (20, replC 1), (22, Code.codeC), (140, Sum.sumC)]
theorem libs_ok (F : Facts) : ∀ p ∈ libs, CallCOk Tryz.prog F p.1 p.2 := by
  simp only [libs, List.forall_mem_cons, List.not_mem_nil, false_implies, implies_true, and_true]
  exact ⟨idxC_ok Tryz.stringslite_IndexByte, cntC_ok Tryz.strings_Count_one, joinC_ok fun bk o c xs sep w h1 h2 _ h4 h5 h6 => Tryz.strings_Join bk o c xs sep w h1 h2 h4 h5 h6, cloneC_ok Tryz.stringslite_Clone, replC_ok Tryz.strings_ReplaceAll, Code.codeC_ok, Sum.sumC_ok⟩
def lc : List PC := [⟨368, Csr.ks14, Csr.res14⟩]
theorem lc_ok : ∀ c ∈ lc, PureA Tryz.prog c.f c.ks c.res := fun c hm => by rw [List.mem_singleton.1 hm]; exact Csr.check_pure
def Γl : Facts → FuncId → Option CallD := ΓN libs (ΓA lc)
theorem Γl_ok : ∀ F : Facts, ΓOk Tryz.prog F (Γl F) := ΓN_ok libs_ok (ΓA_ok lc_ok)
noncomputable def Γc : Facts → FuncId → Option CallD := ΓC Tryz.prog [143, 308, 316, 309] Γl 5000 80
theorem Γc_ok : ∀ F : Facts, ΓOk Tryz.prog F (Γc F) := ΓC_ok Γl_ok
noncomputable def Γb : Facts → FuncId → Option CallD := ΓR Tryz.prog [41] Γc 5000 80
theorem Γb_ok : ∀ F : Facts, ΓOk Tryz.prog F (Γb F) := ΓR_ok Γc_ok
end Go.Proofs.YtcebboibpbbgdaaGreatDoor.SystemKnownDone
