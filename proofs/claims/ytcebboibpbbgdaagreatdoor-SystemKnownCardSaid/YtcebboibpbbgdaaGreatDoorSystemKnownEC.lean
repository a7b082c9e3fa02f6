/- What asm.Encode makes of the instructions that the law SystemKnown has assembled. -/
import Derived.Test.YtcebboibpbbgdaaGreatDoorSystemKnownGC
import Derived.Test.YtcebboibpbbgdaaGreatDoorSystemKnownBC
namespace Go.Proofs.YtcebboibpbbgdaaGreatDoor.SystemKnownDone
open Go.Eng
def e0 : MH := ⟨42, [.agg [.int .u8 (.li 1), .int .u8 (.li 5), .int .u8 (.li 0), .int .u8 (.li 0), .int .i64 (.li 268435456), .int .u16 (.li 0), .int .u8 (.li 4)]], [(0, b0), (1, b1), (4, b2), (5, b3), (6, b4), (7, b5), (8, b6), (500, b7)], 508, .tup [.int .u32 (.li 268436151), .int .i64 (.li 0)], [], 515⟩
theorem ez0 : mhForm e0 = true := by kernel_rfl
theorem er0 : mhRun Tryz.prog Γb 5000 80 e0 = true := by kernel_rfl
def e1 : MH := ⟨42, [.agg [.int .u8 (.li 22), .int .u8 (.li 6), .int .u8 (.li 0), .int .u8 (.li 0), .int .i64 (.li 97), .int .u16 (.li 0), .int .u8 (.li 4)]], [(0, b0), (1, b1), (4, b2), (5, b3), (6, b4), (7, b5), (8, b6), (500, b7)], 518, .tup [.int .u32 (.li 101712659), .int .i64 (.li 0)], [], 525⟩
theorem ez1 : mhForm e1 = true := by kernel_rfl
theorem er1 : mhRun Tryz.prog Γb 5000 80 e1 = true := by kernel_rfl
def e2 : MH := ⟨42, [.agg [.int .u8 (.li 18), .int .u8 (.li 0), .int .u8 (.li 5), .int .u8 (.li 6), .int .i64 (.li 0), .int .u16 (.li 0), .int .u8 (.li 4)]], [(0, b0), (1, b1), (4, b2), (5, b3), (6, b4), (7, b5), (8, b6), (500, b7)], 528, .tup [.int .u32 (.li 6455331), .int .i64 (.li 0)], [], 535⟩
theorem ez2 : mhForm e2 = true := by kernel_rfl
theorem er2 : mhRun Tryz.prog Γb 5000 80 e2 = true := by kernel_rfl
def e3 : MH := ⟨42, [.agg [.int .u8 (.li 0), .int .u8 (.li 0), .int .u8 (.li 0), .int .u8 (.li 0), .int .i64 (.li 0), .int .u16 (.li 0), .int .u8 (.li 4)]], [(0, b0), (1, b1), (4, b2), (5, b3), (6, b4), (7, b5), (8, b6), (500, b7)], 538, .tup [.int .u32 (.li 0), .int .i64 (.li 0)], [], 545⟩
theorem ez3 : mhForm e3 = true := by kernel_rfl
theorem er3 : mhRun Tryz.prog Γb 5000 80 e3 = true := by kernel_rfl
def e4 : MH := ⟨42, [.agg [.int .u8 (.li 1), .int .u8 (.li 5), .int .u8 (.li 0), .int .u8 (.li 0), .int .i64 (.li 268435456), .int .u16 (.li 0), .int .u8 (.li 4)]], [(0, b0), (1, b1), (4, b2), (5, b3), (6, b4), (7, b5), (8, b6), (500, b7)], 630, .tup [.int .u32 (.li 268436151), .int .i64 (.li 0)], [], 637⟩
theorem ez4 : mhForm e4 = true := by kernel_rfl
theorem er4 : mhRun Tryz.prog Γb 5000 80 e4 = true := by kernel_rfl
def e5 : MH := ⟨42, [.agg [.int .u8 (.li 22), .int .u8 (.li 6), .int .u8 (.li 0), .int .u8 (.li 0), .int .i64 (.li 97), .int .u16 (.li 0), .int .u8 (.li 4)]], [(0, b0), (1, b1), (4, b2), (5, b3), (6, b4), (7, b5), (8, b6), (500, b7)], 640, .tup [.int .u32 (.li 101712659), .int .i64 (.li 0)], [], 647⟩
theorem ez5 : mhForm e5 = true := by kernel_rfl
theorem er5 : mhRun Tryz.prog Γb 5000 80 e5 = true := by kernel_rfl
def e6 : MH := ⟨42, [.agg [.int .u8 (.li 18), .int .u8 (.li 0), .int .u8 (.li 5), .int .u8 (.li 6), .int .i64 (.li 0), .int .u16 (.li 0), .int .u8 (.li 4)]], [(0, b0), (1, b1), (4, b2), (5, b3), (6, b4), (7, b5), (8, b6), (500, b7)], 650, .tup [.int .u32 (.li 6455331), .int .i64 (.li 0)], [], 657⟩
theorem ez6 : mhForm e6 = true := by kernel_rfl
theorem er6 : mhRun Tryz.prog Γb 5000 80 e6 = true := by kernel_rfl
def e7 : MH := ⟨42, [.agg [.int .u8 (.li 0), .int .u8 (.li 0), .int .u8 (.li 0), .int .u8 (.li 0), .int .i64 (.li 0), .int .u16 (.li 0), .int .u8 (.li 4)]], [(0, b0), (1, b1), (4, b2), (5, b3), (6, b4), (7, b5), (8, b6), (500, b7)], 660, .tup [.int .u32 (.li 0), .int .i64 (.li 0)], [], 667⟩
theorem ez7 : mhForm e7 = true := by kernel_rfl
theorem er7 : mhRun Tryz.prog Γb 5000 80 e7 = true := by kernel_rfl
def e8 : MH := ⟨42, [.agg [.int .u8 (.li 97), .int .u8 (.li 0), .int .u8 (.li 0), .int .u8 (.li 0), .int .i64 (.li 0), .int .u16 (.li 0), .int .u8 (.li 4)]], [(0, b0), (1, b1), (4, b2), (5, b3), (6, b4), (7, b5), (8, b6), (500, b7)], 6613, .tup [.int .u32 (.li 273678451), .int .i64 (.li 0)], [], 6620⟩
theorem ez8 : mhForm e8 = true := by kernel_rfl
theorem er8 : mhRun Tryz.prog Γb 5000 80 e8 = true := by kernel_rfl
def e9 : MH := ⟨42, [.agg [.int .u8 (.li 1), .int .u8 (.li 5), .int .u8 (.li 0), .int .u8 (.li 0), .int .i64 (.li 268435456), .int .u16 (.li 0), .int .u8 (.li 4)]], [(0, b0), (1, b1), (4, b2), (5, b3), (6, b4), (7, b5), (8, b6), (500, b7)], 8634, .tup [.int .u32 (.li 268436151), .int .i64 (.li 0)], [], 8641⟩
theorem ez9 : mhForm e9 = true := by kernel_rfl
theorem er9 : mhRun Tryz.prog Γb 5000 80 e9 = true := by kernel_rfl
def e10 : MH := ⟨42, [.agg [.int .u8 (.li 22), .int .u8 (.li 6), .int .u8 (.li 0), .int .u8 (.li 0), .int .i64 (.li 97), .int .u16 (.li 0), .int .u8 (.li 4)]], [(0, b0), (1, b1), (4, b2), (5, b3), (6, b4), (7, b5), (8, b6), (500, b7)], 8644, .tup [.int .u32 (.li 101712659), .int .i64 (.li 0)], [], 8651⟩
theorem ez10 : mhForm e10 = true := by kernel_rfl
theorem er10 : mhRun Tryz.prog Γb 5000 80 e10 = true := by kernel_rfl
def e11 : MH := ⟨42, [.agg [.int .u8 (.li 18), .int .u8 (.li 0), .int .u8 (.li 5), .int .u8 (.li 6), .int .i64 (.li 0), .int .u16 (.li 0), .int .u8 (.li 4)]], [(0, b0), (1, b1), (4, b2), (5, b3), (6, b4), (7, b5), (8, b6), (500, b7)], 8654, .tup [.int .u32 (.li 6455331), .int .i64 (.li 0)], [], 8661⟩
theorem ez11 : mhForm e11 = true := by kernel_rfl
theorem er11 : mhRun Tryz.prog Γb 5000 80 e11 = true := by kernel_rfl
def e12 : MH := ⟨42, [.agg [.int .u8 (.li 0), .int .u8 (.li 0), .int .u8 (.li 0), .int .u8 (.li 0), .int .i64 (.li 0), .int .u16 (.li 0), .int .u8 (.li 4)]], [(0, b0), (1, b1), (4, b2), (5, b3), (6, b4), (7, b5), (8, b6), (500, b7)], 8664, .tup [.int .u32 (.li 0), .int .i64 (.li 0)], [], 8671⟩
theorem ez12 : mhForm e12 = true := by kernel_rfl
theorem er12 : mhRun Tryz.prog Γb 5000 80 e12 = true := by kernel_rfl
def lE : List MH := [e0, e1, e2, e3, e4, e5, e6, e7, e8, e9, e10, e11, e12]
theorem lE_ok : ∀ c ∈ lE, mhForm c = true ∧ MHOk Tryz.prog c := by
  simp only [lE, List.forall_mem_cons, List.not_mem_nil, false_implies, implies_true, and_true]
  exact ⟨⟨ez0, mh_of Γb_ok er0⟩, ⟨ez1, mh_of Γb_ok er1⟩, ⟨ez2, mh_of Γb_ok er2⟩, ⟨ez3, mh_of Γb_ok er3⟩, ⟨ez4, mh_of Γb_ok er4⟩, ⟨ez5, mh_of Γb_ok er5⟩, ⟨ez6, mh_of Γb_ok er6⟩, ⟨ez7, mh_of Γb_ok er7⟩, ⟨ez8, mh_of Γb_ok er8⟩, ⟨ez9, mh_of Γb_ok er9⟩, ⟨ez10, mh_of Γb_ok er10⟩, ⟨ez11, mh_of Γb_ok er11⟩, ⟨ez12, mh_of Γb_ok er12⟩⟩
end Go.Proofs.YtcebboibpbbgdaaGreatDoor.SystemKnownDone
