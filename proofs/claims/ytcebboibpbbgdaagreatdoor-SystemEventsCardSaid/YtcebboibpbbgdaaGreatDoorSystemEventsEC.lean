/- What asm.Encode makes of the instructions that the law SystemEvents has assembled. -/
import Derived.Test.YtcebboibpbbgdaaGreatDoorSystemEventsGC
import Derived.Test.YtcebboibpbbgdaaGreatDoorSystemEventsBC
namespace Go.Proofs.YtcebboibpbbgdaaGreatDoor.SystemEventsDone
open Go.Eng
def e0 : MH := ⟨42, [.agg [.int .u8 (.li 1), .int .u8 (.li 5), .int .u8 (.li 0), .int .u8 (.li 0), .int .i64 (.li 268435456), .int .u16 (.li 0), .int .u8 (.li 4)]], [(1, b0), (4, b1), (5, b2), (6, b3), (7, b4), (8, b5), (500, b6)], 507, .tup [.int .u32 (.li 268436151), .int .i64 (.li 0)], [], 514⟩
theorem ez0 : mhForm e0 = true := by kernel_rfl
theorem er0 : mhRun Tryz.prog Γb 5000 80 e0 = true := by kernel_rfl
def e1 : MH := ⟨42, [.agg [.int .u8 (.li 15), .int .u8 (.li 6), .int .u8 (.li 5), .int .u8 (.li 0), .int .i64 (.li 0), .int .u16 (.li 0), .int .u8 (.li 4)]], [(1, b0), (4, b1), (5, b2), (6, b3), (7, b4), (8, b5), (500, b6)], 517, .tup [.int .u32 (.li 180995), .int .i64 (.li 0)], [], 524⟩
theorem ez1 : mhForm e1 = true := by kernel_rfl
theorem er1 : mhRun Tryz.prog Γb 5000 80 e1 = true := by kernel_rfl
def e2 : MH := ⟨42, [.agg [.int .u8 (.li 5), .int .u8 (.li 0), .int .u8 (.li 6), .int .u8 (.li 0), .int .i64 (.li (-4)), .int .u16 (.li 0), .int .u8 (.li 4)]], [(1, b0), (4, b1), (5, b2), (6, b3), (7, b4), (8, b5), (500, b6)], 527, .tup [.int .u32 (.li 4261613283), .int .i64 (.li 0)], [], 534⟩
theorem ez2 : mhForm e2 = true := by kernel_rfl
theorem er2 : mhRun Tryz.prog Γb 5000 80 e2 = true := by kernel_rfl
def e3 : MH := ⟨42, [.agg [.int .u8 (.li 18), .int .u8 (.li 0), .int .u8 (.li 5), .int .u8 (.li 6), .int .i64 (.li 0), .int .u16 (.li 0), .int .u8 (.li 4)]], [(1, b0), (4, b1), (5, b2), (6, b3), (7, b4), (8, b5), (500, b6)], 537, .tup [.int .u32 (.li 6455331), .int .i64 (.li 0)], [], 544⟩
theorem ez3 : mhForm e3 = true := by kernel_rfl
theorem er3 : mhRun Tryz.prog Γb 5000 80 e3 = true := by kernel_rfl
def e4 : MH := ⟨42, [.agg [.int .u8 (.li 3), .int .u8 (.li 0), .int .u8 (.li 0), .int .u8 (.li 0), .int .i64 (.li (-12)), .int .u16 (.li 0), .int .u8 (.li 4)]], [(1, b0), (4, b1), (5, b2), (6, b3), (7, b4), (8, b5), (500, b6)], 547, .tup [.int .u32 (.li 4284477551), .int .i64 (.li 0)], [], 554⟩
theorem ez4 : mhForm e4 = true := by kernel_rfl
theorem er4 : mhRun Tryz.prog Γb 5000 80 e4 = true := by kernel_rfl
def e5 : MH := ⟨42, [.agg [.int .u8 (.li 1), .int .u8 (.li 7), .int .u8 (.li 0), .int .u8 (.li 0), .int .i64 (.li 201326592), .int .u16 (.li 0), .int .u8 (.li 4)]], [(1, b0), (4, b1), (5, b2), (6, b3), (7, b4), (8, b5), (500, b6)], 11409, .tup [.int .u32 (.li 201327543), .int .i64 (.li 0)], [], 11416⟩
theorem ez5 : mhForm e5 = true := by kernel_rfl
theorem er5 : mhRun Tryz.prog Γb 5000 80 e5 = true := by kernel_rfl
def e6 : MH := ⟨42, [.agg [.int .u8 (.li 22), .int .u8 (.li 6), .int .u8 (.li 0), .int .u8 (.li 0), .int .i64 (.li 1), .int .u16 (.li 0), .int .u8 (.li 4)]], [(1, b0), (4, b1), (5, b2), (6, b3), (7, b4), (8, b5), (500, b6)], 11419, .tup [.int .u32 (.li 1049363), .int .i64 (.li 0)], [], 11426⟩
theorem ez6 : mhForm e6 = true := by kernel_rfl
theorem er6 : mhRun Tryz.prog Γb 5000 80 e6 = true := by kernel_rfl
def e7 : MH := ⟨42, [.agg [.int .u8 (.li 20), .int .u8 (.li 0), .int .u8 (.li 7), .int .u8 (.li 6), .int .i64 (.li 20), .int .u16 (.li 0), .int .u8 (.li 4)]], [(1, b0), (4, b1), (5, b2), (6, b3), (7, b4), (8, b5), (500, b6)], 11429, .tup [.int .u32 (.li 6531619), .int .i64 (.li 0)], [], 11436⟩
theorem ez7 : mhForm e7 = true := by kernel_rfl
theorem er7 : mhRun Tryz.prog Γb 5000 80 e7 = true := by kernel_rfl
def e8 : MH := ⟨42, [.agg [.int .u8 (.li 1), .int .u8 (.li 8), .int .u8 (.li 0), .int .u8 (.li 0), .int .i64 (.li 201334784), .int .u16 (.li 0), .int .u8 (.li 4)]], [(1, b0), (4, b1), (5, b2), (6, b3), (7, b4), (8, b5), (500, b6)], 11439, .tup [.int .u32 (.li 201335863), .int .i64 (.li 0)], [], 11446⟩
theorem ez8 : mhForm e8 = true := by kernel_rfl
theorem er8 : mhRun Tryz.prog Γb 5000 80 e8 = true := by kernel_rfl
def e9 : MH := ⟨42, [.agg [.int .u8 (.li 22), .int .u8 (.li 6), .int .u8 (.li 0), .int .u8 (.li 0), .int .i64 (.li 32), .int .u16 (.li 0), .int .u8 (.li 4)]], [(1, b0), (4, b1), (5, b2), (6, b3), (7, b4), (8, b5), (500, b6)], 11449, .tup [.int .u32 (.li 33555219), .int .i64 (.li 0)], [], 11456⟩
theorem ez9 : mhForm e9 = true := by kernel_rfl
theorem er9 : mhRun Tryz.prog Γb 5000 80 e9 = true := by kernel_rfl
def e10 : MH := ⟨42, [.agg [.int .u8 (.li 20), .int .u8 (.li 0), .int .u8 (.li 8), .int .u8 (.li 6), .int .i64 (.li 0), .int .u16 (.li 0), .int .u8 (.li 4)]], [(1, b0), (4, b1), (5, b2), (6, b3), (7, b4), (8, b5), (500, b6)], 11459, .tup [.int .u32 (.li 6561827), .int .i64 (.li 0)], [], 11466⟩
theorem ez10 : mhForm e10 = true := by kernel_rfl
theorem er10 : mhRun Tryz.prog Γb 5000 80 e10 = true := by kernel_rfl
def e11 : MH := ⟨42, [.agg [.int .u8 (.li 2), .int .u8 (.li 9), .int .u8 (.li 0), .int .u8 (.li 0), .int .i64 (.li 0), .int .u16 (.li 0), .int .u8 (.li 4)]], [(1, b0), (4, b1), (5, b2), (6, b3), (7, b4), (8, b5), (500, b6)], 11469, .tup [.int .u32 (.li 1175), .int .i64 (.li 0)], [], 11476⟩
theorem ez11 : mhForm e11 = true := by kernel_rfl
theorem er11 : mhRun Tryz.prog Γb 5000 80 e11 = true := by kernel_rfl
def e12 : MH := ⟨42, [.agg [.int .u8 (.li 22), .int .u8 (.li 9), .int .u8 (.li 9), .int .u8 (.li 0), .int .i64 (.li 40), .int .u16 (.li 0), .int .u8 (.li 4)]], [(1, b0), (4, b1), (5, b2), (6, b3), (7, b4), (8, b5), (500, b6)], 11479, .tup [.int .u32 (.li 42239123), .int .i64 (.li 0)], [], 11486⟩
theorem ez12 : mhForm e12 = true := by kernel_rfl
theorem er12 : mhRun Tryz.prog Γb 5000 80 e12 = true := by kernel_rfl
def e13 : MH := ⟨42, [.agg [.int .u8 (.li 89), .int .u8 (.li 0), .int .u8 (.li 9), .int .u8 (.li 0), .int .i64 (.li 0), .int .u16 (.li 773), .int .u8 (.li 4)]], [(1, b0), (4, b1), (5, b2), (6, b3), (7, b4), (8, b5), (500, b6)], 11489, .tup [.int .u32 (.li 810848371), .int .i64 (.li 0)], [], 11496⟩
theorem ez13 : mhForm e13 = true := by kernel_rfl
theorem er13 : mhRun Tryz.prog Γb 5000 80 e13 = true := by kernel_rfl
def e14 : MH := ⟨42, [.agg [.int .u8 (.li 1), .int .u8 (.li 6), .int .u8 (.li 0), .int .u8 (.li 0), .int .i64 (.li 4096), .int .u16 (.li 0), .int .u8 (.li 4)]], [(1, b0), (4, b1), (5, b2), (6, b3), (7, b4), (8, b5), (500, b6)], 11499, .tup [.int .u32 (.li 4919), .int .i64 (.li 0)], [], 11506⟩
theorem ez14 : mhForm e14 = true := by kernel_rfl
theorem er14 : mhRun Tryz.prog Γb 5000 80 e14 = true := by kernel_rfl
def e15 : MH := ⟨42, [.agg [.int .u8 (.li 22), .int .u8 (.li 6), .int .u8 (.li 6), .int .u8 (.li 0), .int .i64 (.li (-2048)), .int .u16 (.li 0), .int .u8 (.li 4)]], [(1, b0), (4, b1), (5, b2), (6, b3), (7, b4), (8, b5), (500, b6)], 11509, .tup [.int .u32 (.li 2147681043), .int .i64 (.li 0)], [], 11516⟩
theorem ez15 : mhForm e15 = true := by kernel_rfl
theorem er15 : mhRun Tryz.prog Γb 5000 80 e15 = true := by kernel_rfl
def e16 : MH := ⟨42, [.agg [.int .u8 (.li 90), .int .u8 (.li 0), .int .u8 (.li 6), .int .u8 (.li 0), .int .i64 (.li 0), .int .u16 (.li 772), .int .u8 (.li 4)]], [(1, b0), (4, b1), (5, b2), (6, b3), (7, b4), (8, b5), (500, b6)], 11519, .tup [.int .u32 (.li 809705587), .int .i64 (.li 0)], [], 11526⟩
theorem ez16 : mhForm e16 = true := by kernel_rfl
theorem er16 : mhRun Tryz.prog Γb 5000 80 e16 = true := by kernel_rfl
def e17 : MH := ⟨42, [.agg [.int .u8 (.li 93), .int .u8 (.li 0), .int .u8 (.li 0), .int .u8 (.li 0), .int .i64 (.li 8), .int .u16 (.li 768), .int .u8 (.li 4)]], [(1, b0), (4, b1), (5, b2), (6, b3), (7, b4), (8, b5), (500, b6)], 11529, .tup [.int .u32 (.li 805593203), .int .i64 (.li 0)], [], 11536⟩
theorem ez17 : mhForm e17 = true := by kernel_rfl
theorem er17 : mhRun Tryz.prog Γb 5000 80 e17 = true := by kernel_rfl
def e18 : MH := ⟨42, [.agg [.int .u8 (.li 97), .int .u8 (.li 0), .int .u8 (.li 0), .int .u8 (.li 0), .int .i64 (.li 0), .int .u16 (.li 0), .int .u8 (.li 4)]], [(1, b0), (4, b1), (5, b2), (6, b3), (7, b4), (8, b5), (500, b6)], 11539, .tup [.int .u32 (.li 273678451), .int .i64 (.li 0)], [], 11546⟩
theorem ez18 : mhForm e18 = true := by kernel_rfl
theorem er18 : mhRun Tryz.prog Γb 5000 80 e18 = true := by kernel_rfl
def e19 : MH := ⟨42, [.agg [.int .u8 (.li 3), .int .u8 (.li 0), .int .u8 (.li 0), .int .u8 (.li 0), .int .i64 (.li (-4)), .int .u16 (.li 0), .int .u8 (.li 4)]], [(1, b0), (4, b1), (5, b2), (6, b3), (7, b4), (8, b5), (500, b6)], 11549, .tup [.int .u32 (.li 4292866159), .int .i64 (.li 0)], [], 11556⟩
theorem ez19 : mhForm e19 = true := by kernel_rfl
theorem er19 : mhRun Tryz.prog Γb 5000 80 e19 = true := by kernel_rfl
def e20 : MH := ⟨42, [.agg [.int .u8 (.li 0), .int .u8 (.li 0), .int .u8 (.li 0), .int .u8 (.li 0), .int .i64 (.li 0), .int .u16 (.li 0), .int .u8 (.li 4)]], [(1, b0), (4, b1), (5, b2), (6, b3), (7, b4), (8, b5), (500, b6)], 11559, .tup [.int .u32 (.li 0), .int .i64 (.li 0)], [], 11566⟩
theorem ez20 : mhForm e20 = true := by kernel_rfl
theorem er20 : mhRun Tryz.prog Γb 5000 80 e20 = true := by kernel_rfl
def e21 : MH := ⟨42, [.agg [.int .u8 (.li 1), .int .u8 (.li 5), .int .u8 (.li 0), .int .u8 (.li 0), .int .i64 (.li 268435456), .int .u16 (.li 0), .int .u8 (.li 4)]], [(1, b0), (4, b1), (5, b2), (6, b3), (7, b4), (8, b5), (500, b6)], 11569, .tup [.int .u32 (.li 268436151), .int .i64 (.li 0)], [], 11576⟩
theorem ez21 : mhForm e21 = true := by kernel_rfl
theorem er21 : mhRun Tryz.prog Γb 5000 80 e21 = true := by kernel_rfl
def e22 : MH := ⟨42, [.agg [.int .u8 (.li 22), .int .u8 (.li 6), .int .u8 (.li 0), .int .u8 (.li 0), .int .i64 (.li 33), .int .u16 (.li 0), .int .u8 (.li 4)]], [(1, b0), (4, b1), (5, b2), (6, b3), (7, b4), (8, b5), (500, b6)], 11579, .tup [.int .u32 (.li 34603795), .int .i64 (.li 0)], [], 11586⟩
theorem ez22 : mhForm e22 = true := by kernel_rfl
theorem er22 : mhRun Tryz.prog Γb 5000 80 e22 = true := by kernel_rfl
def e23 : MH := ⟨42, [.agg [.int .u8 (.li 18), .int .u8 (.li 0), .int .u8 (.li 5), .int .u8 (.li 6), .int .i64 (.li 0), .int .u16 (.li 0), .int .u8 (.li 4)]], [(1, b0), (4, b1), (5, b2), (6, b3), (7, b4), (8, b5), (500, b6)], 11589, .tup [.int .u32 (.li 6455331), .int .i64 (.li 0)], [], 11596⟩
theorem ez23 : mhForm e23 = true := by kernel_rfl
theorem er23 : mhRun Tryz.prog Γb 5000 80 e23 = true := by kernel_rfl
def e24 : MH := ⟨42, [.agg [.int .u8 (.li 3), .int .u8 (.li 0), .int .u8 (.li 0), .int .u8 (.li 0), .int .i64 (.li 0), .int .u16 (.li 0), .int .u8 (.li 4)]], [(1, b0), (4, b1), (5, b2), (6, b3), (7, b4), (8, b5), (500, b6)], 11599, .tup [.int .u32 (.li 111), .int .i64 (.li 0)], [], 11606⟩
theorem ez24 : mhForm e24 = true := by kernel_rfl
theorem er24 : mhRun Tryz.prog Γb 5000 80 e24 = true := by kernel_rfl
def e25 : MH := ⟨42, [.agg [.int .u8 (.li 1), .int .u8 (.li 5), .int .u8 (.li 0), .int .u8 (.li 0), .int .i64 (.li 268435456), .int .u16 (.li 0), .int .u8 (.li 4)]], [(1, b0), (4, b1), (5, b2), (6, b3), (7, b4), (8, b5), (500, b6)], 18834, .tup [.int .u32 (.li 268436151), .int .i64 (.li 0)], [], 18841⟩
theorem ez25 : mhForm e25 = true := by kernel_rfl
theorem er25 : mhRun Tryz.prog Γb 5000 80 e25 = true := by kernel_rfl
def e26 : MH := ⟨42, [.agg [.int .u8 (.li 22), .int .u8 (.li 6), .int .u8 (.li 0), .int .u8 (.li 0), .int .i64 (.li 97), .int .u16 (.li 0), .int .u8 (.li 4)]], [(1, b0), (4, b1), (5, b2), (6, b3), (7, b4), (8, b5), (500, b6)], 18844, .tup [.int .u32 (.li 101712659), .int .i64 (.li 0)], [], 18851⟩
theorem ez26 : mhForm e26 = true := by kernel_rfl
theorem er26 : mhRun Tryz.prog Γb 5000 80 e26 = true := by kernel_rfl
def e27 : MH := ⟨42, [.agg [.int .u8 (.li 18), .int .u8 (.li 0), .int .u8 (.li 5), .int .u8 (.li 6), .int .i64 (.li 0), .int .u16 (.li 0), .int .u8 (.li 4)]], [(1, b0), (4, b1), (5, b2), (6, b3), (7, b4), (8, b5), (500, b6)], 18854, .tup [.int .u32 (.li 6455331), .int .i64 (.li 0)], [], 18861⟩
theorem ez27 : mhForm e27 = true := by kernel_rfl
theorem er27 : mhRun Tryz.prog Γb 5000 80 e27 = true := by kernel_rfl
def e28 : MH := ⟨42, [.agg [.int .u8 (.li 0), .int .u8 (.li 0), .int .u8 (.li 0), .int .u8 (.li 0), .int .i64 (.li 0), .int .u16 (.li 0), .int .u8 (.li 4)]], [(1, b0), (4, b1), (5, b2), (6, b3), (7, b4), (8, b5), (500, b6)], 18864, .tup [.int .u32 (.li 0), .int .i64 (.li 0)], [], 18871⟩
theorem ez28 : mhForm e28 = true := by kernel_rfl
theorem er28 : mhRun Tryz.prog Γb 5000 80 e28 = true := by kernel_rfl
def lE : List MH := [e0, e1, e2, e3, e4, e5, e6, e7, e8, e9, e10, e11, e12, e13, e14, e15, e16, e17, e18, e19, e20, e21, e22, e23, e24, e25, e26, e27, e28]
theorem lE_ok : ∀ c ∈ lE, mhForm c = true ∧ MHOk Tryz.prog c := by
  simp only [lE, List.forall_mem_cons, List.not_mem_nil, false_implies, implies_true, and_true]
  exact ⟨⟨ez0, mh_of Γb_ok er0⟩, ⟨ez1, mh_of Γb_ok er1⟩, ⟨ez2, mh_of Γb_ok er2⟩, ⟨ez3, mh_of Γb_ok er3⟩, ⟨ez4, mh_of Γb_ok er4⟩, ⟨ez5, mh_of Γb_ok er5⟩, ⟨ez6, mh_of Γb_ok er6⟩, ⟨ez7, mh_of Γb_ok er7⟩, ⟨ez8, mh_of Γb_ok er8⟩, ⟨ez9, mh_of Γb_ok er9⟩, ⟨ez10, mh_of Γb_ok er10⟩, ⟨ez11, mh_of Γb_ok er11⟩, ⟨ez12, mh_of Γb_ok er12⟩, ⟨ez13, mh_of Γb_ok er13⟩, ⟨ez14, mh_of Γb_ok er14⟩, ⟨ez15, mh_of Γb_ok er15⟩, ⟨ez16, mh_of Γb_ok er16⟩, ⟨ez17, mh_of Γb_ok er17⟩, ⟨ez18, mh_of Γb_ok er18⟩, ⟨ez19, mh_of Γb_ok er19⟩, ⟨ez20, mh_of Γb_ok er20⟩, ⟨ez21, mh_of Γb_ok er21⟩, ⟨ez22, mh_of Γb_ok er22⟩, ⟨ez23, mh_of Γb_ok er23⟩, ⟨ez24, mh_of Γb_ok er24⟩, ⟨ez25, mh_of Γb_ok er25⟩, ⟨ez26, mh_of Γb_ok er26⟩, ⟨ez27, mh_of Γb_ok er27⟩, ⟨ez28, mh_of Γb_ok er28⟩⟩
end Go.Proofs.YtcebboibpbbgdaaGreatDoor.SystemEventsDone
