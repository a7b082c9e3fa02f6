/- What runs of the law AsmKnown ask for: listed variables, library functions by their contracts; Parse recovers. -/
import Derived.Test.YtljdmppakiacdaaGreatDoorAsmAwC
import Derived.Test.YtljdmppakiacdaaGreatDoorShelfBC
import Derived.Test.YtljdmppakiacdaaGreatDoorEngG14
namespace Go.Proofs.YtljdmppakiacdaaGreatDoor.AsmKnownDone
open Go.Eng
def G : List (Nat × List DV) := [(6, [.int .u8 (.li 0), .int .u8 (.li 1), .int .u8 (.li 28), .int .u8 (.li 2), .int .u8 (.li 29), .int .u8 (.li 14), .int .u8 (.li 24), .int .u8 (.li 3), .int .u8 (.li 30), .int .u8 (.li 22), .int .u8 (.li 20), .int .u8 (.li 15), .int .u8 (.li 25), .int .u8 (.li 17), .int .u8 (.li 4), .int .u8 (.li 8), .int .u8 (.li 31), .int .u8 (.li 27), .int .u8 (.li 13), .int .u8 (.li 23), .int .u8 (.li 21), .int .u8 (.li 19), .int .u8 (.li 16), .int .u8 (.li 7), .int .u8 (.li 26), .int .u8 (.li 12), .int .u8 (.li 18), .int .u8 (.li 6), .int .u8 (.li 11), .int .u8 (.li 5), .int .u8 (.li 10), .int .u8 (.li 9)]),
  (7, [.int .u8 (.li 0), .int .u8 (.li 1), .int .u8 (.li 56), .int .u8 (.li 2), .int .u8 (.li 57), .int .u8 (.li 49), .int .u8 (.li 28), .int .u8 (.li 3), .int .u8 (.li 61), .int .u8 (.li 58), .int .u8 (.li 42), .int .u8 (.li 50), .int .u8 (.li 38), .int .u8 (.li 29), .int .u8 (.li 17), .int .u8 (.li 4), .int .u8 (.li 62), .int .u8 (.li 47), .int .u8 (.li 59), .int .u8 (.li 36), .int .u8 (.li 45), .int .u8 (.li 43), .int .u8 (.li 51), .int .u8 (.li 22), .int .u8 (.li 53), .int .u8 (.li 39), .int .u8 (.li 33), .int .u8 (.li 30), .int .u8 (.li 24), .int .u8 (.li 18), .int .u8 (.li 12), .int .u8 (.li 5), .int .u8 (.li 63), .int .u8 (.li 55), .int .u8 (.li 48), .int .u8 (.li 27), .int .u8 (.li 60), .int .u8 (.li 41), .int .u8 (.li 37), .int .u8 (.li 16), .int .u8 (.li 46), .int .u8 (.li 35), .int .u8 (.li 44), .int .u8 (.li 21), .int .u8 (.li 52), .int .u8 (.li 32), .int .u8 (.li 23), .int .u8 (.li 11), .int .u8 (.li 54), .int .u8 (.li 26), .int .u8 (.li 40), .int .u8 (.li 15), .int .u8 (.li 34), .int .u8 (.li 20), .int .u8 (.li 31), .int .u8 (.li 10), .int .u8 (.li 25), .int .u8 (.li 14), .int .u8 (.li 19), .int .u8 (.li 9), .int .u8 (.li 13), .int .u8 (.li 8), .int .u8 (.li 7), .int .u8 (.li 6)]),
  (1, [.int .u64 (.li 1), .int .u64 (.li 10), .int .u64 (.li 100), .int .u64 (.li 1000), .int .u64 (.li 10000), .int .u64 (.li 100000), .int .u64 (.li 1000000), .int .u64 (.li 10000000), .int .u64 (.li 100000000), .int .u64 (.li 1000000000), .int .u64 (.li 10000000000), .int .u64 (.li 100000000000), .int .u64 (.li 1000000000000), .int .u64 (.li 10000000000000), .int .u64 (.li 100000000000000), .int .u64 (.li 1000000000000000), .int .u64 (.li 10000000000000000), .int .u64 (.li 100000000000000000), .int .u64 (.li 1000000000000000000), .int .u64 (.li 10000000000000000000)]),
  (5, [.anyi]), (4, [.anyi])]
def libs : List (FuncId × CallD) := (152, cloneC) :: Asm.libs
theorem libs_ok (F : Facts) : ∀ p ∈ libs, CallCOk Tryz.prog F p.1 p.2 := fun p hp => by
  rcases List.mem_cons.1 hp with rfl | hp
  · exact cloneC_ok Tryz.stringslite_Clone
  · exact Asm.libs_ok F p hp
def Γl : Facts → FuncId → Option CallD := ΓN libs (fun _ => Γ0)
theorem Γl_ok : ∀ F : Facts, ΓOk Tryz.prog F (Γl F) := ΓN_ok libs_ok (fun _ => Γ0_ok)
noncomputable def Γc : Facts → FuncId → Option CallD := ΓC Tryz.prog [54, 89, 97, 90] Γl 5000 40
theorem Γc_ok : ∀ F : Facts, ΓOk Tryz.prog F (Γc F) := ΓC_ok Γl_ok
noncomputable def Γb : Facts → FuncId → Option CallD := ΓR Tryz.prog [13] Γc 5000 40
theorem Γb_ok : ∀ F : Facts, ΓOk Tryz.prog F (Γb F) := ΓR_ok Γc_ok
def t0 : MC := ⟨7, [.str (.ls ⟨#[98, 110, 101, 32, 120, 49, 44, 120, 50, 44, 45, 52]⟩), .int .u32 (.li 4263550691)], .bool (.lb true)⟩
def t1 : MC := ⟨7, [.str (.ls ⟨#[108, 117, 105, 32, 120, 53, 44, 45, 49]⟩), .int .u32 (.li 4294963895)], .bool (.lb true)⟩
def t2 : MC := ⟨7, [.str (.ls ⟨#[99, 115, 114, 114, 119, 32, 120, 48, 44, 55, 55, 51, 44, 120, 53]⟩), .int .u32 (.li 810717299)], .bool (.lb true)⟩
def t3 : MC := ⟨7, [.str (.ls ⟨#[99, 115, 114, 114, 119, 105, 32, 120, 48, 44, 55, 55, 51, 44, 53]⟩), .int .u32 (.li 810733683)], .bool (.lb true)⟩
def t4 : MC := ⟨7, [.str (.ls ⟨#[108, 114, 119, 32, 120, 53, 44, 120, 49, 48]⟩), .int .u32 (.li 268772015)], .bool (.lb true)⟩
def t5 : MC := ⟨7, [.str (.ls ⟨#[97, 109, 111, 97, 100, 100, 100, 32, 120, 49, 49, 44, 120, 49, 48, 44, 120, 49, 48]⟩), .int .u32 (.li 10827183)], .bool (.lb true)⟩
def t6 : MC := ⟨7, [.str (.ls ⟨#[115, 114, 97, 105, 32, 120, 49, 44, 120, 50, 44, 52]⟩), .int .u32 (.li 1078022291)], .bool (.lb true)⟩
def t7 : MC := ⟨7, [.str (.ls ⟨#[101, 99, 97, 108, 108]⟩), .int .u32 (.li 115)], .bool (.lb true)⟩
def t8 : MC := ⟨7, [.str (.ls ⟨#[109, 114, 101, 116]⟩), .int .u32 (.li 807403635)], .bool (.lb true)⟩
def t9 : MC := ⟨7, [.str (.ls ⟨#[115, 102, 101, 110, 99, 101, 118, 109, 97, 32, 120, 49, 44, 120, 50]⟩), .int .u32 (.li 304119923)], .bool (.lb true)⟩
def t10 : MC := ⟨7, [.str (.ls ⟨#[106, 97, 108, 32, 120, 48, 44, 56]⟩), .int .u32 (.li 8388719)], .bool (.lb true)⟩
def t11 : MC := ⟨7, [.str (.ls ⟨#[100, 105, 118, 117, 32, 120, 49, 48, 44, 120, 49, 49, 44, 120, 49, 48]⟩), .int .u32 (.li 44422451)], .bool (.lb true)⟩
def t12 : MC := ⟨7, [.str (.ls ⟨#[108, 98, 117, 32, 120, 53, 44, 45, 49, 40, 120, 54, 41]⟩), .int .u32 (.li 4294132355)], .bool (.lb true)⟩
def t13 : MC := ⟨7, [.str (.ls ⟨#[106, 97, 108, 114, 32, 120, 48, 44, 120, 49, 44, 48]⟩), .int .u32 (.li 32871)], .bool (.lb true)⟩
def t14 : MC := ⟨8, [.str (.ls ⟨#[]⟩)], .bool (.lb true)⟩
def t15 : MC := ⟨8, [.str (.ls ⟨#[97, 100, 100, 105, 32, 120, 49, 44, 120, 48, 44, 43, 53]⟩)], .bool (.lb true)⟩
def t16 : MC := ⟨8, [.str (.ls ⟨#[65, 68, 68, 73, 32, 120, 49, 44, 120, 48, 44, 53]⟩)], .bool (.lb true)⟩
def t17 : MC := ⟨8, [.str (.ls ⟨#[97, 100, 100, 105, 32, 120, 49, 44, 32, 120, 48, 44, 53]⟩)], .bool (.lb true)⟩
def t18 : MC := ⟨8, [.str (.ls ⟨#[46, 119, 111, 114, 100, 32, 49, 49, 53]⟩)], .bool (.lb true)⟩
def t19 : MC := ⟨8, [.str (.ls ⟨#[97, 100, 100, 105, 32, 120, 51, 50, 44, 120, 48, 44, 53]⟩)], .bool (.lb true)⟩
def t20 : MC := ⟨8, [.str (.ls ⟨#[97, 100, 100, 105, 32, 120, 48, 49, 44, 120, 48, 44, 53]⟩)], .bool (.lb true)⟩
def t21 : MC := ⟨8, [.str (.ls ⟨#[97, 100, 100, 105, 32, 120, 49, 44, 120, 48]⟩)], .bool (.lb true)⟩
def t22 : MC := ⟨8, [.str (.ls ⟨#[97, 100, 100, 105, 32, 120, 49, 44, 120, 48, 44, 53, 32]⟩)], .bool (.lb true)⟩
def t23 : MC := ⟨8, [.str (.ls ⟨#[101, 99, 97, 108, 108, 32]⟩)], .bool (.lb true)⟩
def t24 : MC := ⟨8, [.str (.ls ⟨#[101, 99, 97, 108, 108, 32, 120, 49]⟩)], .bool (.lb true)⟩
def t25 : MC := ⟨8, [.str (.ls ⟨#[46, 119, 111, 114, 100]⟩)], .bool (.lb true)⟩
def t26 : MC := ⟨8, [.str (.ls ⟨#[46, 119, 111, 114, 100, 32, 45, 49]⟩)], .bool (.lb true)⟩
def t27 : MC := ⟨8, [.str (.ls ⟨#[46, 119, 111, 114, 100, 32, 52, 50, 57, 52, 57, 54, 55, 50, 57, 54]⟩)], .bool (.lb true)⟩
def t28 : MC := ⟨8, [.str (.ls ⟨#[108, 117, 105, 32, 120, 53, 44, 53, 50, 52, 50, 56, 56]⟩)], .bool (.lb true)⟩
def t29 : MC := ⟨8, [.str (.ls ⟨#[98, 101, 113, 32, 120, 49, 44, 120, 50, 44, 51]⟩)], .bool (.lb true)⟩
def t30 : MC := ⟨8, [.str (.ls ⟨#[108, 100, 32, 120, 49, 44, 56, 120, 50]⟩)], .bool (.lb true)⟩
def t31 : MC := ⟨8, [.str (.ls ⟨#[108, 100, 32, 120, 49, 44, 56, 40, 120, 50]⟩)], .bool (.lb true)⟩
def t32 : MC := ⟨8, [.str (.ls ⟨#[99, 115, 114, 114, 119, 32, 120, 48, 44, 52, 48, 57, 54, 44, 120, 49]⟩)], .bool (.lb true)⟩
def t33 : MC := ⟨8, [.str (.ls ⟨#[97, 100, 100, 32, 120, 49, 44, 120, 50, 44, 51]⟩)], .bool (.lb true)⟩
def t34 : MC := ⟨8, [.str (.ls ⟨#[110, 111, 112]⟩)], .bool (.lb true)⟩
def t35 : MC := ⟨8, [.str (.ls ⟨#[97, 100, 100, 105, 32, 120, 49, 44, 120, 48, 44, 48, 53]⟩)], .bool (.lb true)⟩
def t36 : MC := ⟨8, [.str (.ls ⟨#[97, 100, 100, 105, 32, 120, 49, 44, 120, 48, 44, 57, 57, 57, 57, 57, 57, 57, 57, 57, 57, 57, 57, 57, 57, 57, 57, 57, 57, 57, 57]⟩)], .bool (.lb true)⟩
def t37 : MC := ⟨9, [.str (.ls ⟨#[97, 100, 100, 105, 32, 120, 49, 44, 120, 48, 44, 53, 10, 101, 99, 97, 108, 108, 10]⟩)], .tup [.str (.ls ⟨#[147, 0, 80, 0, 115, 0, 0, 0]⟩), .int .i64 (.li 2), .int .i64 (.li 0)]⟩
def t38 : MC := ⟨9, [.str (.ls ⟨#[97, 100, 100, 105, 32, 120, 49, 44, 120, 48, 44, 53, 10, 10, 101, 99, 97, 108, 108]⟩)], .tup [.str (.ls ⟨#[]⟩), .int .i64 (.li 2), .int .i64 (.li 3)]⟩
def t39 : MC := ⟨9, [.str (.ls ⟨#[]⟩)], .tup [.str (.ls ⟨#[]⟩), .int .i64 (.li 0), .int .i64 (.li 0)]⟩
end Go.Proofs.YtljdmppakiacdaaGreatDoor.AsmKnownDone
