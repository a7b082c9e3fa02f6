/- The law AsmKnown's own run, its calls told. -/
import Derived.Test.YtljdmppakiacdaaGreatDoorEngG14
import Derived.Test.YtljdmppakiacdaaGreatDoorAsmKnownListC
import Derived.Test.YtljdmppakiacdaaGreatDoorAsmKnownT0C
import Derived.Test.YtljdmppakiacdaaGreatDoorAsmKnownT1C
import Derived.Test.YtljdmppakiacdaaGreatDoorAsmKnownT2C
import Derived.Test.YtljdmppakiacdaaGreatDoorAsmKnownT3C
import Derived.Test.YtljdmppakiacdaaGreatDoorAsmKnownT4C
import Derived.Test.YtljdmppakiacdaaGreatDoorAsmKnownT5C
import Derived.Test.YtljdmppakiacdaaGreatDoorAsmKnownT6C
import Derived.Test.YtljdmppakiacdaaGreatDoorAsmKnownT7C
namespace Go.Proofs.YtljdmppakiacdaaGreatDoor.AsmKnownDone
open Go.Eng
theorem pT : MemoG Tryz.prog G tT := memoG_of Γb_ok mT
theorem p0 : MemoG Tryz.prog G t0 := memoG_of Γb_ok m0
theorem p1 : MemoG Tryz.prog G t1 := memoG_of Γb_ok m1
theorem p2 : MemoG Tryz.prog G t2 := memoG_of Γb_ok m2
theorem p3 : MemoG Tryz.prog G t3 := memoG_of Γb_ok m3
theorem p4 : MemoG Tryz.prog G t4 := memoG_of Γb_ok m4
theorem p5 : MemoG Tryz.prog G t5 := memoG_of Γb_ok m5
theorem p6 : MemoG Tryz.prog G t6 := memoG_of Γb_ok m6
theorem p7 : MemoG Tryz.prog G t7 := memoG_of Γb_ok m7
theorem p8 : MemoG Tryz.prog G t8 := memoG_of Γb_ok m8
theorem p9 : MemoG Tryz.prog G t9 := memoG_of Γb_ok m9
theorem p10 : MemoG Tryz.prog G t10 := memoG_of Γb_ok m10
theorem p11 : MemoG Tryz.prog G t11 := memoG_of Γb_ok m11
theorem p12 : MemoG Tryz.prog G t12 := memoG_of Γb_ok m12
theorem p13 : MemoG Tryz.prog G t13 := memoG_of Γb_ok m13
theorem p14 : MemoG Tryz.prog G t14 := memoG_of Γb_ok m14
theorem p15 : MemoG Tryz.prog G t15 := memoG_of Γb_ok m15
theorem p16 : MemoG Tryz.prog G t16 := memoG_of Γb_ok m16
theorem p17 : MemoG Tryz.prog G t17 := memoG_of Γb_ok m17
theorem p18 : MemoG Tryz.prog G t18 := memoG_of Γb_ok m18
theorem p19 : MemoG Tryz.prog G t19 := memoG_of Γb_ok m19
theorem p20 : MemoG Tryz.prog G t20 := memoG_of Γb_ok m20
theorem p21 : MemoG Tryz.prog G t21 := memoG_of Γb_ok m21
theorem p22 : MemoG Tryz.prog G t22 := memoG_of Γb_ok m22
theorem p23 : MemoG Tryz.prog G t23 := memoG_of Γb_ok m23
theorem p24 : MemoG Tryz.prog G t24 := memoG_of Γb_ok m24
theorem p25 : MemoG Tryz.prog G t25 := memoG_of Γb_ok m25
theorem p26 : MemoG Tryz.prog G t26 := memoG_of Γb_ok m26
theorem p27 : MemoG Tryz.prog G t27 := memoG_of Γb_ok m27
theorem p28 : MemoG Tryz.prog G t28 := memoG_of Γb_ok m28
theorem p29 : MemoG Tryz.prog G t29 := memoG_of Γb_ok m29
theorem p30 : MemoG Tryz.prog G t30 := memoG_of Γb_ok m30
theorem p31 : MemoG Tryz.prog G t31 := memoG_of Γb_ok m31
theorem p32 : MemoG Tryz.prog G t32 := memoG_of Γb_ok m32
theorem p33 : MemoG Tryz.prog G t33 := memoG_of Γb_ok m33
theorem p34 : MemoG Tryz.prog G t34 := memoG_of Γb_ok m34
theorem p35 : MemoG Tryz.prog G t35 := memoG_of Γb_ok m35
theorem p36 : MemoG Tryz.prog G t36 := memoG_of Γb_ok m36
theorem p37 : MemoG Tryz.prog G t37 := memoG_of Γb_ok m37
theorem p38 : MemoG Tryz.prog G t38 := memoG_of Γb_ok m38
theorem p39 : MemoG Tryz.prog G t39 := memoG_of Γb_ok m39
def l7 : List MC := [t0, t1, t2, t3, t4, t5, t6, t7, t8, t9, t10, t11, t12, t13]
theorem q7 : ∀ c ∈ l7, MemoG Tryz.prog G c := by
  simp only [l7, List.forall_mem_cons, List.not_mem_nil, false_implies, implies_true, and_true]
  exact ⟨p0, p1, p2, p3, p4, p5, p6, p7, p8, p9, p10, p11, p12, p13⟩
def l8 : List MC := [t14, t15, t16, t17, t18, t19, t20, t21, t22, t23, t24, t25, t26, t27, t28, t29, t30, t31, t32, t33, t34, t35, t36]
theorem q8 : ∀ c ∈ l8, MemoG Tryz.prog G c := by
  simp only [l8, List.forall_mem_cons, List.not_mem_nil, false_implies, implies_true, and_true]
  exact ⟨p14, p15, p16, p17, p18, p19, p20, p21, p22, p23, p24, p25, p26, p27, p28, p29, p30, p31, p32, p33, p34, p35, p36⟩
def l9 : List MC := [t37, t38, t39]
theorem q9 : ∀ c ∈ l9, MemoG Tryz.prog G c := by
  simp only [l9, List.forall_mem_cons, List.not_mem_nil, false_implies, implies_true, and_true]
  exact ⟨p37, p38, p39⟩
def libsN : List (FuncId × CallD) := [(6, memoC 6 [Asm.cw]), (7, memoGC G 7 l7), (8, memoGC G 8 l8), (9, memoGC G 9 l9), (10, memoGC G 10 [tL, tT])]
theorem libsN_ok (F : Facts) : ∀ p ∈ libsN, CallCOk Tryz.prog F p.1 p.2 := by
  simp only [libsN, List.forall_mem_cons, List.not_mem_nil, false_implies, implies_true, and_true]
  refine ⟨fun args h n r hr => memoC_ok (fun c hc => by rw [List.mem_singleton.1 hc]; exact memo_of Asm.Γb_ok Asm.mw) 6 args h n r hr, memoGC_ok q7, memoGC_ok q8, memoGC_ok q9, memoGC_ok fun c hc => ?_⟩
  rcases List.mem_cons.1 hc with rfl | hc
  · exact mL
  · rw [List.mem_singleton.1 hc]; exact pT
noncomputable def Γn : Facts → FuncId → Option CallD := ΓN libsN Γb
theorem Γn_ok : ∀ F : Facts, ΓOk Tryz.prog F (Γn F) := ΓN_ok libsN_ok Γb_ok
noncomputable def root : Code := (Tryz.f4.body).getD .skip
theorem run : cutGo Tryz.prog Γn 9000 60 root Tryz.f4 {} none (.code root []) [] ⟨argsT 0 [], T.ofList (glH G), 501, Tryz.f4.ntmps, []⟩ = true := by kernel_rfl
end Go.Proofs.YtljdmppakiacdaaGreatDoor.AsmKnownDone
