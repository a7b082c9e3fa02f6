/- That the run goes by the whole plan. -/
import Derived.Test.YtlefdfcknddaaaaDoorHealthPlaysRaC
import Derived.Test.YtlefdfcknddaaaaDoorHealthPlaysR0C
import Derived.Test.YtlefdfcknddaaaaDoorHealthPlaysR1C
import Derived.Test.YtlefdfcknddaaaaDoorHealthPlaysR2C
import Derived.Test.YtlefdfcknddaaaaDoorHealthPlaysR3C
import Derived.Test.YtlefdfcknddaaaaDoorHealthPlaysR4C
import Derived.Test.YtlefdfcknddaaaaDoorHealthPlaysR5C
namespace Go.Proofs.YtlefdfcknddaaaaDoor.HealthPlaysDone
open Go.Eng
theorem PL.run_node {seg : Facts → Option SegR} {fin : Facts → Ex → St → Option DV → Bool} {ps : List Pt} {F : Facts} {c : E} {t e : PL} (h : PL.run seg fin ps (F.cons c true) t = true) (g : PL.run seg fin ps (F.cons c false) e = true) : PL.run seg fin ps F (.node c t e) = true := by
  simp only [PL.run, h, g, Bool.and_self]
theorem z0_r3 : PL.run (sg tm0) fn0 pts (((((facts0.cons (.vr 1002) true).cons (.bi .eqi (.vr 1001) (.li 0)) true).cons (.bi .lt (.vr 1000) (.vr 22)) true).cons (.bi .eqi c0 (.li 255)) false).cons (.bi .lt c0 (.li 17)) true) z0_p3 = true := PL.run_node z0_r1 z0_r2
theorem z0_r5 : PL.run (sg tm0) fn0 pts ((((facts0.cons (.vr 1002) true).cons (.bi .eqi (.vr 1001) (.li 0)) true).cons (.bi .lt (.vr 1000) (.vr 22)) true).cons (.bi .eqi c0 (.li 255)) false) z0_p5 = true := PL.run_node z0_r3 z0_r4
theorem z0_r6 : PL.run (sg tm0) fn0 pts (((facts0.cons (.vr 1002) true).cons (.bi .eqi (.vr 1001) (.li 0)) true).cons (.bi .lt (.vr 1000) (.vr 22)) true) z0_p6 = true := PL.run_node z0_r0 z0_r5
theorem z0_r8 : PL.run (sg tm0) fn0 pts ((facts0.cons (.vr 1002) true).cons (.bi .eqi (.vr 1001) (.li 0)) true) z0_p8 = true := PL.run_node z0_r6 z0_r7
theorem z0_r9 : PL.run (sg tm0) fn0 pts (facts0.cons (.vr 1002) true) z0_p9 = true := z0_r8
theorem z0_r13 : PL.run (sg tm0) fn0 pts (((((facts0.cons (.vr 1002) false).cons (.bi .eqi (.vr 1001) (.li 0)) true).cons (.bi .lt (.vr 1000) (.vr 22)) true).cons (.bi .eqi c0 (.li 255)) false).cons (.bi .lt c0 (.li 17)) true) z0_p13 = true := PL.run_node z0_r11 z0_r12
theorem z0_r15 : PL.run (sg tm0) fn0 pts ((((facts0.cons (.vr 1002) false).cons (.bi .eqi (.vr 1001) (.li 0)) true).cons (.bi .lt (.vr 1000) (.vr 22)) true).cons (.bi .eqi c0 (.li 255)) false) z0_p15 = true := PL.run_node z0_r13 z0_r14
theorem z0_r16 : PL.run (sg tm0) fn0 pts (((facts0.cons (.vr 1002) false).cons (.bi .eqi (.vr 1001) (.li 0)) true).cons (.bi .lt (.vr 1000) (.vr 22)) true) z0_p16 = true := PL.run_node z0_r10 z0_r15
theorem z0_r18 : PL.run (sg tm0) fn0 pts ((facts0.cons (.vr 1002) false).cons (.bi .eqi (.vr 1001) (.li 0)) true) z0_p18 = true := PL.run_node z0_r16 z0_r17
theorem z0_r19 : PL.run (sg tm0) fn0 pts (facts0.cons (.vr 1002) false) z0_p19 = true := z0_r18
theorem z0_r20 : PL.run (sg tm0) fn0 pts facts0 z0_p20 = true := PL.run_node z0_r9 z0_r19
theorem z1_r3 : PL.run (sg tm1) fn0 pts (((((facts1.cons (.vr 1002) true).cons (.bi .eqi (.vr 1001) (.li 0)) true).cons (.bi .lt (.vr 1000) (.vr 22)) true).cons (.bi .eqi c0 (.li 255)) false).cons (.bi .lt c0 (.li 17)) true) z1_p3 = true := PL.run_node z1_r1 z1_r2
theorem z1_r5 : PL.run (sg tm1) fn0 pts ((((facts1.cons (.vr 1002) true).cons (.bi .eqi (.vr 1001) (.li 0)) true).cons (.bi .lt (.vr 1000) (.vr 22)) true).cons (.bi .eqi c0 (.li 255)) false) z1_p5 = true := PL.run_node z1_r3 z1_r4
theorem z1_r6 : PL.run (sg tm1) fn0 pts (((facts1.cons (.vr 1002) true).cons (.bi .eqi (.vr 1001) (.li 0)) true).cons (.bi .lt (.vr 1000) (.vr 22)) true) z1_p6 = true := PL.run_node z1_r0 z1_r5
theorem z1_r8 : PL.run (sg tm1) fn0 pts ((facts1.cons (.vr 1002) true).cons (.bi .eqi (.vr 1001) (.li 0)) true) z1_p8 = true := PL.run_node z1_r6 z1_r7
theorem z1_r9 : PL.run (sg tm1) fn0 pts (facts1.cons (.vr 1002) true) z1_p9 = true := z1_r8
theorem z1_r15 : PL.run (sg tm1) fn0 pts ((((((((((facts1.cons (.vr 1002) false).cons (.bi .eqi (.vr 1001) (.tr (.app 900) (.vr 1010) (.li 0) (.li 0))) true).cons (.bi .lt (.vr 1000) (.vr 22)) true).cons (.bi .eqi c0 (.li 255)) true).cons (.bi .eqi (.vr 1001) (.li 0)) true).cons (.bi .eqi (.tr (.app 900) (.vr 1010) (.li 0) (.li 0)) (.li 0)) false).cons (.bi .eqi (.tr (.app 900) (.vr 1010) (.li 0) (.li 0)) (.li 4)) false).cons (.bi .eqi (.vr 1003) (.vr 2)) false).cons (.bi .eqi (.li 0) (.tr (.app 900) (.vr 1010) (.li 0) (.li 0))) true).cons (.bi .eqi (.vr 1003) (.bi .add (.vr 1003) (.li 1))) true) z1_p15 = true := PL.run_node z1_r13 z1_r14
theorem z1_r17 : PL.run (sg tm1) fn0 pts (((((((((facts1.cons (.vr 1002) false).cons (.bi .eqi (.vr 1001) (.tr (.app 900) (.vr 1010) (.li 0) (.li 0))) true).cons (.bi .lt (.vr 1000) (.vr 22)) true).cons (.bi .eqi c0 (.li 255)) true).cons (.bi .eqi (.vr 1001) (.li 0)) true).cons (.bi .eqi (.tr (.app 900) (.vr 1010) (.li 0) (.li 0)) (.li 0)) false).cons (.bi .eqi (.tr (.app 900) (.vr 1010) (.li 0) (.li 0)) (.li 4)) false).cons (.bi .eqi (.vr 1003) (.vr 2)) false).cons (.bi .eqi (.li 0) (.tr (.app 900) (.vr 1010) (.li 0) (.li 0))) true) z1_p17 = true := PL.run_node z1_r15 z1_r16
theorem z1_r19 : PL.run (sg tm1) fn0 pts ((((((((facts1.cons (.vr 1002) false).cons (.bi .eqi (.vr 1001) (.tr (.app 900) (.vr 1010) (.li 0) (.li 0))) true).cons (.bi .lt (.vr 1000) (.vr 22)) true).cons (.bi .eqi c0 (.li 255)) true).cons (.bi .eqi (.vr 1001) (.li 0)) true).cons (.bi .eqi (.tr (.app 900) (.vr 1010) (.li 0) (.li 0)) (.li 0)) false).cons (.bi .eqi (.tr (.app 900) (.vr 1010) (.li 0) (.li 0)) (.li 4)) false).cons (.bi .eqi (.vr 1003) (.vr 2)) false) z1_p19 = true := PL.run_node z1_r17 z1_r18
theorem z1_r20 : PL.run (sg tm1) fn0 pts (((((((facts1.cons (.vr 1002) false).cons (.bi .eqi (.vr 1001) (.tr (.app 900) (.vr 1010) (.li 0) (.li 0))) true).cons (.bi .lt (.vr 1000) (.vr 22)) true).cons (.bi .eqi c0 (.li 255)) true).cons (.bi .eqi (.vr 1001) (.li 0)) true).cons (.bi .eqi (.tr (.app 900) (.vr 1010) (.li 0) (.li 0)) (.li 0)) false).cons (.bi .eqi (.tr (.app 900) (.vr 1010) (.li 0) (.li 0)) (.li 4)) false) z1_p20 = true := PL.run_node z1_r12 z1_r19
theorem z1_r21 : PL.run (sg tm1) fn0 pts ((((((facts1.cons (.vr 1002) false).cons (.bi .eqi (.vr 1001) (.tr (.app 900) (.vr 1010) (.li 0) (.li 0))) true).cons (.bi .lt (.vr 1000) (.vr 22)) true).cons (.bi .eqi c0 (.li 255)) true).cons (.bi .eqi (.vr 1001) (.li 0)) true).cons (.bi .eqi (.tr (.app 900) (.vr 1010) (.li 0) (.li 0)) (.li 0)) false) z1_p21 = true := PL.run_node z1_r11 z1_r20
theorem z1_r22 : PL.run (sg tm1) fn0 pts (((((facts1.cons (.vr 1002) false).cons (.bi .eqi (.vr 1001) (.tr (.app 900) (.vr 1010) (.li 0) (.li 0))) true).cons (.bi .lt (.vr 1000) (.vr 22)) true).cons (.bi .eqi c0 (.li 255)) true).cons (.bi .eqi (.vr 1001) (.li 0)) true) z1_p22 = true := PL.run_node z1_r10 z1_r21
theorem z1_r26 : PL.run (sg tm1) fn0 pts (((((((facts1.cons (.vr 1002) false).cons (.bi .eqi (.vr 1001) (.tr (.app 900) (.vr 1010) (.li 0) (.li 0))) true).cons (.bi .lt (.vr 1000) (.vr 22)) true).cons (.bi .eqi c0 (.li 255)) true).cons (.bi .eqi (.vr 1001) (.li 0)) false).cons (.bi .eqi (.vr 1001) (.li 4)) true).cons (.bi .eqi (.tr (.app 900) (.vr 1010) (.li 0) (.li 0)) (.li 0)) false) z1_p26 = true := PL.run_node z1_r24 z1_r25
theorem z1_r27 : PL.run (sg tm1) fn0 pts ((((((facts1.cons (.vr 1002) false).cons (.bi .eqi (.vr 1001) (.tr (.app 900) (.vr 1010) (.li 0) (.li 0))) true).cons (.bi .lt (.vr 1000) (.vr 22)) true).cons (.bi .eqi c0 (.li 255)) true).cons (.bi .eqi (.vr 1001) (.li 0)) false).cons (.bi .eqi (.vr 1001) (.li 4)) true) z1_p27 = true := PL.run_node z1_r23 z1_r26
theorem z1_r30 : PL.run (sg tm1) fn0 pts (((((((facts1.cons (.vr 1002) false).cons (.bi .eqi (.vr 1001) (.tr (.app 900) (.vr 1010) (.li 0) (.li 0))) true).cons (.bi .lt (.vr 1000) (.vr 22)) true).cons (.bi .eqi c0 (.li 255)) true).cons (.bi .eqi (.vr 1001) (.li 0)) false).cons (.bi .eqi (.vr 1001) (.li 4)) false).cons (.bi .lt (.vr 1003) (.vr 2)) true) z1_p30 = true := PL.run_node z1_r28 z1_r29
theorem z1_r34 : PL.run (sg tm1) fn0 pts ((((((((facts1.cons (.vr 1002) false).cons (.bi .eqi (.vr 1001) (.tr (.app 900) (.vr 1010) (.li 0) (.li 0))) true).cons (.bi .lt (.vr 1000) (.vr 22)) true).cons (.bi .eqi c0 (.li 255)) true).cons (.bi .eqi (.vr 1001) (.li 0)) false).cons (.bi .eqi (.vr 1001) (.li 4)) false).cons (.bi .lt (.vr 1003) (.vr 2)) false).cons (.bi .eqi (.tr (.app 900) (.vr 1010) (.li 0) (.li 0)) (.li 0)) false) z1_p34 = true := PL.run_node z1_r32 z1_r33
theorem z1_r35 : PL.run (sg tm1) fn0 pts (((((((facts1.cons (.vr 1002) false).cons (.bi .eqi (.vr 1001) (.tr (.app 900) (.vr 1010) (.li 0) (.li 0))) true).cons (.bi .lt (.vr 1000) (.vr 22)) true).cons (.bi .eqi c0 (.li 255)) true).cons (.bi .eqi (.vr 1001) (.li 0)) false).cons (.bi .eqi (.vr 1001) (.li 4)) false).cons (.bi .lt (.vr 1003) (.vr 2)) false) z1_p35 = true := PL.run_node z1_r31 z1_r34
theorem z1_r36 : PL.run (sg tm1) fn0 pts ((((((facts1.cons (.vr 1002) false).cons (.bi .eqi (.vr 1001) (.tr (.app 900) (.vr 1010) (.li 0) (.li 0))) true).cons (.bi .lt (.vr 1000) (.vr 22)) true).cons (.bi .eqi c0 (.li 255)) true).cons (.bi .eqi (.vr 1001) (.li 0)) false).cons (.bi .eqi (.vr 1001) (.li 4)) false) z1_p36 = true := PL.run_node z1_r30 z1_r35
theorem z1_r37 : PL.run (sg tm1) fn0 pts (((((facts1.cons (.vr 1002) false).cons (.bi .eqi (.vr 1001) (.tr (.app 900) (.vr 1010) (.li 0) (.li 0))) true).cons (.bi .lt (.vr 1000) (.vr 22)) true).cons (.bi .eqi c0 (.li 255)) true).cons (.bi .eqi (.vr 1001) (.li 0)) false) z1_p37 = true := PL.run_node z1_r27 z1_r36
theorem z1_r38 : PL.run (sg tm1) fn0 pts ((((facts1.cons (.vr 1002) false).cons (.bi .eqi (.vr 1001) (.tr (.app 900) (.vr 1010) (.li 0) (.li 0))) true).cons (.bi .lt (.vr 1000) (.vr 22)) true).cons (.bi .eqi c0 (.li 255)) true) z1_p38 = true := PL.run_node z1_r22 z1_r37
theorem z1_r41 : PL.run (sg tm1) fn0 pts (((((facts1.cons (.vr 1002) false).cons (.bi .eqi (.vr 1001) (.tr (.app 900) (.vr 1010) (.li 0) (.li 0))) true).cons (.bi .lt (.vr 1000) (.vr 22)) true).cons (.bi .eqi c0 (.li 255)) false).cons (.bi .lt c0 (.li 17)) true) z1_p41 = true := PL.run_node z1_r39 z1_r40
theorem z1_r43 : PL.run (sg tm1) fn0 pts ((((facts1.cons (.vr 1002) false).cons (.bi .eqi (.vr 1001) (.tr (.app 900) (.vr 1010) (.li 0) (.li 0))) true).cons (.bi .lt (.vr 1000) (.vr 22)) true).cons (.bi .eqi c0 (.li 255)) false) z1_p43 = true := PL.run_node z1_r41 z1_r42
theorem z1_r44 : PL.run (sg tm1) fn0 pts (((facts1.cons (.vr 1002) false).cons (.bi .eqi (.vr 1001) (.tr (.app 900) (.vr 1010) (.li 0) (.li 0))) true).cons (.bi .lt (.vr 1000) (.vr 22)) true) z1_p44 = true := PL.run_node z1_r38 z1_r43
theorem z1_r46 : PL.run (sg tm1) fn0 pts ((facts1.cons (.vr 1002) false).cons (.bi .eqi (.vr 1001) (.tr (.app 900) (.vr 1010) (.li 0) (.li 0))) true) z1_p46 = true := PL.run_node z1_r44 z1_r45
theorem z1_r47 : PL.run (sg tm1) fn0 pts (facts1.cons (.vr 1002) false) z1_p47 = true := z1_r46
theorem z1_r48 : PL.run (sg tm1) fn0 pts facts1 z1_p48 = true := PL.run_node z1_r9 z1_r47
theorem ok0 : ptOk Tryd.prog Γh 1000 50 root Tryd.f6 pts pt0 = true := by
  unfold ptOk
  rw [show pt0.alts = [] from rfl, show pt0.rp = rp0 from rfl, loc]
  show PL.run (sg tm0) fn0 pts facts0 plan0 = true
  rw [plan0_eq]
  exact z0_r20
theorem ok1 : ptOk Tryd.prog Γh 1000 50 root Tryd.f6 pts pt1 = true := by
  unfold ptOk
  rw [show pt1.alts = [] from rfl, show pt1.rp = rp0 from rfl, loc]
  show PL.run (sg tm1) fn0 pts facts1 plan1 = true
  rw [plan1_eq]
  exact z1_r48
theorem ok2 : ptOk Tryd.prog Γh 1000 50 root Tryd.f6 pts pt2 = true := by
  unfold ptOk
  rw [show pt2.alts = [] from rfl, show pt2.rp = rp0 from rfl, loc]
  show PL.run (sg tm2) fn0 pts facts2 plan2 = true
  rw [plan2_eq]
  exact z2_r0
end Go.Proofs.YtlefdfcknddaaaaDoor.HealthPlaysDone
