/- That the run goes by the whole plan. -/
import Derived.Test.YtlefdfcknddaaaaSampleEndsRaC
import Derived.Test.YtlefdfcknddaaaaSampleEndsRbC
import Derived.Test.YtlefdfcknddaaaaSampleEndsRcC
import Derived.Test.YtlefdfcknddaaaaSampleEndsRdC
namespace Go.Proofs.Ytlefdfcknddaaaa.SampleEndsDone
open Go.Eng Go.RowKit Go.ChangeShapes Go.WideShapes Go.ChangeAt
theorem z_r2 : PL.run sg0 fn0 pts (((facts0.cons (.bi .lt (.vr 1000) (.vr 5)) true).cons (.bi .lt c0 (.li 2)) true).cons (.bi .lt (.vr 0) c1) true) z_p2 = true := PL.run_node z_r0 z_r1
theorem z_r4 : PL.run sg0 fn0 pts ((facts0.cons (.bi .lt (.vr 1000) (.vr 5)) true).cons (.bi .lt c0 (.li 2)) true) z_p4 = true := PL.run_node z_r2 z_r3
theorem z_r7 : PL.run sg0 fn0 pts ((((facts0.cons (.bi .lt (.vr 1000) (.vr 5)) true).cons (.bi .lt c0 (.li 2)) false).cons (.bi .lt c0 (.li 4)) true).cons (.bi .lt c4 (.li 0)) true) z_p7 = true := PL.run_node z_r5 z_r6
theorem z_r10 : PL.run sg0 fn0 pts (((((facts0.cons (.bi .lt (.vr 1000) (.vr 5)) true).cons (.bi .lt c0 (.li 2)) false).cons (.bi .lt c0 (.li 4)) true).cons (.bi .lt c4 (.li 0)) false).cons (.bi .lt c4 (.vr 2)) true) z_p10 = true := PL.run_node z_r8 z_r9
theorem z_r13 : PL.run sg0 fn0 pts (((((facts0.cons (.bi .lt (.vr 1000) (.vr 5)) true).cons (.bi .lt c0 (.li 2)) false).cons (.bi .lt c0 (.li 4)) true).cons (.bi .lt c4 (.li 0)) false).cons (.bi .lt c4 (.vr 2)) false) z_p13 = true := PL.run_node z_r11 z_r12
theorem z_r14 : PL.run sg0 fn0 pts ((((facts0.cons (.bi .lt (.vr 1000) (.vr 5)) true).cons (.bi .lt c0 (.li 2)) false).cons (.bi .lt c0 (.li 4)) true).cons (.bi .lt c4 (.li 0)) false) z_p14 = true := PL.run_node z_r10 z_r13
theorem z_r15 : PL.run sg0 fn0 pts (((facts0.cons (.bi .lt (.vr 1000) (.vr 5)) true).cons (.bi .lt c0 (.li 2)) false).cons (.bi .lt c0 (.li 4)) true) z_p15 = true := PL.run_node z_r7 z_r14
theorem z_r18 : PL.run sg0 fn0 pts (((facts0.cons (.bi .lt (.vr 1000) (.vr 5)) true).cons (.bi .lt c0 (.li 2)) false).cons (.bi .lt c0 (.li 4)) false) z_p18 = true := PL.run_node z_r16 z_r17
theorem z_r19 : PL.run sg0 fn0 pts ((facts0.cons (.bi .lt (.vr 1000) (.vr 5)) true).cons (.bi .lt c0 (.li 2)) false) z_p19 = true := PL.run_node z_r15 z_r18
theorem z_r20 : PL.run sg0 fn0 pts (facts0.cons (.bi .lt (.vr 1000) (.vr 5)) true) z_p20 = true := PL.run_node z_r4 z_r19
theorem z_r22 : PL.run sg0 fn0 pts facts0 z_p22 = true := PL.run_node z_r20 z_r21
theorem run3 : ptOk Try.prog (fun _ => Γf) 1000 50 root Try.f4 pts ⟨rp0, tm0, facts0, plan1⟩ = true := by
  unfold ptOk
  rw [show (⟨rp0, tm0, facts0, plan1⟩ : Pt).rp = rp0 from rfl, loc0]
  show PL.run sg0 fn0 pts facts0 plan1 = true
  rw [plan1_eq]
  exact z_r22
end Go.Proofs.Ytlefdfcknddaaaa.SampleEndsDone
