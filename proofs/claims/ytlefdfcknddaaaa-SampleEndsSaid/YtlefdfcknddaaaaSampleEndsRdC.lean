/- That the run goes by a part of the plan. -/
import Derived.Test.YtlefdfcknddaaaaSampleEndsRunC
namespace Go.Proofs.Ytlefdfcknddaaaa.SampleEndsDone
open Go.Eng Go.RowKit Go.ChangeShapes Go.WideShapes Go.ChangeAt
theorem z_r5 : PL.run sg0 fn0 pts (((((facts0.cons (.bi .lt (.vr 1000) (.vr 5)) true).cons (.bi .lt c0 (.li 2)) false).cons (.bi .lt c0 (.li 4)) true).cons (.bi .lt c4 (.li 0)) true).cons (.vr 1001) true) z_p5 = true := by kernel_rfl
theorem z_r11 : PL.run sg0 fn0 pts ((((((facts0.cons (.bi .lt (.vr 1000) (.vr 5)) true).cons (.bi .lt c0 (.li 2)) false).cons (.bi .lt c0 (.li 4)) true).cons (.bi .lt c4 (.li 0)) false).cons (.bi .lt c4 (.vr 2)) false).cons (.vr 1001) true) z_p11 = true := by kernel_rfl
theorem z_r21 : PL.run sg0 fn0 pts (facts0.cons (.bi .lt (.vr 1000) (.vr 5)) false) z_p21 = true := by kernel_rfl
end Go.Proofs.Ytlefdfcknddaaaa.SampleEndsDone
