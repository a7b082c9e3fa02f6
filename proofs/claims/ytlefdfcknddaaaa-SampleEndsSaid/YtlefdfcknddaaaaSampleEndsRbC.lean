/- That the run goes by a part of the plan. -/
import Derived.Test.YtlefdfcknddaaaaSampleEndsRunC
namespace Go.Proofs.Ytlefdfcknddaaaa.SampleEndsDone
open Go.Eng Go.RowKit Go.ChangeShapes Go.WideShapes Go.ChangeAt
theorem z_r1 : PL.run sg0 fn0 pts ((((facts0.cons (.bi .lt (.vr 1000) (.vr 5)) true).cons (.bi .lt c0 (.li 2)) true).cons (.bi .lt (.vr 0) c1) true).cons (.vr 1001) false) z_p1 = true := by kernel_rfl
theorem z_r8 : PL.run sg0 fn0 pts ((((((facts0.cons (.bi .lt (.vr 1000) (.vr 5)) true).cons (.bi .lt c0 (.li 2)) false).cons (.bi .lt c0 (.li 4)) true).cons (.bi .lt c4 (.li 0)) false).cons (.bi .lt c4 (.vr 2)) true).cons (.vr 1001) true) z_p8 = true := by kernel_rfl
theorem z_r16 : PL.run sg0 fn0 pts ((((facts0.cons (.bi .lt (.vr 1000) (.vr 5)) true).cons (.bi .lt c0 (.li 2)) false).cons (.bi .lt c0 (.li 4)) false).cons (.vr 1001) true) z_p16 = true := by kernel_rfl
end Go.Proofs.Ytlefdfcknddaaaa.SampleEndsDone
