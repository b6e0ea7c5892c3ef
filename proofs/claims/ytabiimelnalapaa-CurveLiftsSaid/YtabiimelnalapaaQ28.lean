/- The cut of the program that CurveLifts reaches. -/
import Derived.Test.YtabiimelnalapaaRows
import Derived.JoinedOf
namespace Go.Proofs.Ytabiimelnalapaa
open Go
theorem curveLifts_closed : joinedFacts Try.prog 6 Try.f6 Rows.curveLiftsSpec Rows.curveLiftsRow = true := by kernel_rfl
end Go.Proofs.Ytabiimelnalapaa
