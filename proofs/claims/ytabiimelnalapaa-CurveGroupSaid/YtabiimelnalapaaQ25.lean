/- The cut of the program that CurveGroup reaches. -/
import Derived.Test.YtabiimelnalapaaRows
import Derived.JoinedOf
namespace Go.Proofs.Ytabiimelnalapaa
open Go
theorem curveGroup_closed : joinedFacts Try.prog 3 Try.f3 Rows.curveGroupSpec Rows.curveGroupRow = true := by kernel_rfl
end Go.Proofs.Ytabiimelnalapaa
