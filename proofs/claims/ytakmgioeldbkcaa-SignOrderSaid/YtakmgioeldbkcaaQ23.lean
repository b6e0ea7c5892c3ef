/- The cut of the program that SignOrder reaches. -/
import Derived.Test.YtakmgioeldbkcaaRows
import Derived.JoinedOf
namespace Go.Proofs.Ytakmgioeldbkcaa
open Go
theorem signOrder_closed : joinedFacts Try.prog 18 Try.f18 Rows.signOrderSpec Rows.signOrderRow = true := by kernel_rfl
end Go.Proofs.Ytakmgioeldbkcaa
