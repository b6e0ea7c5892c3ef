/- The cut of the program that ModuInverse reaches. -/
import Derived.Test.YtakmgioeldbkcaaRows
import Derived.JoinedOf
namespace Go.Proofs.Ytakmgioeldbkcaa
open Go
theorem moduInverse_closed : joinedFacts Try.prog 22 Try.f22 Rows.moduInverseSpec Rows.moduInverseRow = true := by kernel_rfl
end Go.Proofs.Ytakmgioeldbkcaa
