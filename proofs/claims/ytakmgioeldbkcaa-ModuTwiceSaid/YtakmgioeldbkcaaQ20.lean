/- The cut of the program that ModuTwice reaches. -/
import Derived.Test.YtakmgioeldbkcaaRows
import Derived.JoinedOf
namespace Go.Proofs.Ytakmgioeldbkcaa
open Go
theorem moduTwice_closed : joinedFacts Try.prog 26 Try.f26 Rows.moduTwiceSpec Rows.moduTwiceRow = true := by kernel_rfl
end Go.Proofs.Ytakmgioeldbkcaa
