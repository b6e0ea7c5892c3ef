/- The cut of the program that MemBack reaches. -/
import Derived.Test.YtakmgioeldbkcaaRows
import Derived.JoinedOf
namespace Go.Proofs.Ytakmgioeldbkcaa
open Go
theorem memBack_closed : joinedFacts Try.prog 17 Try.f17 Rows.memBackSpec Rows.memBackRow = true := by kernel_rfl
end Go.Proofs.Ytakmgioeldbkcaa
