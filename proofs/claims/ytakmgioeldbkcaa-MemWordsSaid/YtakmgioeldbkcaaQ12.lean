/- The cut of the program that MemWords reaches. -/
import Derived.Test.YtakmgioeldbkcaaRows
import Derived.JoinedOf
namespace Go.Proofs.Ytakmgioeldbkcaa
open Go
theorem memWords_closed : joinedFacts Try.prog 16 Try.f16 Rows.memWordsSpec Rows.memWordsRow = true := by kernel_rfl
end Go.Proofs.Ytakmgioeldbkcaa
