/- The cut of the program that ModuSpreads reaches. -/
import Derived.Test.YtakmgioeldbkcaaRows
import Derived.JoinedOf
namespace Go.Proofs.Ytakmgioeldbkcaa
open Go
theorem moduSpreads_closed : joinedFacts Try.prog 23 Try.f23 Rows.moduSpreadsSpec Rows.moduSpreadsRow = true := by kernel_rfl
end Go.Proofs.Ytakmgioeldbkcaa
