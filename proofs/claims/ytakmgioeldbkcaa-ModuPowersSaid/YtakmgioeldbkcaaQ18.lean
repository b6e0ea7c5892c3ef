/- The cut of the program that ModuPowers reaches. -/
import Derived.Test.YtakmgioeldbkcaaRows
import Derived.JoinedOf
namespace Go.Proofs.Ytakmgioeldbkcaa
open Go
theorem moduPowers_closed : joinedFacts Try.prog 25 Try.f25 Rows.moduPowersSpec Rows.moduPowersRow = true := by kernel_rfl
end Go.Proofs.Ytakmgioeldbkcaa
