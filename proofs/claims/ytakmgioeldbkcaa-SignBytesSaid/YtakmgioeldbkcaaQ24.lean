/- The cut of the program that SignBytes reaches. -/
import Derived.Test.YtakmgioeldbkcaaRows
import Derived.JoinedOf
namespace Go.Proofs.Ytakmgioeldbkcaa
open Go
theorem signBytes_closed : joinedFacts Try.prog 20 Try.f20 Rows.signBytesSpec Rows.signBytesRow = true := by kernel_rfl
end Go.Proofs.Ytakmgioeldbkcaa
