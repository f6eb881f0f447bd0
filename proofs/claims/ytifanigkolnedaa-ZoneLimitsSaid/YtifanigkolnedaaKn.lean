/- The document's examples: the program answers them as it should. -/
import Derived.Test.YtifanigkolnedaaLit
namespace Go.Lo
open Go.Proofs
theorem run13 : run Ft Ct 13 [] = some (.bool true) := run_of (n := 40) (by kernel_rfl)
end Go.Lo
