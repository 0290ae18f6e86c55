/- The package variables whose cells are known: the table of powers of ten. No conditions. -/
import Derived.WalkKit
import Derived.Lib.ItoaNum
namespace Go.Proofs.YtokhnmchnfkiiaaDoor.Am
open Go
set_option linter.unusedSimpArgs false
set_option linter.unusedVariables false

/-- The number of the table of powers of ten. -/
def tabPow : Nat := 1
/-- Package variables, by their blocks, and what is known of their cells. -/
def tabs : List (Nat × (Array Value → Prop)) := [(tabPow, fun cs => cs = (Lib.pow10Tab.map fun z => Value.int .u64 z).toArray)]

end Go.Proofs.YtokhnmchnfkiiaaDoor.Am
