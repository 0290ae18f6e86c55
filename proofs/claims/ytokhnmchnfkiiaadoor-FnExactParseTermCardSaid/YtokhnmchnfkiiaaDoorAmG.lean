/- The package variables of which something is known: internal/bytealg.MaxLen holds a number. No conditions. -/
import Derived.WalkKit
namespace Go.Proofs.YtokhnmchnfkiiaaDoor.Am
open Go
set_option linter.unusedSimpArgs false
set_option linter.unusedVariables false

/-- The number of internal/bytealg.MaxLen. -/
def tabMax : Nat := 0
/-- Package variables, by their blocks, and what is known of their cells. -/
def tabs : List (Nat × (Array Value → Prop)) := [(tabMax, fun cs => ∃ m, cs[0]? = some (.int .i64 m))]

end Go.Proofs.YtokhnmchnfkiiaaDoor.Am
