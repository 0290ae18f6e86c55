/- The package variables whose cells are known: none. No conditions. -/
import Derived.WalkKit
namespace Go.Proofs.Ytokhnmchnfkiiaa.Am
open Go
set_option linter.unusedSimpArgs false
set_option linter.unusedVariables false

/-- Package variables, by their blocks, and what is known of their cells. -/
def tabs : List (Nat × (Array Value → Prop)) := []

end Go.Proofs.Ytokhnmchnfkiiaa.Am
