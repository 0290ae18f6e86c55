/- The packages that give a term, as the program finds them. No conditions. -/
import Derived.Test.YtokhnmchnfkiiaaAmC22
namespace Go.Proofs.Ytokhnmchnfkiiaa.Am
open Go Go.RowKit Go.Proofs
set_option linter.unusedSimpArgs false
set_option linter.unusedVariables false

end Go.Proofs.Ytokhnmchnfkiiaa.Am
