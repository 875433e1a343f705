/- The document's Check, Greatest and Cheapest: the same as the program's. -/
import Derived.Test.YtfalnphlgfoflaaQ6
namespace Go.Proofs.Ytfalnphlgfoflaa
open Go Go.RowKit
set_option linter.unusedSimpArgs false
set_option linter.unusedVariables false
end Go.Proofs.Ytfalnphlgfoflaa
