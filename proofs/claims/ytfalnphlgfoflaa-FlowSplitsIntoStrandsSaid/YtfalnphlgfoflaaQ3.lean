/- What the plain functions of flow give: cheapest flows, costs, right networks. -/
import Derived.Test.YtfalnphlgfoflaaQ2
namespace Go.Proofs.Ytfalnphlgfoflaa
open Go Go.RowKit
set_option linter.unusedSimpArgs false
set_option linter.unusedVariables false
end Go.Proofs.Ytfalnphlgfoflaa
