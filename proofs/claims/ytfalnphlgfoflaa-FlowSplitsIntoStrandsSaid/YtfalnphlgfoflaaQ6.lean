/- The document's functions of layer 22: what they give. -/
import Derived.Test.YtfalnphlgfoflaaSC
import Derived.Test.YtfalnphlgfoflaaQ3
namespace Go.Proofs.Ytfalnphlgfoflaa
open Go Go.RowKit
set_option linter.unusedSimpArgs false
set_option linter.unusedVariables false
noncomputable instance (n : Net) (cut : List Int) : Decidable (CutOk n cut) := Classical.propDecidable _
end Go.Proofs.Ytfalnphlgfoflaa
