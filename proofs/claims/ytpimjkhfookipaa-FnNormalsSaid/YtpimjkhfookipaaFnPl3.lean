/- What the law of NormalPlane asks of lists of terms. Conditions: lists no longer than 2^40. -/
import Derived.Test.YtpimjkhfookipaaFnPl
namespace Go.Proofs.Ytpimjkhfookipaa
open Go.RowKit Go.Proofs
set_option linter.unusedSimpArgs false
set_option linter.unusedVariables false

end Go.Proofs.Ytpimjkhfookipaa
