/- What IsPicture returns, and what laws ask of lists of strings. Conditions: lists no longer than 2^47, strings no longer than 2^47. -/
import Derived.Test.YtpimjkhfookipaaFnA
import Derived.Test.YtpimjkhfookipaaPureMx
import Derived.Test.YtpimjkhfookipaaEngH
namespace Go.Proofs.Ytpimjkhfookipaa
open Go.RowKit Go.Proofs
set_option linter.unusedSimpArgs false
set_option linter.unusedVariables false

end Go.Proofs.Ytpimjkhfookipaa
