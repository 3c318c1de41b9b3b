/- What AreWayBounds returns, and what laws ask of lists of rows. Conditions: lists no longer than 2^40. -/
import Derived.Test.YtpimjkhfookipaaFnA
import Derived.Test.YtpimjkhfookipaaPureMx
import Derived.Test.YtpimjkhfookipaaEngH
namespace Go.Proofs.Ytpimjkhfookipaa
open Go.RowKit Go.Proofs
set_option linter.unusedSimpArgs false
set_option linter.unusedVariables false

end Go.Proofs.Ytpimjkhfookipaa
