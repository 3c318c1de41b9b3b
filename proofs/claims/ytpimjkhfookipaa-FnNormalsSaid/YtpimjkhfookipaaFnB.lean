/- What IsWithin and WidestBound return. Conditions: lists no longer than 2^40. -/
import Derived.Test.YtpimjkhfookipaaFnA
import Derived.Test.YtpimjkhfookipaaPure
import Derived.Test.YtpimjkhfookipaaEngH
import Derived.Test.YtpimjkhfookipaaFnL
import Derived.Test.YtpimjkhfookipaaMark
import Derived.Test.YtpimjkhfookipaaEngJ
namespace Go.Proofs.Ytpimjkhfookipaa
open Go.RowKit Go.Proofs
set_option linter.unusedSimpArgs false
set_option linter.unusedVariables false

end Go.Proofs.Ytpimjkhfookipaa
