/- What BorderPlaces returns. Conditions: lists and strings no longer than 2^40. -/
import Derived.Test.YtpimjkhfookipaaFnPic
import Derived.Test.YtpimjkhfookipaaPureBd
import Derived.Test.YtpimjkhfookipaaBdE
namespace Go.Proofs.Ytpimjkhfookipaa
open Go.RowKit Go.Proofs
set_option linter.unusedSimpArgs false
set_option linter.unusedVariables false

end Go.Proofs.Ytpimjkhfookipaa
