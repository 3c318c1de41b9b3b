/- What AreWayBounds returns, and what laws ask of lists of rows. Conditions: lists no longer than 2^40. -/
import Derived.Test.YtpimjkhfookipaaDoorFnA
import Derived.Test.YtpimjkhfookipaaDoorPureMx
import Derived.Test.YtpimjkhfookipaaDoorEngH
namespace Go.Proofs.YtpimjkhfookipaaDoor
open Go.RowKit Go.Proofs
set_option linter.unusedSimpArgs false
set_option linter.unusedVariables false

end Go.Proofs.YtpimjkhfookipaaDoor
