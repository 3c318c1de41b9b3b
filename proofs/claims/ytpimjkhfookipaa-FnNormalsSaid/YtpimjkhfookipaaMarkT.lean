/- markTermS: writes m, m + 1, .. into the cells of a slice of terms. -/
import Derived.Test.YtpimjkhfookipaaMark
import Derived.Test.YtpimjkhfookipaaPureMx
namespace Go.Proofs.Ytpimjkhfookipaa
open Go.RowKit Go.Proofs
set_option linter.unusedSimpArgs false
set_option linter.unusedVariables false

end Go.Proofs.Ytpimjkhfookipaa
