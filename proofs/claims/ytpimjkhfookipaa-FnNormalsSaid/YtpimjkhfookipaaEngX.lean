/- A struct result in a variable beside a bool; ways that meet again. No conditions. -/
import Derived.Test.YtpimjkhfookipaaEngN
namespace Go.Proofs.Ytpimjkhfookipaa
set_option linter.unusedSimpArgs false
set_option linter.unusedVariables false
open Go.RowKit

/-- A goal that is put off. -/
def Later (p : Prop) : Prop := p
section
variable {P : Program}
end
end Go.Proofs.Ytpimjkhfookipaa
