/- Functions that return a struct that lies in a variable, and one or two scalars. No conditions. -/
import Derived.Test.YtpimjkhfookipaaEngX
import Derived.Test.YtpimjkhfookipaaEngQ
import Derived.Test.YtpimjkhfookipaaEngU
import Derived.Test.YtpimjkhfookipaaEngK
namespace Go.Proofs.Ytpimjkhfookipaa
set_option linter.unusedSimpArgs false
set_option linter.unusedVariables false
open Go.RowKit

section
variable {P : Program}
end

set_option linter.unusedSimpArgs false
set_option linter.unusedVariables false
open Go.RowKit Go.Proofs

/-- What waits for the next stage of a walk. -/
def HoldW (p : Prop) : Prop := p
theorem AWP.holdW [Cx] {P : Program} {N : Nat} {id : Nat} {ops : Array Oper} {d : Bool} {Q : Exit → ASt → Prop} {s : ASt} (h : HoldW (AWP N P (.region id ops d) Q s)) : AWP N P (.region id ops d) Q s := h

section
variable {P : Program} {N : Nat}

end

set_option linter.unusedSimpArgs false
set_option linter.unusedVariables false
open Go.RowKit

section
variable {P : Program}
end

end Go.Proofs.Ytpimjkhfookipaa
