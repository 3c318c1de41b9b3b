/- Places at borders of a picture, plainly. No conditions. -/
import Derived.Test.YtpimjkhfookipaaPureMx
namespace Go.Proofs.Ytpimjkhfookipaa
set_option linter.unusedSimpArgs false
set_option linter.unusedVariables false

/-- All rows have at most two numbers. -/
def two (m : List (List Int)) : Prop := ∀ i, (rowAt m i).length ≤ 2
end Go.Proofs.Ytpimjkhfookipaa
