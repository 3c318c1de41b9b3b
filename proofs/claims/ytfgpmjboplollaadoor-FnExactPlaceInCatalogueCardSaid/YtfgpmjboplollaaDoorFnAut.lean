/- What IsAutomaton returns. Conditions: lists no longer than 2^40. -/
import Derived.Test.YtfgpmjboplollaaDoorFnMx
import Derived.Test.YtfgpmjboplollaaDoorPureAut
import Derived.Test.YtfgpmjboplollaaDoorEngK
namespace Go.Proofs.YtfgpmjboplollaaDoor
open Go.RowKit Go.Proofs
set_option linter.unusedSimpArgs false
set_option linter.unusedVariables false

def lenM (m : List (List Int)) : Prop := m.length ≤ 1099511627776 ∧ ∀ i, i < m.length → (rowAt m i).length ≤ 1099511627776

end Go.Proofs.YtfgpmjboplollaaDoor
