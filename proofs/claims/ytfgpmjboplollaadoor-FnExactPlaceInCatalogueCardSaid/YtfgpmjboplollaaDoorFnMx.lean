/- What AreWayBounds returns, and what laws ask of lists of rows. Conditions: lists no longer than 2^40. -/
import Derived.Test.YtfgpmjboplollaaDoorFnA
import Derived.Test.YtfgpmjboplollaaDoorPureMx
import Derived.Test.YtfgpmjboplollaaDoorEngH
namespace Go.Proofs.YtfgpmjboplollaaDoor
open Go.RowKit Go.Proofs
set_option linter.unusedSimpArgs false
set_option linter.unusedVariables false

end Go.Proofs.YtfgpmjboplollaaDoor
