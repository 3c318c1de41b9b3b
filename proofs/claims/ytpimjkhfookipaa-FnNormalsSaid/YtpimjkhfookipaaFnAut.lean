/- What IsAutomaton returns. Conditions: lists no longer than 2^40. -/
import Derived.Test.YtpimjkhfookipaaFnMx
import Derived.Test.YtpimjkhfookipaaPureMx
import Derived.Test.YtpimjkhfookipaaEngK
import Derived.Test.YtpimjkhfookipaaEngJ
namespace Go.Proofs.Ytpimjkhfookipaa
open Go.RowKit Go.Proofs
set_option linter.unusedSimpArgs false
set_option linter.unusedVariables false

theorem sz_mats : elemSz Try.prog 35 = some 1 := by kernel_rfl
theorem c_mats : cellsIn Try.prog 35 = some none := by kernel_rfl
theorem ei_mats : elemInfo Try.prog 35 = some (45, [.slice none 0 0]) := by kernel_rfl
theorem ea_mats : elemAgg Try.prog 35 = some false := by kernel_rfl
def lenM (m : List (List Int)) : Prop := m.length ≤ 1099511627776 ∧ ∀ i, i < m.length → (rowAt m i).length ≤ 1099511627776

end Go.Proofs.Ytpimjkhfookipaa
