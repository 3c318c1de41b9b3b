/- What is known of the package variables in all worlds that a call meets. No conditions. -/
import Derived.WalkKit
import Derived.Below
namespace Go.Proofs.Ytpimjkhfookipaa
set_option linter.unusedSimpArgs false
set_option linter.unusedVariables false
open Go.RowKit
/-- Nothing. -/
def Gl (w : World) : Prop := True
theorem Gl.keep {w w' : World} (h : Gl w) (hb : Below w.heap.size w w') : Gl w' := trivial
theorem Gl.any (w : World) : Gl w := trivial
end Go.Proofs.Ytpimjkhfookipaa
