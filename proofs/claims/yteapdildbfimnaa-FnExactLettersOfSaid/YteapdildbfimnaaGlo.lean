/- What is known of the package variables in all worlds that a call meets. No conditions. -/
import Derived.WalkKit
import Derived.Below
namespace Go.Proofs.Yteapdildbfimnaa
set_option linter.unusedSimpArgs false
set_option linter.unusedVariables false
open Go.RowKit
/-- Nothing. -/
def Gl (w : World) : Prop := True
theorem Gl.keep {w w' : World} (h : Gl w) (hb : Below w.heap.size w w') : Gl w' := trivial
theorem Gl.any (w : World) : Gl w := trivial
theorem Gl.other {w w' : World} {b : Nat} {cur : Array Value} {e : TypeId} {z : Nat × Nat} (h : Gl w) (hb : b < w.heap.size → w.heap[b]? = some (.cells cur e z)) {p : Int} (h1 : cur[1]? = some (.int .i64 p)) (ho : ∀ j, j ≠ b → w'.heap[j]? = w.heap[j]?) : Gl w' := trivial
end Go.Proofs.Yteapdildbfimnaa
