/- What laws ask that mark an automaton that came in. No conditions. -/
import Derived.Test.YtpimjkhfookipaaFnZ
import Derived.Test.YtpimjkhfookipaaLawLib
namespace Go.Proofs.Ytpimjkhfookipaa
open Go.RowKit Go.Proofs
set_option linter.unusedSimpArgs false
set_option linter.unusedVariables false

theorem bare_seq {n : Nat} {f : Nat → V} (Z : Nat → Prop) : Bare (.old Z (.seq 1 n f)) (.seq 1 n f) := VE.rfl' (.seq 1 n f)
theorem isAut.ge {N : Nat} {q : (Nat → Prop) → Prop} {F : Nat → V} (h : NewV (fun Z => (∀ b, Z b → N ≤ b) ∧ q Z) (.agg 3 F)) : ∀ b, Zof (.agg 3 F) b → N ≤ b := NewV.ge h

open Go.RowKit Go.Proofs
set_option linter.unusedSimpArgs false
set_option linter.unusedVariables false

end Go.Proofs.Ytpimjkhfookipaa
