/- A function whose result is a struct in memory of its own. No conditions. -/
import Derived.Test.YtpimjkhfookipaaEngH
namespace Go.Proofs.Ytpimjkhfookipaa
set_option linter.unusedSimpArgs false
set_option linter.unusedVariables false
open Go.RowKit

/-- The variable that slot t points at holds n cells that read as f. -/
def retCell (t : Nat) (n : Nat) (f : Nat → V) : Exit → ASt → Prop
  | .normal, s => cellOk t n f s
  | .ret, s => cellOk t n f s
  | _, _ => False
where
  cellOk (t n : Nat) (f : Nat → V) (s : ASt) : Prop :=
    match lookup s.σ t with
    | some (.one (.ptr id off)) =>
      match s.h[id]? with
      | some (some b) => off + n ≤ b.n ∧ ∀ i, i < n → VE (b.f (off + i)) (f i)
      | _ => False
    | _ => False

end Go.Proofs.Ytpimjkhfookipaa
