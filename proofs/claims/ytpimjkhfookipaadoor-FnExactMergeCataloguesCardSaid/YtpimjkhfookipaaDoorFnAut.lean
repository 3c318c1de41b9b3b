/- What IsAutomaton returns. Conditions: lists no longer than 2^40. -/
import Derived.Test.YtpimjkhfookipaaDoorFnMx
import Derived.Test.YtpimjkhfookipaaDoorPureMx
import Derived.Test.YtpimjkhfookipaaDoorEngK
import Derived.Test.YtpimjkhfookipaaDoorEngJ
namespace Go.Proofs.YtpimjkhfookipaaDoor
open Go.RowKit Go.Proofs
set_option linter.unusedSimpArgs false
set_option linter.unusedVariables false

def lenM (m : List (List Int)) : Prop := m.length ≤ 1099511627776 ∧ ∀ i, i < m.length → (rowAt m i).length ≤ 1099511627776

abbrev MX : Nat := 9223372036854775807
def tM (m : List (List Int)) : Nat := m.length + sumM m m.length
theorem szM_t (m : List (List Int)) (left : Int) : szM m left = if left - tM m < 0 then -1 else left - tM m := by
  unfold szM tM
  by_cases h : left - m.length - sumM m m.length < 0
  · rw [if_pos h, if_pos (by omega)]
  · rw [if_neg h, if_neg (by omega)]; omega
def sumT (s : List (List (List Int))) : Nat → Nat
  | 0 => 0
  | k + 1 => sumT s k + tM (matAt s k)
theorem sumT_mono (s : List (List (List Int))) {i k : Nat} (h : i ≤ k) : sumT s i ≤ sumT s k := by
  induction k with
  | zero => rw [show i = 0 by omega]; exact Nat.le_refl _
  | succ k ih =>
    rcases Nat.lt_or_ge i (k + 1) with h1 | h1
    · have := ih (by omega); show _ ≤ sumT s k + tM (matAt s k); omega
    · rw [show i = k + 1 by omega]; exact Nat.le_refl _
theorem sumT_le (s : List (List (List Int))) {i k : Nat} (h : i < k) : tM (matAt s i) ≤ sumT s k := by
  have := sumT_mono s (show i + 1 ≤ k by omega)
  have e : sumT s (i + 1) = sumT s i + tM (matAt s i) := rfl
  omega
def szMs (s : List (List (List Int))) (left : Int) : Int := if left - s.length - sumT s s.length < 0 then -1 else left - s.length - sumT s s.length
theorem szMs_no {s : List (List (List Int))} {left : Int} {k : Nat} (hk : k ≤ s.length) (h : left - s.length - sumT s k < 0) : szMs s left = -1 := by
  unfold szMs; have := sumT_mono s hk; rw [if_pos (by omega)]
theorem szMs_yes {s : List (List (List Int))} {left : Int} (h : 0 ≤ left - s.length - sumT s s.length) : szMs s left = left - s.length - sumT s s.length := by
  unfold szMs; rw [if_neg (by omega)]

def totA (a e : List Int) (s : List (List (List Int))) : Nat := a.length + e.length + s.length + sumT s s.length
def szA (a e : List Int) (s : List (List (List Int))) (left : Int) : Int := if left - totA a e s < 0 then -1 else left - totA a e s

end Go.Proofs.YtpimjkhfookipaaDoor
