/- Plain functions on numbers and lists, and laws on them. No conditions. -/
namespace Go.Proofs.Ytpimjkhfookipaa
set_option linter.unusedSimpArgs false
set_option linter.unusedVariables false

/-- p holds of all numbers below n. -/
def allN (n : Nat) (p : Nat → Bool) : Bool := (List.range n).all p

theorem allN_true {n : Nat} {p : Nat → Bool} (h : ∀ j, j < n → p j = true) : allN n p = true := by
  simp only [allN, List.all_eq_true, List.mem_range]; exact h

theorem allN_iff {n : Nat} {p : Nat → Bool} : allN n p = true ↔ ∀ j, j < n → p j = true := by simp [allN]

theorem allN_false {n k : Nat} {p : Nat → Bool} (hk : k < n) (h : p k = false) : allN n p = false := by
  cases e : allN n p with
  | false => rfl
  | true => rw [allN_iff] at e; rw [e k hk] at h; cases h

def finB (n : Int) : Bool := decide (-1000000 ≤ n) && decide (n ≤ 1000000)
def inB (n lo hi : Int) : Bool := decide (lo ≤ n) && decide (n ≤ hi)
/-- Two lists of one length, p holds place by place. -/
def both (p : Int → Int → Bool) (a b : List Int) : Bool := a.length == b.length && allN a.length fun j => p (a.getD j 0) (b.getD j 0)
def eqB (a b : List Int) : Bool := both (fun x y => x == y) a b
theorem both_yes {p : Int → Int → Bool} {a b : List Int} (hl : (a.length : Int) = (b.length : Int)) (h : ∀ j, j < a.length → p (a.getD j 0) (b.getD j 0) = true) : both p a b = true := by
  unfold both; rw [allN_true h]; simp; omega
theorem inB_true {n lo hi : Int} : inB n lo hi = true ↔ lo ≤ n ∧ n ≤ hi := by simp [inB]
theorem inB_false {n lo hi : Int} : inB n lo hi = false ↔ ¬ (lo ≤ n ∧ n ≤ hi) := by rw [← inB_true]; simp
theorem finB_true {n : Int} : finB n = true ↔ -1000000 ≤ n ∧ n ≤ 1000000 := by simp [finB]
theorem finB_false {n : Int} : finB n = false ↔ ¬ (-1000000 ≤ n ∧ n ≤ 1000000) := by rw [← finB_true]; simp

/-- What a loop has seen up to k holds up to k + 1. -/
theorem upto_succ {k : Nat} {P : Nat → Prop} (h : ∀ j, j < k → P j) (hk : P k) : ∀ j, j < k + 1 → P j := fun j hj => by
  rcases Nat.lt_or_ge j k with h1 | h1
  · exact h j h1
  · rw [show j = k by omega]; exact hk

theorem eqB_refl (a : List Int) : eqB a a = true := both_yes rfl fun _ _ => by simp

set_option linter.unusedSimpArgs false
set_option linter.unusedVariables false

/-- The least of the first k numbers, and 10^9. -/
def leastN (g : Nat → Int) : Nat → Int
  | 0 => 1000000000
  | k + 1 => if leastN g k < g k then leastN g k else g k
set_option linter.unusedSimpArgs false
set_option linter.unusedVariables false

/-- A list of n numbers. -/
def tab (n : Nat) (g : Nat → Int) : List Int := (List.range n).map g
@[simp] theorem tab_len (n : Nat) (g : Nat → Int) : (tab n g).length = n := by simp [tab]
def minL (l p : List Int) : List Int := tab l.length fun i => min (l.getD i 0) (p.getD i 0)
def maxL (h p : List Int) : List Int := tab h.length fun i => max (h.getD i 0) (p.getD i 0)
@[simp] theorem minL_len (l p : List Int) : (minL l p).length = l.length := tab_len _ _
@[simp] theorem maxL_len (h p : List Int) : (maxL h p).length = h.length := tab_len _ _
set_option linter.unusedSimpArgs false
set_option linter.unusedVariables false

set_option linter.unusedSimpArgs false
set_option linter.unusedVariables false

def pt (l : List Int) (i : Nat) : Int := if i < l.length then l.getD i 0 else 1000000000
def plusI (a b : Int) : Int := if a = 1000000000 ∨ b = 1000000000 then 1000000000 else a + b
def cv (p q : List Int) (m j : Nat) : Int := if j ≤ m then plusI (pt p j) (pt q (m - j)) else 1000000000
def prodL (p q : List Int) : List Int := tab (p.length + q.length - 1) fun m => leastN (cv p q m) (m + 1)
@[simp] theorem prodL_len (p q : List Int) : (prodL p q).length = p.length + q.length - 1 := tab_len _ _
end Go.Proofs.Ytpimjkhfookipaa
