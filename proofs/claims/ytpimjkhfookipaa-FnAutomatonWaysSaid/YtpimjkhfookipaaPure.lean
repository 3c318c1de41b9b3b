/- Plain functions on numbers and lists, and laws on them. No conditions. -/
namespace Go.Proofs.Ytpimjkhfookipaa
set_option linter.unusedSimpArgs false
set_option linter.unusedVariables false

/-- p holds of all numbers below n. -/
def allN (n : Nat) (p : Nat → Bool) : Bool := (List.range n).all p

theorem allN_true {n : Nat} {p : Nat → Bool} (h : ∀ j, j < n → p j = true) : allN n p = true := by
  simp only [allN, List.all_eq_true, List.mem_range]; exact h

theorem allN_iff {n : Nat} {p : Nat → Bool} : allN n p = true ↔ ∀ j, j < n → p j = true := by simp [allN]

theorem allN_false {n k : Nat} {p : Nat → Bool} (hk : k < n) (h : p k = false) : allN n p = false := by
  cases e : allN n p with
  | false => rfl
  | true => rw [allN_iff] at e; rw [e k hk] at h; cases h

def finB (n : Int) : Bool := decide (-1000000 ≤ n) && decide (n ≤ 1000000)
def numB (n : Int) : Bool := finB n || n == 1000000000
def inB (n lo hi : Int) : Bool := decide (lo ≤ n) && decide (n ≤ hi)
def numsB (l : List Int) : Bool := allN l.length fun j => numB (l.getD j 0)
theorem inB_true {n lo hi : Int} : inB n lo hi = true ↔ lo ≤ n ∧ n ≤ hi := by simp [inB]
theorem inB_false {n lo hi : Int} : inB n lo hi = false ↔ ¬ (lo ≤ n ∧ n ≤ hi) := by rw [← inB_true]; simp
theorem finB_true {n : Int} : finB n = true ↔ -1000000 ≤ n ∧ n ≤ 1000000 := by simp [finB]
theorem finB_false {n : Int} : finB n = false ↔ ¬ (-1000000 ≤ n ∧ n ≤ 1000000) := by rw [← finB_true]; simp

/-- What a loop has seen up to k holds up to k + 1. -/
theorem upto_succ {k : Nat} {P : Nat → Prop} (h : ∀ j, j < k → P j) (hk : P k) : ∀ j, j < k + 1 → P j := fun j hj => by
  rcases Nat.lt_or_ge j k with h1 | h1
  · exact h j h1
  · rw [show j = k by omega]; exact hk

theorem numB_fin {n : Int} (h : -1000000 ≤ n ∧ n ≤ 1000000) : numB n = true := by unfold numB; rw [finB_true.2 h]; rfl
theorem numB_not {n : Int} (h : ¬ (-1000000 ≤ n ∧ n ≤ 1000000)) : numB n = (n == 1000000000) := by unfold numB; rw [finB_false.2 h]; rfl
theorem numB_inf {n : Int} (h : n = 1000000000) : numB n = true := by subst h; rfl
set_option linter.unusedSimpArgs false
set_option linter.unusedVariables false

/-- The least of the first k numbers, and 10^9. -/
def leastN (g : Nat → Int) : Nat → Int
  | 0 => 1000000000
  | k + 1 => if leastN g k < g k then leastN g k else g k
theorem leastN_lt {g : Nat → Int} {k : Nat} (h : leastN g k < g k) : leastN g (k + 1) = leastN g k := by show (if leastN g k < g k then leastN g k else g k) = _; rw [if_pos h]
theorem leastN_ge {g : Nat → Int} {k : Nat} (h : g k ≤ leastN g k) : leastN g (k + 1) = g k := by show (if leastN g k < g k then leastN g k else g k) = _; rw [if_neg (by omega)]

theorem leastN_le (g : Nat → Int) : ∀ (n i : Nat), i < n → leastN g n ≤ g i
  | 0, _, h => by omega
  | n + 1, i, h => by
    show (if leastN g n < g n then leastN g n else g n) ≤ g i
    rcases Nat.lt_or_ge i n with h1 | h1
    · have := leastN_le g n i h1
      split <;> omega
    · rw [show i = n by omega]; split <;> omega

set_option linter.unusedSimpArgs false
set_option linter.unusedVariables false

/-- A list of n numbers. -/
def tab (n : Nat) (g : Nat → Int) : List Int := (List.range n).map g
@[simp] theorem tab_len (n : Nat) (g : Nat → Int) : (tab n g).length = n := by simp [tab]
theorem tab_get {n : Nat} {g : Nat → Int} {i : Nat} (h : i < n) : (tab n g).getD i 0 = g i := by simp [tab, h]

def minL (l p : List Int) : List Int := tab l.length fun i => min (l.getD i 0) (p.getD i 0)
def maxL (h p : List Int) : List Int := tab h.length fun i => max (h.getD i 0) (p.getD i 0)
@[simp] theorem minL_len (l p : List Int) : (minL l p).length = l.length := tab_len _ _
@[simp] theorem maxL_len (h p : List Int) : (maxL h p).length = h.length := tab_len _ _
set_option linter.unusedSimpArgs false
set_option linter.unusedVariables false

set_option linter.unusedSimpArgs false
set_option linter.unusedVariables false

def pt (l : List Int) (i : Nat) : Int := if i < l.length then l.getD i 0 else 1000000000
def plusI (a b : Int) : Int := if a = 1000000000 ∨ b = 1000000000 then 1000000000 else a + b
theorem plusI_a {a b : Int} (h : a = 1000000000) : plusI a b = 1000000000 := by unfold plusI; rw [if_pos (Or.inl h)]
theorem plusI_b {a b : Int} (h : b = 1000000000) : plusI a b = 1000000000 := by unfold plusI; rw [if_pos (Or.inr h)]
theorem plusI_ab {a b : Int} (h : ¬ a = 1000000000) (h2 : ¬ b = 1000000000) : plusI a b = a + b := by unfold plusI; rw [if_neg (by omega)]
def cv (p q : List Int) (m j : Nat) : Int := if j ≤ m then plusI (pt p j) (pt q (m - j)) else 1000000000
def prodL (p q : List Int) : List Int := tab (p.length + q.length - 1) fun m => leastN (cv p q m) (m + 1)
@[simp] theorem prodL_len (p q : List Int) : (prodL p q).length = p.length + q.length - 1 := tab_len _ _
/-- Cell m behind i rows and k places of row i. -/
def cell (p q : List Int) (m i k : Nat) : Int := leastN (cv p q m) (if i ≤ m ∧ m < i + k then i + 1 else i)

theorem leastN_inf (g : Nat → Int) : ∀ n, leastN g n ≤ 1000000000
  | 0 => by simp [leastN]
  | n + 1 => by
    have := leastN_inf g n
    show (if leastN g n < g n then leastN g n else g n) ≤ 1000000000
    split <;> omega
theorem leastN_min (g : Nat → Int) (n : Nat) : leastN g (n + 1) = min (leastN g n) (g n) := by
  show (if leastN g n < g n then leastN g n else g n) = _
  rw [Int.min_def]; split <;> split <;> omega

end Go.Proofs.Ytpimjkhfookipaa
