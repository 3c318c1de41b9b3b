/- Plain functions on products of polynomials, and laws on them. No conditions. -/
import Derived.Test.YtpolbgenoicckaaPureC
namespace Go.Proofs.Ytpolbgenoicckaa
set_option linter.unusedSimpArgs false
set_option linter.unusedVariables false

def pt (l : List Int) (i : Nat) : Int := if i < l.length then l.getD i 0 else 1000000000
theorem pt_in {l : List Int} {i : Nat} (h : i < l.length) : pt l i = l.getD i 0 := by unfold pt; rw [if_pos h]
theorem pt_out {l : List Int} {i : Nat} (h : l.length ≤ i) : pt l i = 1000000000 := by unfold pt; rw [if_neg (by omega)]
def plusI (a b : Int) : Int := if a = 1000000000 ∨ b = 1000000000 then 1000000000 else a + b
theorem plusI_a {a b : Int} (h : a = 1000000000) : plusI a b = 1000000000 := by unfold plusI; rw [if_pos (Or.inl h)]
theorem plusI_b {a b : Int} (h : b = 1000000000) : plusI a b = 1000000000 := by unfold plusI; rw [if_pos (Or.inr h)]
theorem plusI_ab {a b : Int} (h : ¬ a = 1000000000) (h2 : ¬ b = 1000000000) : plusI a b = a + b := by unfold plusI; rw [if_neg (by omega)]
def cv (p q : List Int) (m j : Nat) : Int := if j ≤ m then plusI (pt p j) (pt q (m - j)) else 1000000000
def prodL (p q : List Int) : List Int := tab (p.length + q.length - 1) fun m => leastN (cv p q m) (m + 1)
@[simp] theorem prodL_len (p q : List Int) : (prodL p q).length = p.length + q.length - 1 := tab_len _ _
theorem prodL_get {p q : List Int} {m : Nat} (h : m < p.length + q.length - 1) : (prodL p q).getD m 0 = leastN (cv p q m) (m + 1) := tab_get h
/-- Cell m behind i rows and k places of row i. -/
def cell (p q : List Int) (m i k : Nat) : Int := leastN (cv p q m) (if i ≤ m ∧ m < i + k then i + 1 else i)

theorem leastN_inf (g : Nat → Int) : ∀ n, leastN g n ≤ 1000000000
  | 0 => by simp [leastN]
  | n + 1 => by
    have := leastN_inf g n
    show (if leastN g n < g n then leastN g n else g n) ≤ 1000000000
    split <;> omega
theorem leastN_more (g : Nat → Int) (n : Nat) : ∀ d, (∀ j, n ≤ j → j < n + d → g j = 1000000000) → leastN g (n + d) = leastN g n
  | 0, _ => rfl
  | d + 1, h => by
    have ih := leastN_more g n d fun j h1 h2 => h j h1 (by omega)
    have h1 := h (n + d) (by omega) (by omega)
    have h2 := leastN_inf g n
    show (if leastN g (n + d) < g (n + d) then leastN g (n + d) else g (n + d)) = _
    rw [ih, h1]
    split <;> omega
theorem leastN_to (g : Nat → Int) {n n' : Nat} (hn : n ≤ n') (h : ∀ j, n ≤ j → j < n' → g j = 1000000000) : leastN g n' = leastN g n := by
  obtain ⟨d, rfl⟩ := Nat.le.dest hn
  exact leastN_more g n d h
theorem leastN_min (g : Nat → Int) (n : Nat) : leastN g (n + 1) = min (leastN g n) (g n) := by
  show (if leastN g n < g n then leastN g n else g n) = _
  rw [Int.min_def]; split <;> split <;> omega

theorem cell_first (p q : List Int) (m : Nat) : cell p q m 0 0 = 1000000000 := by unfold cell; rw [if_neg (by omega)]; rfl
theorem cell_step (p q : List Int) (i k : Nat) (hi : i < p.length) (hk : k < q.length) : cell p q (i + k) i (k + 1) = min (cell p q (i + k) i k) (plusI (p.getD i 0) (q.getD k 0)) := by
  unfold cell
  rw [if_pos (by omega), if_neg (by omega), leastN_min]
  unfold cv
  rw [if_pos (by omega), pt_in hi, show i + k - i = k by omega, pt_in hk]
theorem cell_else (p q : List Int) (m i k : Nat) (h : ¬ m = i + k) : cell p q m i (k + 1) = cell p q m i k := by
  unfold cell
  by_cases h1 : i ≤ m ∧ m < i + k
  · rw [if_pos h1, if_pos (by omega)]
  · rw [if_neg h1, if_neg (by omega)]
theorem cell_row (p q : List Int) (m i : Nat) : cell p q m i q.length = cell p q m (i + 1) 0 := by
  unfold cell
  rw [if_neg (show ¬ (i + 1 ≤ m ∧ m < i + 1 + 0) by omega)]
  by_cases h1 : i ≤ m ∧ m < i + q.length
  · rw [if_pos h1]
  · rw [if_neg h1]
    refine (leastN_to _ (by omega) fun j h2 h3 => ?_).symm
    obtain rfl : j = i := by omega
    unfold cv
    by_cases h4 : j ≤ m
    · rw [if_pos h4]; exact plusI_b (pt_out (by omega))
    · rw [if_neg h4]
theorem cell_done (p q : List Int) (m : Nat) : cell p q m p.length 0 = leastN (cv p q m) (m + 1) := by
  unfold cell
  rw [if_neg (by omega)]
  rcases Nat.le_total p.length (m + 1) with h | h
  · refine (leastN_to _ h fun j h2 h3 => ?_).symm
    unfold cv; rw [if_pos (by omega)]; exact plusI_a (pt_out h2)
  · refine leastN_to _ h fun j h2 h3 => ?_
    unfold cv; rw [if_neg (by omega)]

def prodR (p q : List Int) : List Int × Bool := if polyB (prodL p q) then (prodL p q, true) else ([], false)
theorem prodR_yes {p q : List Int} (h : polyB (prodL p q) = true) : prodR p q = (prodL p q, true) := by unfold prodR; rw [if_pos h]
theorem prodR_no {p q : List Int} (h : polyB (prodL p q) = false) : prodR p q = ([], false) := by unfold prodR; rw [if_neg (by rw [h]; simp)]
theorem prodR_len (p q : List Int) : (prodR p q).1.length ≤ p.length + q.length := by unfold prodR; split <;> simp <;> omega

def pbR (a b c d : List Int) : List Int × List Int × Bool := if boundsB a b && boundsB c d && (prodR a c).2 && (prodR b d).2 then ((prodR a c).1, (prodR b d).1, true) else ([], [], false)
theorem pbR_no1 {a b c d : List Int} (h : boundsB a b = false) : pbR a b c d = ([], [], false) := by unfold pbR; rw [h]; rfl
theorem pbR_no2 {a b c d : List Int} (h : boundsB c d = false) : pbR a b c d = ([], [], false) := by unfold pbR; rw [h, Bool.and_false]; rfl
theorem pbR_no3 {a b c d : List Int} (h : (prodR a c).2 = false) : pbR a b c d = ([], [], false) := by unfold pbR; rw [h, Bool.and_false]; rfl
theorem pbR_no4 {a b c d : List Int} (h : (prodR b d).2 = false) : pbR a b c d = ([], [], false) := by unfold pbR; rw [h, Bool.and_false]; rfl
theorem pbR_yes {a b c d : List Int} (h1 : boundsB a b = true) (h2 : boundsB c d = true) (h3 : (prodR a c).2 = true) (h4 : (prodR b d).2 = true) : pbR a b c d = ((prodR a c).1, (prodR b d).1, true) := by unfold pbR; rw [h1, h2, h3, h4]; rfl

end Go.Proofs.Ytpolbgenoicckaa
