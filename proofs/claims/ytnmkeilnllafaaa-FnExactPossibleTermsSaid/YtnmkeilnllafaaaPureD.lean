/- Plain functions on terms, and laws on them. No conditions. -/
import Derived.Test.YtnmkeilnllafaaaPureC
namespace Go.Proofs.Ytnmkeilnllafaaa

theorem allN_succ (n : Nat) (p : Nat → Bool) : allN (n + 1) p = (allN n p && p n) := by simp [allN, List.range_succ]

def skipI (g : Nat → Int) (i : Nat) (j : Nat) : Int := if j < i then g j else g (j + 1)
def selB (n : Nat) (a b : Nat → Int) (i : Nat) : Bool := (a i != 1000000000) && allN n fun k => (k == i) || decide (a i ≤ b k)
def selL (n : Nat) (a b : Nat → Int) : Nat → List Int
  | 0 => []
  | m + 1 => if selB n a b m then selL n a b m ++ [(m : Int)] else selL n a b m
theorem selL_yes {n : Nat} {a b : Nat → Int} {m : Nat} (h : selB n a b m = true) : selL n a b (m + 1) = selL n a b m ++ [(m : Int)] := by show (if _ then _ else _) = _; rw [if_pos h]
theorem selL_no {n : Nat} {a b : Nat → Int} {m : Nat} (h : selB n a b m = false) : selL n a b (m + 1) = selL n a b m := by show (if _ then _ else _) = _; rw [if_neg (by rw [h]; simp)]
theorem selL_len (n : Nat) (a b : Nat → Int) : ∀ m, (selL n a b m).length ≤ m
  | 0 => by simp [selL]
  | m + 1 => by
    have := selL_len n a b m
    cases h : selB n a b m with
    | true => rw [selL_yes h]; simp; omega
    | false => rw [selL_no h]; omega
theorem selB_inf {n : Nat} {a b : Nat → Int} {i : Nat} (h : a i = 1000000000) : selB n a b i = false := by unfold selB; rw [h]; rfl
theorem selB_is {n : Nat} {a b : Nat → Int} {i : Nat} (h : ¬ a i = 1000000000) : selB n a b i = allN n fun k => (k == i) || decide (a i ≤ b k) := by unfold selB; rw [bne_iff_ne.2 h]; rfl

theorem le_leastN (g : Nat → Int) (x : Int) (hx : x ≤ 1000000000) : ∀ n, x ≤ leastN g n ↔ ∀ j, j < n → x ≤ g j
  | 0 => by simp [leastN, hx]
  | n + 1 => by
    have ih := le_leastN g x hx n
    show x ≤ (if leastN g n < g n then leastN g n else g n) ↔ _
    constructor
    · intro h j hj
      rcases Nat.lt_or_ge j n with h1 | h1
      · refine ih.1 ?_ j h1; split at h <;> omega
      · rw [show j = n by omega]; split at h <;> omega
    · intro h
      have h1 := ih.2 fun j hj => h j (by omega)
      have h2 := h n (by omega)
      split <;> omega

theorem sel_least {n : Nat} {a b : Nat → Int} {i : Nat} (hi : i < n) (hx : a i ≤ 1000000000) : (allN n fun k => (k == i) || decide (a i ≤ b k)) = decide (a i ≤ leastN (skipI b i) (n - 1)) := by
  have key : (allN n fun k => (k == i) || decide (a i ≤ b k)) = true ↔ a i ≤ leastN (skipI b i) (n - 1) := by
    rw [allN_iff, le_leastN _ _ hx]
    constructor
    · intro h j hj
      unfold skipI
      by_cases h1 : j < i
      · rw [if_pos h1]
        have := h j (by omega)
        simp only [Bool.or_eq_true, beq_iff_eq, decide_eq_true_eq] at this
        omega
      · rw [if_neg h1]
        have := h (j + 1) (by omega)
        simp only [Bool.or_eq_true, beq_iff_eq, decide_eq_true_eq] at this
        omega
    · intro h k hk
      simp only [Bool.or_eq_true, beq_iff_eq, decide_eq_true_eq]
      rcases Nat.lt_trichotomy k i with h1 | h1 | h1
      · right; have := h k (by omega); unfold skipI at this; rw [if_pos h1] at this; exact this
      · left; exact h1
      · right; have := h (k - 1) (by omega); unfold skipI at this; rw [if_neg (by omega), show k - 1 + 1 = k by omega] at this; exact this
  cases e : decide (a i ≤ leastN (skipI b i) (n - 1)) with
  | true => exact key.2 (of_decide_eq_true e)
  | false =>
    cases e2 : (allN n fun k => (k == i) || decide (a i ≤ b k)) with
    | false => rfl
    | true => exact absurd (key.1 e2) (of_decide_eq_false e)

theorem termL_le {l : List Int} {x : Int} (h : polyB l = true) (hx : -1000000 ≤ x ∧ x ≤ 1000000) {i : Nat} (hi : i < l.length) : termL l x i ≤ 1000000000 := by
  have h1 := polyB_len h
  have h3 := mul_bound (k := i) (x := x) (by omega) hx
  have h4 := numsB_get (polyB_nums h) hi
  unfold termL
  split
  · omega
  · simp only [numB, finB, Bool.or_eq_true, Bool.and_eq_true, decide_eq_true_eq, beq_iff_eq] at h4
    omega

def tR (ok : Bool) (u v : List Int) (x : Int) : List Int × Bool := if ok then (selL u.length (termL u x) (termL v x) u.length, true) else ([], false)
theorem tR_no {l h u v : List Int} {x : Int} (e : boundsB l h = false) : tR (boundsB l h && finB x) u v x = ([], false) := by unfold tR; rw [e]; rfl
theorem tR_nofin {l h u v : List Int} {x : Int} (e : finB x = false) : tR (boundsB l h && finB x) u v x = ([], false) := by unfold tR; rw [e, Bool.and_false]; rfl
theorem tR_yes {l h u v : List Int} {x : Int} (e : boundsB l h = true) (e2 : finB x = true) : tR (boundsB l h && finB x) u v x = (selL u.length (termL u x) (termL v x) u.length, true) := by unfold tR; rw [e, e2]; rfl

end Go.Proofs.Ytnmkeilnllafaaa
