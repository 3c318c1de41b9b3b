/- Plain functions on polynomials, and laws on them. No conditions. -/
import Derived.Test.YtpolbgenoicckaaPure
namespace Go.Proofs.Ytpolbgenoicckaa
set_option linter.unusedSimpArgs false
set_option linter.unusedVariables false

/-- A number below 14 times a finite number. -/
theorem mul_bound {k : Nat} {x : Int} (hk : k ≤ 13) (hx : -1000000 ≤ x ∧ x ≤ 1000000) : -13000000 ≤ (k : Int) * x ∧ (k : Int) * x ≤ 13000000 := by
  have : k = 0 ∨ k = 1 ∨ k = 2 ∨ k = 3 ∨ k = 4 ∨ k = 5 ∨ k = 6 ∨ k = 7 ∨ k = 8 ∨ k = 9 ∨ k = 10 ∨ k = 11 ∨ k = 12 ∨ k = 13 := by omega
  rcases this with rfl | rfl | rfl | rfl | rfl | rfl | rfl | rfl | rfl | rfl | rfl | rfl | rfl | rfl <;> omega

theorem nums_le {l : List Int} (h : numsB l = true) (k : Nat) : -1000000 ≤ l.getD k 0 ∧ l.getD k 0 ≤ 1000000000 := by
  rcases Nat.lt_or_ge k l.length with h1 | h1
  · exact numB_le (numsB_get h h1)
  · have : l.getD k 0 = 0 := by simp [List.getD, h1]
    rw [this]; omega

/-- The value at x of the term with exponent i. -/
def termL (l : List Int) (x : Int) (i : Nat) : Int := if l.getD i 0 = 1000000000 then 1000000000 else l.getD i 0 + i * x
theorem termL_inf {l : List Int} {x : Int} {i : Nat} (h : l.getD i 0 = 1000000000) : termL l x i = 1000000000 := by unfold termL; rw [if_pos h]
theorem termL_fin {l : List Int} {x : Int} {i : Nat} (h : ¬ l.getD i 0 = 1000000000) : termL l x i = l.getD i 0 + i * x := by unfold termL; rw [if_neg h]

/-- The least of the first k numbers, and 10^9. -/
def leastN (g : Nat → Int) : Nat → Int
  | 0 => 1000000000
  | k + 1 => if leastN g k < g k then leastN g k else g k
theorem leastN_lt {g : Nat → Int} {k : Nat} (h : leastN g k < g k) : leastN g (k + 1) = leastN g k := by show (if leastN g k < g k then leastN g k else g k) = _; rw [if_pos h]
theorem leastN_ge {g : Nat → Int} {k : Nat} (h : g k ≤ leastN g k) : leastN g (k + 1) = g k := by show (if leastN g k < g k then leastN g k else g k) = _; rw [if_neg (by omega)]

/-- The value of a polynomial at x, and whether it is told. -/
def valR (l : List Int) (x : Int) : Int × Bool := if polyB l && finB x && numB (leastN (termL l x) l.length) then (leastN (termL l x) l.length, true) else (0, false)
theorem valR_no {l : List Int} {x : Int} (h : polyB l = false) : valR l x = (0, false) := by unfold valR; rw [h]; rfl
theorem valR_nofin {l : List Int} {x : Int} (h : finB x = false) : valR l x = (0, false) := by unfold valR; rw [h]; simp
theorem valR_is {l : List Int} {x : Int} (h : polyB l = true) (h2 : finB x = true) : valR l x = (if numB (leastN (termL l x) l.length) then (leastN (termL l x) l.length, true) else (0, false)) := by unfold valR; rw [h, h2]; rfl

def toldR (n : Int) : Int × Bool := if numB n then (n, true) else (0, false)

theorem leastN_le (g : Nat → Int) : ∀ (n i : Nat), i < n → leastN g n ≤ g i
  | 0, _, h => by omega
  | n + 1, i, h => by
    show (if leastN g n < g n then leastN g n else g n) ≤ g i
    rcases Nat.lt_or_ge i n with h1 | h1
    · have := leastN_le g n i h1
      split <;> omega
    · rw [show i = n by omega]; split <;> omega

theorem polyB_last {l : List Int} (h : polyB l = true) : l.getD (l.length - 1) 0 ≠ 1000000000 := by
  unfold polyB at h
  simp only [Bool.and_eq_true, bne_iff_ne] at h
  exact h.2

theorem least_small {l : List Int} {x : Int} (h : polyB l = true) (hx : -1000000 ≤ x ∧ x ≤ 1000000) : leastN (termL l x) l.length < 1000000000 := by
  have h1 := polyB_len h
  have h2 := leastN_le (termL l x) l.length (l.length - 1) (by omega)
  rw [termL_fin (polyB_last h)] at h2
  have h3 := mul_bound (k := l.length - 1) (x := x) (by omega) hx
  have h4 := numsB_get (polyB_nums h) (j := l.length - 1) (by omega)
  have h5 := polyB_last h
  simp only [numB, finB, Bool.or_eq_true, Bool.and_eq_true, decide_eq_true_eq, beq_iff_eq] at h4
  omega

/-- Is the value of l at x asked? -/
def askedB (l : List Int) (x : Int) : Bool := polyB l && finB x && finB (leastN (termL l x) l.length)
theorem askedB_val (l : List Int) (x : Int) : (valR l x).2 = askedB l x := by
  unfold askedB
  cases h1 : polyB l with
  | false => rw [valR_no h1]; rfl
  | true =>
    cases h2 : finB x with
    | false => rw [valR_nofin h2]; rfl
    | true =>
      rw [valR_is h1 h2]
      have h3 := least_small h1 (finB_true.1 h2)
      have h4 : numB (leastN (termL l x) l.length) = finB (leastN (termL l x) l.length) := by
        unfold numB; rw [beq_eq_false_iff_ne.2 (by omega)]; simp
      rw [h4]
      cases finB (leastN (termL l x) l.length) <;> rfl
theorem askedB_true {l : List Int} {x : Int} (h : askedB l x = true) : (valR l x).1 = leastN (termL l x) l.length := by
  have h0 := askedB_val l x
  rw [h] at h0
  unfold valR at h0 ⊢
  split at h0
  · rename_i hc; rw [if_pos hc]
  · cases h0
theorem askedB_of {l : List Int} {x : Int} (h1 : polyB l = true) (h2 : finB x = true) : askedB l x = finB (leastN (termL l x) l.length) := by unfold askedB; rw [h1, h2]; rfl
theorem askedB_poly {l : List Int} {x : Int} (h : askedB l x = true) : polyB l = true ∧ finB x = true := by
  unfold askedB at h; simp only [Bool.and_eq_true] at h; exact h.1

def bAtR (l h : List Int) (x : Int) : Int × Int × Bool := if boundsB l h && (valR l x).2 && (valR h x).2 then ((valR l x).1, (valR h x).1, true) else (0, 0, false)
theorem bAtR_no {l h : List Int} {x : Int} (e : boundsB l h = false) : bAtR l h x = (0, 0, false) := by unfold bAtR; rw [e]; rfl
theorem bAtR_no1 {l h : List Int} {x : Int} (e : (valR l x).2 = false) : bAtR l h x = (0, 0, false) := by unfold bAtR; rw [e, Bool.and_false]; rfl
theorem bAtR_no2 {l h : List Int} {x : Int} (e : (valR h x).2 = false) : bAtR l h x = (0, 0, false) := by unfold bAtR; rw [e, Bool.and_false]; rfl
theorem bAtR_yes {l h : List Int} {x : Int} (e : boundsB l h = true) (e1 : (valR l x).2 = true) (e2 : (valR h x).2 = true) : bAtR l h x = ((valR l x).1, (valR h x).1, true) := by unfold bAtR; rw [e, e1, e2]; rfl

end Go.Proofs.Ytpolbgenoicckaa
