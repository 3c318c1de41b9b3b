/- Plain functions on numbers and lists, and laws on them. No conditions. -/
namespace Go.Proofs.Yteapdildbfimnaa
set_option linter.unusedSimpArgs false
set_option linter.unusedVariables false

/-- p holds of all numbers below n. -/
def allN (n : Nat) (p : Nat → Bool) : Bool := (List.range n).all p

theorem allN_true {n : Nat} {p : Nat → Bool} (h : ∀ j, j < n → p j = true) : allN n p = true := by
  simp only [allN, List.all_eq_true, List.mem_range]; exact h

theorem allN_iff {n : Nat} {p : Nat → Bool} : allN n p = true ↔ ∀ j, j < n → p j = true := by simp [allN]

theorem allN_false {n k : Nat} {p : Nat → Bool} (hk : k < n) (h : p k = false) : allN n p = false := by
  cases e : allN n p with
  | false => rfl
  | true => rw [allN_iff] at e; rw [e k hk] at h; cases h

theorem allN_congr {n : Nat} {p q : Nat → Bool} (h : ∀ j, j < n → p j = q j) : allN n p = allN n q := by
  cases e : allN n q with
  | true => rw [allN_iff] at e; exact allN_true fun j hj => by rw [h j hj, e j hj]
  | false =>
    cases e' : allN n p with
    | false => rfl
    | true => rw [allN_iff] at e'; rw [← e]; exact (allN_true fun j hj => by rw [← h j hj, e' j hj]).symm

def finB (n : Int) : Bool := decide (-1000000 ≤ n) && decide (n ≤ 1000000)
def numB (n : Int) : Bool := finB n || n == 1000000000
def inB (n lo hi : Int) : Bool := decide (lo ≤ n) && decide (n ≤ hi)
def numsB (l : List Int) : Bool := allN l.length fun j => numB (l.getD j 0)
def polyB (l : List Int) : Bool := inB l.length 1 13 && numsB l && (l.getD (l.length - 1) 0 != 1000000000)
theorem polyB_no {l : List Int} (h : numsB l = false) : polyB l = false := by simp [polyB, h]
def okP (x y : Int) : Bool := !(decide (x > y) || ((x == 1000000000) != (y == 1000000000)))
def okO (x y : Int) : Bool := !(decide (x > y) || ((x != y) && (y == 1000000000)))
/-- Two lists of one length, p holds place by place. -/
def both (p : Int → Int → Bool) (a b : List Int) : Bool := a.length == b.length && allN a.length fun j => p (a.getD j 0) (b.getD j 0)
def eqB (a b : List Int) : Bool := both (fun x y => x == y) a b
def pairB (a b : List Int) : Bool := both okP a b
def ordB (a b : List Int) : Bool := both okO a b
theorem both_len {p : Int → Int → Bool} {a b : List Int} (h : ¬ (a.length : Int) = (b.length : Int)) : both p a b = false := by
  unfold both
  have : (a.length == b.length) = false := by simp; omega
  rw [this]; rfl
theorem both_no {p : Int → Int → Bool} {a b : List Int} {k : Nat} (hk : k < a.length) (h : p (a.getD k 0) (b.getD k 0) = false) : both p a b = false := by
  unfold both; rw [allN_false hk h, Bool.and_false]
theorem both_yes {p : Int → Int → Bool} {a b : List Int} (hl : (a.length : Int) = (b.length : Int)) (h : ∀ j, j < a.length → p (a.getD j 0) (b.getD j 0) = true) : both p a b = true := by
  unfold both; rw [allN_true h]; simp; omega
def boundsB (a b : List Int) : Bool := polyB a && polyB b && pairB a b

theorem inB_true {n lo hi : Int} : inB n lo hi = true ↔ lo ≤ n ∧ n ≤ hi := by simp [inB]
theorem inB_false {n lo hi : Int} : inB n lo hi = false ↔ ¬ (lo ≤ n ∧ n ≤ hi) := by rw [← inB_true]; simp
theorem finB_true {n : Int} : finB n = true ↔ -1000000 ≤ n ∧ n ≤ 1000000 := by simp [finB]
theorem finB_false {n : Int} : finB n = false ↔ ¬ (-1000000 ≤ n ∧ n ≤ 1000000) := by rw [← finB_true]; simp

theorem polyB_in {l : List Int} (h : ¬ (1 ≤ (l.length : Int) ∧ (l.length : Int) ≤ 13)) : polyB l = false := by unfold polyB; rw [inB_false.2 h]; rfl
theorem polyB_is {l : List Int} (h : 1 ≤ (l.length : Int) ∧ (l.length : Int) ≤ 13) (h2 : numsB l = true) : polyB l = (l.getD ((l.length : Int) - 1).toNat 0 != 1000000000) := by
  unfold polyB; rw [inB_true.2 h, h2, show ((l.length : Int) - 1).toNat = l.length - 1 by omega]; rfl
theorem polyB_len {l : List Int} (h : polyB l = true) : 1 ≤ l.length ∧ l.length ≤ 13 := by
  by_cases hh : 1 ≤ (l.length : Int) ∧ (l.length : Int) ≤ 13
  · omega
  · rw [polyB_in hh] at h; cases h
theorem polyB_nums {l : List Int} (h : polyB l = true) : numsB l = true := by
  cases e : numsB l with
  | true => rfl
  | false => rw [polyB_no e] at h; cases h

/-- What a loop has seen up to k holds up to k + 1. -/
theorem upto_succ {k : Nat} {P : Nat → Prop} (h : ∀ j, j < k → P j) (hk : P k) : ∀ j, j < k + 1 → P j := fun j hj => by
  rcases Nat.lt_or_ge j k with h1 | h1
  · exact h j h1
  · rw [show j = k by omega]; exact hk

theorem eqB_refl (a : List Int) : eqB a a = true := both_yes rfl fun _ _ => by simp

theorem numB_fin {n : Int} (h : -1000000 ≤ n ∧ n ≤ 1000000) : numB n = true := by unfold numB; rw [finB_true.2 h]; rfl
theorem numB_not {n : Int} (h : ¬ (-1000000 ≤ n ∧ n ≤ 1000000)) : numB n = (n == 1000000000) := by unfold numB; rw [finB_false.2 h]; rfl
theorem numB_inf {n : Int} (h : n = 1000000000) : numB n = true := by subst h; rfl
theorem numB_in {n : Int} (h : ¬ n = 1000000000) : numB n = inB n (-1000000) 1000000 := by unfold numB finB inB; rw [beq_eq_false_iff_ne.2 h]; simp
theorem numB_le {n : Int} (h : numB n = true) : -1000000 ≤ n ∧ n ≤ 1000000000 := by
  simp [numB, finB] at h; omega

theorem numsB_get {l : List Int} (h : numsB l = true) {j : Nat} (hj : j < l.length) : numB (l.getD j 0) = true := allN_iff.1 h j hj

theorem okP_gt {x y : Int} (h : y < x) : okP x y = false := by simp [okP, h]
theorem okP_ne {x y : Int} (h : ¬ (x == 1000000000) = (y == 1000000000)) : okP x y = false := by
  unfold okP; rw [bne_iff_ne.2 h]; simp
theorem okP_ok {x y : Int} (h : x ≤ y) (h2 : (x == 1000000000) = (y == 1000000000)) : okP x y = true := by
  unfold okP; rw [bne_eq_false_iff_eq.2 h2]; simp; omega
theorem okO_gt {x y : Int} (h : y < x) : okO x y = false := by simp [okO, h]
theorem okO_ne {x y : Int} (h : ¬ x = y) (h2 : y = 1000000000) : okO x y = false := by
  unfold okO; rw [bne_iff_ne.2 h, beq_iff_eq.2 h2]; simp
theorem okO_eq {x y : Int} (h : x ≤ y) (h2 : x = y) : okO x y = true := by subst h2; simp [okO]
theorem okO_ok {x y : Int} (h : x ≤ y) (h2 : ¬ y = 1000000000) : okO x y = true := by
  unfold okO; rw [beq_eq_false_iff_ne.2 h2]; simp; omega

theorem ordB_pairB {a b : List Int} (ha : numsB a = true) (hb : numsB b = true) : ordB a b = pairB a b := by
  unfold ordB pairB both
  by_cases hl : a.length = b.length
  · congr 1
    refine allN_congr fun j hj => ?_
    have h1 := numB_le (numsB_get ha hj)
    have h2 := numB_le (numsB_get hb (j := j) (by omega))
    generalize a.getD j 0 = x at *
    generalize b.getD j 0 = y at *
    clear ha hb hl hj
    unfold okO okP
    cases h1 : decide (x > y) <;> cases h2 : x == 1000000000 <;> cases h3 : y == 1000000000 <;> cases h4 : x != y <;> first | rfl | (exfalso; simp at h1 h2 h3 h4; omega)
  · have : (a.length == b.length) = false := by simpa using hl
    rw [this]; rfl

theorem boundsB_parts {a b : List Int} (h : boundsB a b = true) : polyB a = true ∧ polyB b = true ∧ a.length = b.length := by
  unfold boundsB at h
  simp only [Bool.and_eq_true] at h
  refine ⟨h.1.1, h.1.2, ?_⟩
  have h2 := h.2
  unfold pairB both at h2
  simp only [Bool.and_eq_true, beq_iff_eq] at h2
  exact h2.1
theorem boundsB_len {a b : List Int} (h : boundsB a b = true) : a.length = b.length ∧ 1 ≤ a.length ∧ a.length ≤ 13 :=
  ⟨(boundsB_parts h).2.2, polyB_len (boundsB_parts h).1⟩
theorem boundsB_num {a b : List Int} (h : boundsB a b = true) {k : Nat} (hk : k < a.length) : -1000000 ≤ a.getD k 0 ∧ a.getD k 0 ≤ 1000000000 ∧ -1000000 ≤ b.getD k 0 ∧ b.getD k 0 ≤ 1000000000 := by
  have h1 := numB_le (numsB_get (polyB_nums (boundsB_parts h).1) hk)
  have h2 := numB_le (numsB_get (polyB_nums (boundsB_parts h).2.1) (j := k) (by have := (boundsB_parts h).2.2; omega))
  omega
def withinB (l h p : List Int) : Bool := boundsB l h && polyB p && (p.length == l.length) && allN p.length fun j => inB (p.getD j 0) (l.getD j 0) (h.getD j 0)
theorem withinB_no {l h p : List Int} {k : Nat} (hk : k < p.length) (e : inB (p.getD k 0) (l.getD k 0) (h.getD k 0) = false) : withinB l h p = false := by
  unfold withinB; rw [allN_false hk e, Bool.and_false]
theorem withinB_len {l h p : List Int} (e : ¬ (p.length : Int) = (l.length : Int)) : withinB l h p = false := by
  have : (p.length == l.length) = false := by simp; omega
  unfold withinB; rw [this]; simp
theorem withinB_yes {l h p : List Int} (h1 : boundsB l h = true) (h2 : polyB p = true) (h3 : (p.length : Int) = (l.length : Int)) (e : ∀ j, j < p.length → inB (p.getD j 0) (l.getD j 0) (h.getD j 0) = true) : withinB l h p = true := by
  have : (p.length == l.length) = true := by simp; omega
  unfold withinB; rw [h1, h2, this, allN_true e]; rfl

def widStep (l h : List Int) (k : Nat) (s : Int × Int) : Int × Int := if l.getD k 0 ≠ 1000000000 ∧ h.getD k 0 - l.getD k 0 > s.2 then ((k : Int), h.getD k 0 - l.getD k 0) else s
def wid (l h : List Int) : Nat → Int × Int
  | 0 => (0, -1)
  | k + 1 => widStep l h k (wid l h k)
def widR (l h : List Int) : Int × Int × Bool := if boundsB l h && numB (wid l h l.length).2 then ((wid l h l.length).1, (wid l h l.length).2, true) else (0, 0, false)
theorem wid_yes {l h : List Int} {k : Nat} (h1 : ¬ l.getD k 0 = 1000000000) (h2 : (wid l h k).2 < h.getD k 0 - l.getD k 0) : wid l h (k + 1) = ((k : Int), h.getD k 0 - l.getD k 0) := by
  show widStep l h k (wid l h k) = _; unfold widStep; rw [if_pos ⟨h1, h2⟩]
theorem wid_no {l h : List Int} {k : Nat} (h2 : h.getD k 0 - l.getD k 0 ≤ (wid l h k).2) : wid l h (k + 1) = wid l h k := by
  show widStep l h k (wid l h k) = _; unfold widStep; rw [if_neg (by omega)]
theorem wid_inf {l h : List Int} {k : Nat} (h1 : l.getD k 0 = 1000000000) : wid l h (k + 1) = wid l h k := by
  show widStep l h k (wid l h k) = _; unfold widStep; rw [if_neg (by omega)]
theorem widR_no {l h : List Int} (e : boundsB l h = false) : widR l h = (0, 0, false) := by unfold widR; rw [e]; rfl
theorem widR_num {l h : List Int} (e : numB (wid l h l.length).2 = false) : widR l h = (0, 0, false) := by unfold widR; rw [e, Bool.and_false]; rfl
theorem widR_yes {l h : List Int} (e : boundsB l h = true) (e2 : numB (wid l h l.length).2 = true) : widR l h = ((wid l h l.length).1, (wid l h l.length).2, true) := by unfold widR; rw [e, e2]; rfl

set_option linter.unusedSimpArgs false
set_option linter.unusedVariables false

/-- A number below 14 times a finite number. -/
theorem mul_bound {k : Nat} {x : Int} (hk : k ≤ 13) (hx : -1000000 ≤ x ∧ x ≤ 1000000) : -13000000 ≤ (k : Int) * x ∧ (k : Int) * x ≤ 13000000 := by
  have : k = 0 ∨ k = 1 ∨ k = 2 ∨ k = 3 ∨ k = 4 ∨ k = 5 ∨ k = 6 ∨ k = 7 ∨ k = 8 ∨ k = 9 ∨ k = 10 ∨ k = 11 ∨ k = 12 ∨ k = 13 := by omega
  rcases this with rfl | rfl | rfl | rfl | rfl | rfl | rfl | rfl | rfl | rfl | rfl | rfl | rfl | rfl <;> omega

theorem nums_le {l : List Int} (h : numsB l = true) (k : Nat) : -1000000 ≤ l.getD k 0 ∧ l.getD k 0 ≤ 1000000000 := by
  rcases Nat.lt_or_ge k l.length with h1 | h1
  · exact numB_le (numsB_get h h1)
  · have : l.getD k 0 = 0 := by simp [List.getD, h1]
    rw [this]; omega

/-- The value at x of the term with exponent i. -/
def termL (l : List Int) (x : Int) (i : Nat) : Int := if l.getD i 0 = 1000000000 then 1000000000 else l.getD i 0 + i * x
theorem termL_inf {l : List Int} {x : Int} {i : Nat} (h : l.getD i 0 = 1000000000) : termL l x i = 1000000000 := by unfold termL; rw [if_pos h]
theorem termL_fin {l : List Int} {x : Int} {i : Nat} (h : ¬ l.getD i 0 = 1000000000) : termL l x i = l.getD i 0 + i * x := by unfold termL; rw [if_neg h]

/-- The least of the first k numbers, and 10^9. -/
def leastN (g : Nat → Int) : Nat → Int
  | 0 => 1000000000
  | k + 1 => if leastN g k < g k then leastN g k else g k
theorem leastN_lt {g : Nat → Int} {k : Nat} (h : leastN g k < g k) : leastN g (k + 1) = leastN g k := by show (if leastN g k < g k then leastN g k else g k) = _; rw [if_pos h]
theorem leastN_ge {g : Nat → Int} {k : Nat} (h : g k ≤ leastN g k) : leastN g (k + 1) = g k := by show (if leastN g k < g k then leastN g k else g k) = _; rw [if_neg (by omega)]

/-- The value of a polynomial at x, and whether it is told. -/
def valR (l : List Int) (x : Int) : Int × Bool := if polyB l && finB x && numB (leastN (termL l x) l.length) then (leastN (termL l x) l.length, true) else (0, false)
theorem valR_no {l : List Int} {x : Int} (h : polyB l = false) : valR l x = (0, false) := by unfold valR; rw [h]; rfl
theorem valR_nofin {l : List Int} {x : Int} (h : finB x = false) : valR l x = (0, false) := by unfold valR; rw [h]; simp
theorem valR_is {l : List Int} {x : Int} (h : polyB l = true) (h2 : finB x = true) : valR l x = (if numB (leastN (termL l x) l.length) then (leastN (termL l x) l.length, true) else (0, false)) := by unfold valR; rw [h, h2]; rfl

def toldR (n : Int) : Int × Bool := if numB n then (n, true) else (0, false)

theorem leastN_le (g : Nat → Int) : ∀ (n i : Nat), i < n → leastN g n ≤ g i
  | 0, _, h => by omega
  | n + 1, i, h => by
    show (if leastN g n < g n then leastN g n else g n) ≤ g i
    rcases Nat.lt_or_ge i n with h1 | h1
    · have := leastN_le g n i h1
      split <;> omega
    · rw [show i = n by omega]; split <;> omega

theorem polyB_last {l : List Int} (h : polyB l = true) : l.getD (l.length - 1) 0 ≠ 1000000000 := by
  unfold polyB at h
  simp only [Bool.and_eq_true, bne_iff_ne] at h
  exact h.2

theorem least_small {l : List Int} {x : Int} (h : polyB l = true) (hx : -1000000 ≤ x ∧ x ≤ 1000000) : leastN (termL l x) l.length < 1000000000 := by
  have h1 := polyB_len h
  have h2 := leastN_le (termL l x) l.length (l.length - 1) (by omega)
  rw [termL_fin (polyB_last h)] at h2
  have h3 := mul_bound (k := l.length - 1) (x := x) (by omega) hx
  have h4 := numsB_get (polyB_nums h) (j := l.length - 1) (by omega)
  have h5 := polyB_last h
  simp only [numB, finB, Bool.or_eq_true, Bool.and_eq_true, decide_eq_true_eq, beq_iff_eq] at h4
  omega

/-- Is the value of l at x asked? -/
def askedB (l : List Int) (x : Int) : Bool := polyB l && finB x && finB (leastN (termL l x) l.length)
theorem askedB_val (l : List Int) (x : Int) : (valR l x).2 = askedB l x := by
  unfold askedB
  cases h1 : polyB l with
  | false => rw [valR_no h1]; rfl
  | true =>
    cases h2 : finB x with
    | false => rw [valR_nofin h2]; rfl
    | true =>
      rw [valR_is h1 h2]
      have h3 := least_small h1 (finB_true.1 h2)
      have h4 : numB (leastN (termL l x) l.length) = finB (leastN (termL l x) l.length) := by
        unfold numB; rw [beq_eq_false_iff_ne.2 (by omega)]; simp
      rw [h4]
      cases finB (leastN (termL l x) l.length) <;> rfl
theorem askedB_true {l : List Int} {x : Int} (h : askedB l x = true) : (valR l x).1 = leastN (termL l x) l.length := by
  have h0 := askedB_val l x
  rw [h] at h0
  unfold valR at h0 ⊢
  split at h0
  · rename_i hc; rw [if_pos hc]
  · cases h0
theorem askedB_of {l : List Int} {x : Int} (h1 : polyB l = true) (h2 : finB x = true) : askedB l x = finB (leastN (termL l x) l.length) := by unfold askedB; rw [h1, h2]; rfl
theorem askedB_poly {l : List Int} {x : Int} (h : askedB l x = true) : polyB l = true ∧ finB x = true := by
  unfold askedB at h; simp only [Bool.and_eq_true] at h; exact h.1

def bAtR (l h : List Int) (x : Int) : Int × Int × Bool := if boundsB l h && (valR l x).2 && (valR h x).2 then ((valR l x).1, (valR h x).1, true) else (0, 0, false)
theorem bAtR_no {l h : List Int} {x : Int} (e : boundsB l h = false) : bAtR l h x = (0, 0, false) := by unfold bAtR; rw [e]; rfl
theorem bAtR_no1 {l h : List Int} {x : Int} (e : (valR l x).2 = false) : bAtR l h x = (0, 0, false) := by unfold bAtR; rw [e, Bool.and_false]; rfl
theorem bAtR_no2 {l h : List Int} {x : Int} (e : (valR h x).2 = false) : bAtR l h x = (0, 0, false) := by unfold bAtR; rw [e, Bool.and_false]; rfl
theorem bAtR_yes {l h : List Int} {x : Int} (e : boundsB l h = true) (e1 : (valR l x).2 = true) (e2 : (valR h x).2 = true) : bAtR l h x = ((valR l x).1, (valR h x).1, true) := by unfold bAtR; rw [e, e1, e2]; rfl

set_option linter.unusedSimpArgs false
set_option linter.unusedVariables false

/-- A list of n numbers. -/
def tab (n : Nat) (g : Nat → Int) : List Int := (List.range n).map g
@[simp] theorem tab_len (n : Nat) (g : Nat → Int) : (tab n g).length = n := by simp [tab]
theorem tab_get {n : Nat} {g : Nat → Int} {i : Nat} (h : i < n) : (tab n g).getD i 0 = g i := by simp [tab, h]

def minL (l p : List Int) : List Int := tab l.length fun i => min (l.getD i 0) (p.getD i 0)
def maxL (h p : List Int) : List Int := tab h.length fun i => max (h.getD i 0) (p.getD i 0)
@[simp] theorem minL_len (l p : List Int) : (minL l p).length = l.length := tab_len _ _
@[simp] theorem maxL_len (h p : List Int) : (maxL h p).length = h.length := tab_len _ _
theorem minL_get {l p : List Int} {i : Nat} (h : i < l.length) : (minL l p).getD i 0 = min (l.getD i 0) (p.getD i 0) := tab_get h
theorem maxL_get {l p : List Int} {i : Nat} (h : i < l.length) : (maxL l p).getD i 0 = max (l.getD i 0) (p.getD i 0) := tab_get h
/-- Infinity stands in p just where it stands in l. -/
def infB (l p : List Int) : Bool := allN p.length fun i => ((p.getD i 0 == 1000000000) == (l.getD i 0 == 1000000000))

theorem numB_min {a b : Int} (ha : numB a = true) (hb : numB b = true) : numB (min a b) = true := by
  rw [Int.min_def]; split <;> assumption
theorem numB_max {a b : Int} (ha : numB a = true) (hb : numB b = true) : numB (max a b) = true := by
  rw [Int.max_def]; split <;> assumption

theorem polyB_mk {l : List Int} (h1 : 1 ≤ l.length ∧ l.length ≤ 13) (h2 : ∀ j, j < l.length → numB (l.getD j 0) = true) (h3 : l.getD (l.length - 1) 0 ≠ 1000000000) : polyB l = true := by
  unfold polyB
  rw [inB_true.2 (by omega), show numsB l = true from allN_true h2, bne_iff_ne.2 h3]; rfl

theorem pairB_at {a b : List Int} (h : boundsB a b = true) {j : Nat} (hj : j < a.length) : okP (a.getD j 0) (b.getD j 0) = true := by
  unfold boundsB at h
  simp only [Bool.and_eq_true] at h
  have h2 := h.2
  unfold pairB both at h2
  simp only [Bool.and_eq_true] at h2
  exact allN_iff.1 h2.2 j hj

theorem beq_iff {x y : Int} : (x == 1000000000) = (y == 1000000000) ↔ (x = 1000000000 ↔ y = 1000000000) := by
  by_cases h1 : x = 1000000000 <;> by_cases h2 : y = 1000000000
  · subst h1; subst h2; simp
  · subst h1; simp [h2]
  · subst h2; simp [h1]
  · rw [beq_eq_false_iff_ne.2 h1, beq_eq_false_iff_ne.2 h2]; simp [h1, h2]
theorem okP_iff {x y : Int} : okP x y = true ↔ x ≤ y ∧ (x = 1000000000 ↔ y = 1000000000) := by
  simp only [okP, Bool.not_eq_true', Bool.or_eq_false_iff, decide_eq_false_iff_not, bne_eq_false_iff_eq, beq_iff, gt_iff_lt, Int.not_lt]

theorem join_bounds {l h p : List Int} (hb : boundsB l h = true) (hp : polyB p = true) (hlen : p.length = l.length) : boundsB (minL l p) (maxL h p) = infB l p := by
  have h0 := boundsB_parts hb
  have h1 := boundsB_len hb
  have nl := fun j (hj : j < l.length) => numsB_get (polyB_nums h0.1) hj
  have nh := fun j (hj : j < l.length) => numsB_get (polyB_nums h0.2.1) (j := j) (by omega)
  have np := fun j (hj : j < l.length) => numsB_get (polyB_nums hp) (j := j) (by omega)
  have ok := fun j (hj : j < l.length) => okP_iff.1 (pairB_at hb hj)
  have ll := polyB_last h0.1
  have lh := polyB_last h0.2.1
  have lp := polyB_last hp
  rw [← h0.2.2] at lh
  rw [hlen] at lp
  have e1 : polyB (minL l p) = true := polyB_mk (by simp [minL]; omega) (fun j hj => by
    have hj' : j < l.length := by simpa [minL] using hj
    unfold minL; rw [tab_get hj']; exact numB_min (nl j hj') (np j hj')) (by
    have : l.length - 1 < l.length := by omega
    simp only [minL, tab_len]; rw [tab_get this, Int.min_def]; split <;> assumption)
  have e2 : polyB (maxL h p) = true := polyB_mk (by simp [maxL]; omega) (fun j hj => by
    have hj' : j < l.length := by have : j < h.length := by simpa [maxL] using hj
                                  omega
    unfold maxL; rw [tab_get (by omega)]; exact numB_max (nh j hj') (np j hj')) (by
    have : h.length - 1 < h.length := by omega
    simp only [maxL, tab_len]; rw [tab_get this, ← h0.2.2, Int.max_def]; split <;> assumption)
  unfold boundsB
  rw [e1, e2, Bool.true_and, Bool.true_and]
  unfold pairB both infB
  rw [show (minL l p).length = l.length by simp [minL], show (maxL h p).length = l.length by simp [maxL]; omega, hlen]
  simp only [beq_self_eq_true, Bool.true_and]
  refine allN_congr fun j hj => ?_
  have g1 := ok j hj
  have g2 := numB_le (nl j hj)
  have g3 := numB_le (nh j hj)
  have g4 := numB_le (np j hj)
  rw [show (minL l p).getD j 0 = min (l.getD j 0) (p.getD j 0) from tab_get hj, show (maxL h p).getD j 0 = max (h.getD j 0) (p.getD j 0) from tab_get (by omega)]
  generalize l.getD j 0 = x at *
  generalize h.getD j 0 = y at *
  generalize p.getD j 0 = z at *
  have key : okP (min x z) (max y z) = true ↔ ((z == 1000000000) == (x == 1000000000)) = true := by
    rw [okP_iff, beq_iff_eq, beq_iff, Int.min_def, Int.max_def]
    split <;> split <;> omega
  cases e : okP (min x z) (max y z) <;> cases e' : ((z == 1000000000) == (x == 1000000000)) <;> simp_all

def joinR (l h p : List Int) : List Int × List Int × Bool := if boundsB l h && polyB p && (p.length == l.length) && infB l p then (minL l p, maxL h p, true) else ([], [], false)
theorem joinR_no {l h p : List Int} (e : boundsB l h = false) : joinR l h p = ([], [], false) := by unfold joinR; rw [e]; rfl
theorem joinR_nop {l h p : List Int} (e : polyB p = false) : joinR l h p = ([], [], false) := by unfold joinR; rw [e, Bool.and_false]; rfl
theorem joinR_len {l h p : List Int} (e : ¬ (p.length : Int) = (l.length : Int)) : joinR l h p = ([], [], false) := by
  have : (p.length == l.length) = false := by simp; omega
  unfold joinR; rw [this, Bool.and_false]; rfl
theorem joinR_inf {l h p : List Int} (e : infB l p = false) : joinR l h p = ([], [], false) := by unfold joinR; rw [e, Bool.and_false]; rfl
theorem joinR_yes {l h p : List Int} (e1 : boundsB l h = true) (e2 : polyB p = true) (e3 : (p.length : Int) = (l.length : Int)) (e4 : infB l p = true) : joinR l h p = (minL l p, maxL h p, true) := by
  have : (p.length == l.length) = true := by simp; omega
  unfold joinR; rw [e1, e2, this, e4]; rfl

set_option linter.unusedSimpArgs false
set_option linter.unusedVariables false

theorem allN_succ (n : Nat) (p : Nat → Bool) : allN (n + 1) p = (allN n p && p n) := by simp [allN, List.range_succ]

def skipI (g : Nat → Int) (i : Nat) (j : Nat) : Int := if j < i then g j else g (j + 1)
def selB (n : Nat) (a b : Nat → Int) (i : Nat) : Bool := (a i != 1000000000) && allN n fun k => (k == i) || decide (a i ≤ b k)
def selL (n : Nat) (a b : Nat → Int) : Nat → List Int
  | 0 => []
  | m + 1 => if selB n a b m then selL n a b m ++ [(m : Int)] else selL n a b m
theorem selL_yes {n : Nat} {a b : Nat → Int} {m : Nat} (h : selB n a b m = true) : selL n a b (m + 1) = selL n a b m ++ [(m : Int)] := by show (if _ then _ else _) = _; rw [if_pos h]
theorem selL_no {n : Nat} {a b : Nat → Int} {m : Nat} (h : selB n a b m = false) : selL n a b (m + 1) = selL n a b m := by show (if _ then _ else _) = _; rw [if_neg (by rw [h]; simp)]
theorem selL_len (n : Nat) (a b : Nat → Int) : ∀ m, (selL n a b m).length ≤ m
  | 0 => by simp [selL]
  | m + 1 => by
    have := selL_len n a b m
    cases h : selB n a b m with
    | true => rw [selL_yes h]; simp; omega
    | false => rw [selL_no h]; omega
theorem selB_inf {n : Nat} {a b : Nat → Int} {i : Nat} (h : a i = 1000000000) : selB n a b i = false := by unfold selB; rw [h]; rfl
theorem selB_is {n : Nat} {a b : Nat → Int} {i : Nat} (h : ¬ a i = 1000000000) : selB n a b i = allN n fun k => (k == i) || decide (a i ≤ b k) := by unfold selB; rw [bne_iff_ne.2 h]; rfl

theorem le_leastN (g : Nat → Int) (x : Int) (hx : x ≤ 1000000000) : ∀ n, x ≤ leastN g n ↔ ∀ j, j < n → x ≤ g j
  | 0 => by simp [leastN, hx]
  | n + 1 => by
    have ih := le_leastN g x hx n
    show x ≤ (if leastN g n < g n then leastN g n else g n) ↔ _
    constructor
    · intro h j hj
      rcases Nat.lt_or_ge j n with h1 | h1
      · refine ih.1 ?_ j h1; split at h <;> omega
      · rw [show j = n by omega]; split at h <;> omega
    · intro h
      have h1 := ih.2 fun j hj => h j (by omega)
      have h2 := h n (by omega)
      split <;> omega

theorem sel_least {n : Nat} {a b : Nat → Int} {i : Nat} (hi : i < n) (hx : a i ≤ 1000000000) : (allN n fun k => (k == i) || decide (a i ≤ b k)) = decide (a i ≤ leastN (skipI b i) (n - 1)) := by
  have key : (allN n fun k => (k == i) || decide (a i ≤ b k)) = true ↔ a i ≤ leastN (skipI b i) (n - 1) := by
    rw [allN_iff, le_leastN _ _ hx]
    constructor
    · intro h j hj
      unfold skipI
      by_cases h1 : j < i
      · rw [if_pos h1]
        have := h j (by omega)
        simp only [Bool.or_eq_true, beq_iff_eq, decide_eq_true_eq] at this
        omega
      · rw [if_neg h1]
        have := h (j + 1) (by omega)
        simp only [Bool.or_eq_true, beq_iff_eq, decide_eq_true_eq] at this
        omega
    · intro h k hk
      simp only [Bool.or_eq_true, beq_iff_eq, decide_eq_true_eq]
      rcases Nat.lt_trichotomy k i with h1 | h1 | h1
      · right; have := h k (by omega); unfold skipI at this; rw [if_pos h1] at this; exact this
      · left; exact h1
      · right; have := h (k - 1) (by omega); unfold skipI at this; rw [if_neg (by omega), show k - 1 + 1 = k by omega] at this; exact this
  cases e : decide (a i ≤ leastN (skipI b i) (n - 1)) with
  | true => exact key.2 (of_decide_eq_true e)
  | false =>
    cases e2 : (allN n fun k => (k == i) || decide (a i ≤ b k)) with
    | false => rfl
    | true => exact absurd (key.1 e2) (of_decide_eq_false e)

theorem termL_le {l : List Int} {x : Int} (h : polyB l = true) (hx : -1000000 ≤ x ∧ x ≤ 1000000) {i : Nat} (hi : i < l.length) : termL l x i ≤ 1000000000 := by
  have h1 := polyB_len h
  have h3 := mul_bound (k := i) (x := x) (by omega) hx
  have h4 := numsB_get (polyB_nums h) hi
  unfold termL
  split
  · omega
  · simp only [numB, finB, Bool.or_eq_true, Bool.and_eq_true, decide_eq_true_eq, beq_iff_eq] at h4
    omega

def tR (ok : Bool) (u v : List Int) (x : Int) : List Int × Bool := if ok then (selL u.length (termL u x) (termL v x) u.length, true) else ([], false)
theorem tR_no {l h u v : List Int} {x : Int} (e : boundsB l h = false) : tR (boundsB l h && finB x) u v x = ([], false) := by unfold tR; rw [e]; rfl
theorem tR_nofin {l h u v : List Int} {x : Int} (e : finB x = false) : tR (boundsB l h && finB x) u v x = ([], false) := by unfold tR; rw [e, Bool.and_false]; rfl
theorem tR_yes {l h u v : List Int} {x : Int} (e : boundsB l h = true) (e2 : finB x = true) : tR (boundsB l h && finB x) u v x = (selL u.length (termL u x) (termL v x) u.length, true) := by unfold tR; rw [e, e2]; rfl

set_option linter.unusedSimpArgs false
set_option linter.unusedVariables false

def pt (l : List Int) (i : Nat) : Int := if i < l.length then l.getD i 0 else 1000000000
theorem pt_in {l : List Int} {i : Nat} (h : i < l.length) : pt l i = l.getD i 0 := by unfold pt; rw [if_pos h]
theorem pt_out {l : List Int} {i : Nat} (h : l.length ≤ i) : pt l i = 1000000000 := by unfold pt; rw [if_neg (by omega)]
def plusI (a b : Int) : Int := if a = 1000000000 ∨ b = 1000000000 then 1000000000 else a + b
theorem plusI_a {a b : Int} (h : a = 1000000000) : plusI a b = 1000000000 := by unfold plusI; rw [if_pos (Or.inl h)]
theorem plusI_b {a b : Int} (h : b = 1000000000) : plusI a b = 1000000000 := by unfold plusI; rw [if_pos (Or.inr h)]
theorem plusI_ab {a b : Int} (h : ¬ a = 1000000000) (h2 : ¬ b = 1000000000) : plusI a b = a + b := by unfold plusI; rw [if_neg (by omega)]
def cv (p q : List Int) (m j : Nat) : Int := if j ≤ m then plusI (pt p j) (pt q (m - j)) else 1000000000
def prodL (p q : List Int) : List Int := tab (p.length + q.length - 1) fun m => leastN (cv p q m) (m + 1)
@[simp] theorem prodL_len (p q : List Int) : (prodL p q).length = p.length + q.length - 1 := tab_len _ _
theorem prodL_get {p q : List Int} {m : Nat} (h : m < p.length + q.length - 1) : (prodL p q).getD m 0 = leastN (cv p q m) (m + 1) := tab_get h
/-- Cell m behind i rows and k places of row i. -/
def cell (p q : List Int) (m i k : Nat) : Int := leastN (cv p q m) (if i ≤ m ∧ m < i + k then i + 1 else i)

theorem leastN_inf (g : Nat → Int) : ∀ n, leastN g n ≤ 1000000000
  | 0 => by simp [leastN]
  | n + 1 => by
    have := leastN_inf g n
    show (if leastN g n < g n then leastN g n else g n) ≤ 1000000000
    split <;> omega
theorem leastN_more (g : Nat → Int) (n : Nat) : ∀ d, (∀ j, n ≤ j → j < n + d → g j = 1000000000) → leastN g (n + d) = leastN g n
  | 0, _ => rfl
  | d + 1, h => by
    have ih := leastN_more g n d fun j h1 h2 => h j h1 (by omega)
    have h1 := h (n + d) (by omega) (by omega)
    have h2 := leastN_inf g n
    show (if leastN g (n + d) < g (n + d) then leastN g (n + d) else g (n + d)) = _
    rw [ih, h1]
    split <;> omega
theorem leastN_to (g : Nat → Int) {n n' : Nat} (hn : n ≤ n') (h : ∀ j, n ≤ j → j < n' → g j = 1000000000) : leastN g n' = leastN g n := by
  obtain ⟨d, rfl⟩ := Nat.le.dest hn
  exact leastN_more g n d h
theorem leastN_min (g : Nat → Int) (n : Nat) : leastN g (n + 1) = min (leastN g n) (g n) := by
  show (if leastN g n < g n then leastN g n else g n) = _
  rw [Int.min_def]; split <;> split <;> omega

theorem cell_first (p q : List Int) (m : Nat) : cell p q m 0 0 = 1000000000 := by unfold cell; rw [if_neg (by omega)]; rfl
theorem cell_step (p q : List Int) (i k : Nat) (hi : i < p.length) (hk : k < q.length) : cell p q (i + k) i (k + 1) = min (cell p q (i + k) i k) (plusI (p.getD i 0) (q.getD k 0)) := by
  unfold cell
  rw [if_pos (by omega), if_neg (by omega), leastN_min]
  unfold cv
  rw [if_pos (by omega), pt_in hi, show i + k - i = k by omega, pt_in hk]
theorem cell_else (p q : List Int) (m i k : Nat) (h : ¬ m = i + k) : cell p q m i (k + 1) = cell p q m i k := by
  unfold cell
  by_cases h1 : i ≤ m ∧ m < i + k
  · rw [if_pos h1, if_pos (by omega)]
  · rw [if_neg h1, if_neg (by omega)]
theorem cell_row (p q : List Int) (m i : Nat) : cell p q m i q.length = cell p q m (i + 1) 0 := by
  unfold cell
  rw [if_neg (show ¬ (i + 1 ≤ m ∧ m < i + 1 + 0) by omega)]
  by_cases h1 : i ≤ m ∧ m < i + q.length
  · rw [if_pos h1]
  · rw [if_neg h1]
    refine (leastN_to _ (by omega) fun j h2 h3 => ?_).symm
    obtain rfl : j = i := by omega
    unfold cv
    by_cases h4 : j ≤ m
    · rw [if_pos h4]; exact plusI_b (pt_out (by omega))
    · rw [if_neg h4]
theorem cell_done (p q : List Int) (m : Nat) : cell p q m p.length 0 = leastN (cv p q m) (m + 1) := by
  unfold cell
  rw [if_neg (by omega)]
  rcases Nat.le_total p.length (m + 1) with h | h
  · refine (leastN_to _ h fun j h2 h3 => ?_).symm
    unfold cv; rw [if_pos (by omega)]; exact plusI_a (pt_out h2)
  · refine leastN_to _ h fun j h2 h3 => ?_
    unfold cv; rw [if_neg (by omega)]

def prodR (p q : List Int) : List Int × Bool := if polyB (prodL p q) then (prodL p q, true) else ([], false)
theorem prodR_yes {p q : List Int} (h : polyB (prodL p q) = true) : prodR p q = (prodL p q, true) := by unfold prodR; rw [if_pos h]
theorem prodR_no {p q : List Int} (h : polyB (prodL p q) = false) : prodR p q = ([], false) := by unfold prodR; rw [if_neg (by rw [h]; simp)]
theorem prodR_len (p q : List Int) : (prodR p q).1.length ≤ p.length + q.length := by unfold prodR; split <;> simp <;> omega

def pbR (a b c d : List Int) : List Int × List Int × Bool := if boundsB a b && boundsB c d && (prodR a c).2 && (prodR b d).2 then ((prodR a c).1, (prodR b d).1, true) else ([], [], false)
theorem pbR_no1 {a b c d : List Int} (h : boundsB a b = false) : pbR a b c d = ([], [], false) := by unfold pbR; rw [h]; rfl
theorem pbR_no2 {a b c d : List Int} (h : boundsB c d = false) : pbR a b c d = ([], [], false) := by unfold pbR; rw [h, Bool.and_false]; rfl
theorem pbR_no3 {a b c d : List Int} (h : (prodR a c).2 = false) : pbR a b c d = ([], [], false) := by unfold pbR; rw [h, Bool.and_false]; rfl
theorem pbR_no4 {a b c d : List Int} (h : (prodR b d).2 = false) : pbR a b c d = ([], [], false) := by unfold pbR; rw [h, Bool.and_false]; rfl
theorem pbR_yes {a b c d : List Int} (h1 : boundsB a b = true) (h2 : boundsB c d = true) (h3 : (prodR a c).2 = true) (h4 : (prodR b d).2 = true) : pbR a b c d = ((prodR a c).1, (prodR b d).1, true) := by unfold pbR; rw [h1, h2, h3, h4]; rfl

end Go.Proofs.Yteapdildbfimnaa
