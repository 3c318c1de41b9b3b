/- Plain functions on numbers and lists, and laws on them. No conditions. -/
namespace Go.Proofs.Ytpolbgenoicckaa
set_option linter.unusedSimpArgs false
set_option linter.unusedVariables false

/-- p holds of all numbers below n. -/
def allN (n : Nat) (p : Nat → Bool) : Bool := (List.range n).all p

theorem allN_true {n : Nat} {p : Nat → Bool} (h : ∀ j, j < n → p j = true) : allN n p = true := by
  simp only [allN, List.all_eq_true, List.mem_range]; exact h

theorem allN_iff {n : Nat} {p : Nat → Bool} : allN n p = true ↔ ∀ j, j < n → p j = true := by simp [allN]

theorem allN_false {n k : Nat} {p : Nat → Bool} (hk : k < n) (h : p k = false) : allN n p = false := by
  cases e : allN n p with
  | false => rfl
  | true => rw [allN_iff] at e; rw [e k hk] at h; cases h

theorem allN_congr {n : Nat} {p q : Nat → Bool} (h : ∀ j, j < n → p j = q j) : allN n p = allN n q := by
  cases e : allN n q with
  | true => rw [allN_iff] at e; exact allN_true fun j hj => by rw [h j hj, e j hj]
  | false =>
    cases e' : allN n p with
    | false => rfl
    | true => rw [allN_iff] at e'; rw [← e]; exact (allN_true fun j hj => by rw [← h j hj, e' j hj]).symm

def finB (n : Int) : Bool := decide (-1000000 ≤ n) && decide (n ≤ 1000000)
def numB (n : Int) : Bool := finB n || n == 1000000000
def inB (n lo hi : Int) : Bool := decide (lo ≤ n) && decide (n ≤ hi)
def numsB (l : List Int) : Bool := allN l.length fun j => numB (l.getD j 0)
def polyB (l : List Int) : Bool := inB l.length 1 13 && numsB l && (l.getD (l.length - 1) 0 != 1000000000)
theorem polyB_no {l : List Int} (h : numsB l = false) : polyB l = false := by simp [polyB, h]
def okP (x y : Int) : Bool := !(decide (x > y) || ((x == 1000000000) != (y == 1000000000)))
def okO (x y : Int) : Bool := !(decide (x > y) || ((x != y) && (y == 1000000000)))
/-- Two lists of one length, p holds place by place. -/
def both (p : Int → Int → Bool) (a b : List Int) : Bool := a.length == b.length && allN a.length fun j => p (a.getD j 0) (b.getD j 0)
def eqB (a b : List Int) : Bool := both (fun x y => x == y) a b
def pairB (a b : List Int) : Bool := both okP a b
def ordB (a b : List Int) : Bool := both okO a b
theorem both_len {p : Int → Int → Bool} {a b : List Int} (h : ¬ (a.length : Int) = (b.length : Int)) : both p a b = false := by
  unfold both
  have : (a.length == b.length) = false := by simp; omega
  rw [this]; rfl
theorem both_no {p : Int → Int → Bool} {a b : List Int} {k : Nat} (hk : k < a.length) (h : p (a.getD k 0) (b.getD k 0) = false) : both p a b = false := by
  unfold both; rw [allN_false hk h, Bool.and_false]
theorem both_yes {p : Int → Int → Bool} {a b : List Int} (hl : (a.length : Int) = (b.length : Int)) (h : ∀ j, j < a.length → p (a.getD j 0) (b.getD j 0) = true) : both p a b = true := by
  unfold both; rw [allN_true h]; simp; omega
def boundsB (a b : List Int) : Bool := polyB a && polyB b && pairB a b

theorem inB_true {n lo hi : Int} : inB n lo hi = true ↔ lo ≤ n ∧ n ≤ hi := by simp [inB]
theorem inB_false {n lo hi : Int} : inB n lo hi = false ↔ ¬ (lo ≤ n ∧ n ≤ hi) := by rw [← inB_true]; simp
theorem finB_true {n : Int} : finB n = true ↔ -1000000 ≤ n ∧ n ≤ 1000000 := by simp [finB]
theorem finB_false {n : Int} : finB n = false ↔ ¬ (-1000000 ≤ n ∧ n ≤ 1000000) := by rw [← finB_true]; simp

theorem polyB_in {l : List Int} (h : ¬ (1 ≤ (l.length : Int) ∧ (l.length : Int) ≤ 13)) : polyB l = false := by unfold polyB; rw [inB_false.2 h]; rfl
theorem polyB_is {l : List Int} (h : 1 ≤ (l.length : Int) ∧ (l.length : Int) ≤ 13) (h2 : numsB l = true) : polyB l = (l.getD ((l.length : Int) - 1).toNat 0 != 1000000000) := by
  unfold polyB; rw [inB_true.2 h, h2, show ((l.length : Int) - 1).toNat = l.length - 1 by omega]; rfl
theorem polyB_len {l : List Int} (h : polyB l = true) : 1 ≤ l.length ∧ l.length ≤ 13 := by
  by_cases hh : 1 ≤ (l.length : Int) ∧ (l.length : Int) ≤ 13
  · omega
  · rw [polyB_in hh] at h; cases h
theorem polyB_nums {l : List Int} (h : polyB l = true) : numsB l = true := by
  cases e : numsB l with
  | true => rfl
  | false => rw [polyB_no e] at h; cases h

/-- What a loop has seen up to k holds up to k + 1. -/
theorem upto_succ {k : Nat} {P : Nat → Prop} (h : ∀ j, j < k → P j) (hk : P k) : ∀ j, j < k + 1 → P j := fun j hj => by
  rcases Nat.lt_or_ge j k with h1 | h1
  · exact h j h1
  · rw [show j = k by omega]; exact hk

theorem eqB_refl (a : List Int) : eqB a a = true := both_yes rfl fun _ _ => by simp

theorem numB_fin {n : Int} (h : -1000000 ≤ n ∧ n ≤ 1000000) : numB n = true := by unfold numB; rw [finB_true.2 h]; rfl
theorem numB_not {n : Int} (h : ¬ (-1000000 ≤ n ∧ n ≤ 1000000)) : numB n = (n == 1000000000) := by unfold numB; rw [finB_false.2 h]; rfl
theorem numB_inf {n : Int} (h : n = 1000000000) : numB n = true := by subst h; rfl
theorem numB_in {n : Int} (h : ¬ n = 1000000000) : numB n = inB n (-1000000) 1000000 := by unfold numB finB inB; rw [beq_eq_false_iff_ne.2 h]; simp
theorem numB_le {n : Int} (h : numB n = true) : -1000000 ≤ n ∧ n ≤ 1000000000 := by
  simp [numB, finB] at h; omega

theorem numsB_get {l : List Int} (h : numsB l = true) {j : Nat} (hj : j < l.length) : numB (l.getD j 0) = true := allN_iff.1 h j hj

theorem okP_gt {x y : Int} (h : y < x) : okP x y = false := by simp [okP, h]
theorem okP_ne {x y : Int} (h : ¬ (x == 1000000000) = (y == 1000000000)) : okP x y = false := by
  unfold okP; rw [bne_iff_ne.2 h]; simp
theorem okP_ok {x y : Int} (h : x ≤ y) (h2 : (x == 1000000000) = (y == 1000000000)) : okP x y = true := by
  unfold okP; rw [bne_eq_false_iff_eq.2 h2]; simp; omega
theorem okO_gt {x y : Int} (h : y < x) : okO x y = false := by simp [okO, h]
theorem okO_ne {x y : Int} (h : ¬ x = y) (h2 : y = 1000000000) : okO x y = false := by
  unfold okO; rw [bne_iff_ne.2 h, beq_iff_eq.2 h2]; simp
theorem okO_eq {x y : Int} (h : x ≤ y) (h2 : x = y) : okO x y = true := by subst h2; simp [okO]
theorem okO_ok {x y : Int} (h : x ≤ y) (h2 : ¬ y = 1000000000) : okO x y = true := by
  unfold okO; rw [beq_eq_false_iff_ne.2 h2]; simp; omega

theorem ordB_pairB {a b : List Int} (ha : numsB a = true) (hb : numsB b = true) : ordB a b = pairB a b := by
  unfold ordB pairB both
  by_cases hl : a.length = b.length
  · congr 1
    refine allN_congr fun j hj => ?_
    have h1 := numB_le (numsB_get ha hj)
    have h2 := numB_le (numsB_get hb (j := j) (by omega))
    generalize a.getD j 0 = x at *
    generalize b.getD j 0 = y at *
    clear ha hb hl hj
    unfold okO okP
    cases h1 : decide (x > y) <;> cases h2 : x == 1000000000 <;> cases h3 : y == 1000000000 <;> cases h4 : x != y <;> first | rfl | (exfalso; simp at h1 h2 h3 h4; omega)
  · have : (a.length == b.length) = false := by simpa using hl
    rw [this]; rfl

theorem boundsB_parts {a b : List Int} (h : boundsB a b = true) : polyB a = true ∧ polyB b = true ∧ a.length = b.length := by
  unfold boundsB at h
  simp only [Bool.and_eq_true] at h
  refine ⟨h.1.1, h.1.2, ?_⟩
  have h2 := h.2
  unfold pairB both at h2
  simp only [Bool.and_eq_true, beq_iff_eq] at h2
  exact h2.1
theorem boundsB_len {a b : List Int} (h : boundsB a b = true) : a.length = b.length ∧ 1 ≤ a.length ∧ a.length ≤ 13 :=
  ⟨(boundsB_parts h).2.2, polyB_len (boundsB_parts h).1⟩
theorem boundsB_num {a b : List Int} (h : boundsB a b = true) {k : Nat} (hk : k < a.length) : -1000000 ≤ a.getD k 0 ∧ a.getD k 0 ≤ 1000000000 ∧ -1000000 ≤ b.getD k 0 ∧ b.getD k 0 ≤ 1000000000 := by
  have h1 := numB_le (numsB_get (polyB_nums (boundsB_parts h).1) hk)
  have h2 := numB_le (numsB_get (polyB_nums (boundsB_parts h).2.1) (j := k) (by have := (boundsB_parts h).2.2; omega))
  omega
def withinB (l h p : List Int) : Bool := boundsB l h && polyB p && (p.length == l.length) && allN p.length fun j => inB (p.getD j 0) (l.getD j 0) (h.getD j 0)
theorem withinB_no {l h p : List Int} {k : Nat} (hk : k < p.length) (e : inB (p.getD k 0) (l.getD k 0) (h.getD k 0) = false) : withinB l h p = false := by
  unfold withinB; rw [allN_false hk e, Bool.and_false]
theorem withinB_len {l h p : List Int} (e : ¬ (p.length : Int) = (l.length : Int)) : withinB l h p = false := by
  have : (p.length == l.length) = false := by simp; omega
  unfold withinB; rw [this]; simp
theorem withinB_yes {l h p : List Int} (h1 : boundsB l h = true) (h2 : polyB p = true) (h3 : (p.length : Int) = (l.length : Int)) (e : ∀ j, j < p.length → inB (p.getD j 0) (l.getD j 0) (h.getD j 0) = true) : withinB l h p = true := by
  have : (p.length == l.length) = true := by simp; omega
  unfold withinB; rw [h1, h2, this, allN_true e]; rfl

def widStep (l h : List Int) (k : Nat) (s : Int × Int) : Int × Int := if l.getD k 0 ≠ 1000000000 ∧ h.getD k 0 - l.getD k 0 > s.2 then ((k : Int), h.getD k 0 - l.getD k 0) else s
def wid (l h : List Int) : Nat → Int × Int
  | 0 => (0, -1)
  | k + 1 => widStep l h k (wid l h k)
def widR (l h : List Int) : Int × Int × Bool := if boundsB l h && numB (wid l h l.length).2 then ((wid l h l.length).1, (wid l h l.length).2, true) else (0, 0, false)
theorem wid_yes {l h : List Int} {k : Nat} (h1 : ¬ l.getD k 0 = 1000000000) (h2 : (wid l h k).2 < h.getD k 0 - l.getD k 0) : wid l h (k + 1) = ((k : Int), h.getD k 0 - l.getD k 0) := by
  show widStep l h k (wid l h k) = _; unfold widStep; rw [if_pos ⟨h1, h2⟩]
theorem wid_no {l h : List Int} {k : Nat} (h2 : h.getD k 0 - l.getD k 0 ≤ (wid l h k).2) : wid l h (k + 1) = wid l h k := by
  show widStep l h k (wid l h k) = _; unfold widStep; rw [if_neg (by omega)]
theorem wid_inf {l h : List Int} {k : Nat} (h1 : l.getD k 0 = 1000000000) : wid l h (k + 1) = wid l h k := by
  show widStep l h k (wid l h k) = _; unfold widStep; rw [if_neg (by omega)]
theorem widR_no {l h : List Int} (e : boundsB l h = false) : widR l h = (0, 0, false) := by unfold widR; rw [e]; rfl
theorem widR_num {l h : List Int} (e : numB (wid l h l.length).2 = false) : widR l h = (0, 0, false) := by unfold widR; rw [e, Bool.and_false]; rfl
theorem widR_yes {l h : List Int} (e : boundsB l h = true) (e2 : numB (wid l h l.length).2 = true) : widR l h = ((wid l h l.length).1, (wid l h l.length).2, true) := by unfold widR; rw [e, e2]; rfl

end Go.Proofs.Ytpolbgenoicckaa
