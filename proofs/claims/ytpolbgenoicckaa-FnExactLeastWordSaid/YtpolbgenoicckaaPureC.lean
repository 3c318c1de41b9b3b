/- Plain functions on bounds, and laws on them. No conditions. -/
import Derived.Test.YtpolbgenoicckaaPureB
namespace Go.Proofs.Ytpolbgenoicckaa
set_option linter.unusedSimpArgs false
set_option linter.unusedVariables false

/-- A list of n numbers. -/
def tab (n : Nat) (g : Nat → Int) : List Int := (List.range n).map g
@[simp] theorem tab_len (n : Nat) (g : Nat → Int) : (tab n g).length = n := by simp [tab]
theorem tab_get {n : Nat} {g : Nat → Int} {i : Nat} (h : i < n) : (tab n g).getD i 0 = g i := by simp [tab, h]

def minL (l p : List Int) : List Int := tab l.length fun i => min (l.getD i 0) (p.getD i 0)
def maxL (h p : List Int) : List Int := tab h.length fun i => max (h.getD i 0) (p.getD i 0)
@[simp] theorem minL_len (l p : List Int) : (minL l p).length = l.length := tab_len _ _
@[simp] theorem maxL_len (h p : List Int) : (maxL h p).length = h.length := tab_len _ _
theorem minL_get {l p : List Int} {i : Nat} (h : i < l.length) : (minL l p).getD i 0 = min (l.getD i 0) (p.getD i 0) := tab_get h
theorem maxL_get {l p : List Int} {i : Nat} (h : i < l.length) : (maxL l p).getD i 0 = max (l.getD i 0) (p.getD i 0) := tab_get h
/-- Infinity stands in p just where it stands in l. -/
def infB (l p : List Int) : Bool := allN p.length fun i => ((p.getD i 0 == 1000000000) == (l.getD i 0 == 1000000000))

theorem numB_min {a b : Int} (ha : numB a = true) (hb : numB b = true) : numB (min a b) = true := by
  rw [Int.min_def]; split <;> assumption
theorem numB_max {a b : Int} (ha : numB a = true) (hb : numB b = true) : numB (max a b) = true := by
  rw [Int.max_def]; split <;> assumption

theorem polyB_mk {l : List Int} (h1 : 1 ≤ l.length ∧ l.length ≤ 13) (h2 : ∀ j, j < l.length → numB (l.getD j 0) = true) (h3 : l.getD (l.length - 1) 0 ≠ 1000000000) : polyB l = true := by
  unfold polyB
  rw [inB_true.2 (by omega), show numsB l = true from allN_true h2, bne_iff_ne.2 h3]; rfl

theorem pairB_at {a b : List Int} (h : boundsB a b = true) {j : Nat} (hj : j < a.length) : okP (a.getD j 0) (b.getD j 0) = true := by
  unfold boundsB at h
  simp only [Bool.and_eq_true] at h
  have h2 := h.2
  unfold pairB both at h2
  simp only [Bool.and_eq_true] at h2
  exact allN_iff.1 h2.2 j hj

theorem beq_iff {x y : Int} : (x == 1000000000) = (y == 1000000000) ↔ (x = 1000000000 ↔ y = 1000000000) := by
  by_cases h1 : x = 1000000000 <;> by_cases h2 : y = 1000000000
  · subst h1; subst h2; simp
  · subst h1; simp [h2]
  · subst h2; simp [h1]
  · rw [beq_eq_false_iff_ne.2 h1, beq_eq_false_iff_ne.2 h2]; simp [h1, h2]
theorem okP_iff {x y : Int} : okP x y = true ↔ x ≤ y ∧ (x = 1000000000 ↔ y = 1000000000) := by
  simp only [okP, Bool.not_eq_true', Bool.or_eq_false_iff, decide_eq_false_iff_not, bne_eq_false_iff_eq, beq_iff, gt_iff_lt, Int.not_lt]

theorem join_bounds {l h p : List Int} (hb : boundsB l h = true) (hp : polyB p = true) (hlen : p.length = l.length) : boundsB (minL l p) (maxL h p) = infB l p := by
  have h0 := boundsB_parts hb
  have h1 := boundsB_len hb
  have nl := fun j (hj : j < l.length) => numsB_get (polyB_nums h0.1) hj
  have nh := fun j (hj : j < l.length) => numsB_get (polyB_nums h0.2.1) (j := j) (by omega)
  have np := fun j (hj : j < l.length) => numsB_get (polyB_nums hp) (j := j) (by omega)
  have ok := fun j (hj : j < l.length) => okP_iff.1 (pairB_at hb hj)
  have ll := polyB_last h0.1
  have lh := polyB_last h0.2.1
  have lp := polyB_last hp
  rw [← h0.2.2] at lh
  rw [hlen] at lp
  have e1 : polyB (minL l p) = true := polyB_mk (by simp [minL]; omega) (fun j hj => by
    have hj' : j < l.length := by simpa [minL] using hj
    unfold minL; rw [tab_get hj']; exact numB_min (nl j hj') (np j hj')) (by
    have : l.length - 1 < l.length := by omega
    simp only [minL, tab_len]; rw [tab_get this, Int.min_def]; split <;> assumption)
  have e2 : polyB (maxL h p) = true := polyB_mk (by simp [maxL]; omega) (fun j hj => by
    have hj' : j < l.length := by have : j < h.length := by simpa [maxL] using hj
                                  omega
    unfold maxL; rw [tab_get (by omega)]; exact numB_max (nh j hj') (np j hj')) (by
    have : h.length - 1 < h.length := by omega
    simp only [maxL, tab_len]; rw [tab_get this, ← h0.2.2, Int.max_def]; split <;> assumption)
  unfold boundsB
  rw [e1, e2, Bool.true_and, Bool.true_and]
  unfold pairB both infB
  rw [show (minL l p).length = l.length by simp [minL], show (maxL h p).length = l.length by simp [maxL]; omega, hlen]
  simp only [beq_self_eq_true, Bool.true_and]
  refine allN_congr fun j hj => ?_
  have g1 := ok j hj
  have g2 := numB_le (nl j hj)
  have g3 := numB_le (nh j hj)
  have g4 := numB_le (np j hj)
  rw [show (minL l p).getD j 0 = min (l.getD j 0) (p.getD j 0) from tab_get hj, show (maxL h p).getD j 0 = max (h.getD j 0) (p.getD j 0) from tab_get (by omega)]
  generalize l.getD j 0 = x at *
  generalize h.getD j 0 = y at *
  generalize p.getD j 0 = z at *
  have key : okP (min x z) (max y z) = true ↔ ((z == 1000000000) == (x == 1000000000)) = true := by
    rw [okP_iff, beq_iff_eq, beq_iff, Int.min_def, Int.max_def]
    split <;> split <;> omega
  cases e : okP (min x z) (max y z) <;> cases e' : ((z == 1000000000) == (x == 1000000000)) <;> simp_all

def joinR (l h p : List Int) : List Int × List Int × Bool := if boundsB l h && polyB p && (p.length == l.length) && infB l p then (minL l p, maxL h p, true) else ([], [], false)
theorem joinR_no {l h p : List Int} (e : boundsB l h = false) : joinR l h p = ([], [], false) := by unfold joinR; rw [e]; rfl
theorem joinR_nop {l h p : List Int} (e : polyB p = false) : joinR l h p = ([], [], false) := by unfold joinR; rw [e, Bool.and_false]; rfl
theorem joinR_len {l h p : List Int} (e : ¬ (p.length : Int) = (l.length : Int)) : joinR l h p = ([], [], false) := by
  have : (p.length == l.length) = false := by simp; omega
  unfold joinR; rw [this, Bool.and_false]; rfl
theorem joinR_inf {l h p : List Int} (e : infB l p = false) : joinR l h p = ([], [], false) := by unfold joinR; rw [e, Bool.and_false]; rfl
theorem joinR_yes {l h p : List Int} (e1 : boundsB l h = true) (e2 : polyB p = true) (e3 : (p.length : Int) = (l.length : Int)) (e4 : infB l p = true) : joinR l h p = (minL l p, maxL h p, true) := by
  have : (p.length == l.length) = true := by simp; omega
  unfold joinR; rw [e1, e2, this, e4]; rfl

end Go.Proofs.Ytpolbgenoicckaa
