/- Plain functions on lists of rows, and laws on them. No conditions. -/
import Derived.Test.YtpimjkhfookipaaPure
import Derived.Test.YtpimjkhfookipaaEngE
namespace Go.Proofs.Ytpimjkhfookipaa
set_option linter.unusedSimpArgs false
set_option linter.unusedVariables false

abbrev rowAt (m : List (List Int)) (i : Nat) : List Int := m.getD i []
abbrev rows (m : List (List Int)) : V := .seq 1 m.length fun i => ints (rowAt m i)

/-- The first number below n at which p holds, or -1. -/
def firstN (p : Nat → Bool) : Nat → Int
  | 0 => -1
  | n + 1 => if 0 ≤ firstN p n then firstN p n else if p n = true then (n : Int) else -1
theorem firstN_none {p : Nat → Bool} : ∀ {n : Nat}, (∀ j, j < n → p j = false) → firstN p n = -1
  | 0, _ => rfl
  | n + 1, h => by
    show (if 0 ≤ firstN p n then firstN p n else if p n = true then (n : Int) else -1) = -1
    rw [firstN_none fun j hj => h j (by omega), h n (by omega)]; simp
theorem firstN_at {p : Nat → Bool} {k : Nat} (h : ∀ j, j < k → p j = false) (hk : p k = true) : ∀ {n : Nat}, k < n → firstN p n = k
  | 0, h0 => by omega
  | n + 1, h0 => by
    show (if 0 ≤ firstN p n then firstN p n else if p n = true then (n : Int) else -1) = k
    rcases Nat.lt_or_ge k n with h1 | h1
    · rw [firstN_at h hk h1, if_pos (by omega)]
    · obtain rfl : k = n := by omega
      rw [firstN_none h, if_neg (by omega), if_pos hk]
def anyN (n : Nat) (p : Nat → Bool) : Bool := !allN n fun i => !p i
theorem anyN_first (p : Nat → Bool) (n : Nat) : decide (firstN p n ≥ 0) = anyN n p := by
  unfold anyN
  cases e : allN n fun i => !p i with
  | true =>
    rw [allN_iff] at e
    rw [firstN_none fun j hj => by simpa using e j hj]; rfl
  | false =>
    have : ∃ k, k < n ∧ p k = true ∧ ∀ j, j < k → p j = false := by
      induction n with
      | zero => simp [allN] at e
      | succ n ih =>
        cases e2 : allN n fun i => !p i with
        | false =>
          obtain ⟨k, h1, h2, h3⟩ := ih e2
          exact ⟨k, by omega, h2, h3⟩
        | true =>
          rw [allN_iff] at e2
          refine ⟨n, by omega, ?_, fun j hj => by simpa using e2 j hj⟩
          cases h : p n with
          | true => rfl
          | false =>
            have : (allN (n + 1) fun i => !p i) = true := allN_true fun j hj => by
              rcases Nat.lt_or_ge j n with h1 | h1
              · exact e2 j h1
              · rw [show j = n by omega, h]; rfl
            rw [this] at e; cases e
    obtain ⟨k, h1, h2, h3⟩ := this
    rw [firstN_at h3 h2 h1]
    simp

def vecB (l : List Int) : Bool := inB l.length 1 6 && numsB l
theorem vecB_in {l : List Int} (h : ¬ (1 ≤ (l.length : Int) ∧ (l.length : Int) ≤ 6)) : vecB l = false := by unfold vecB; rw [inB_false.2 h]; rfl
theorem vecB_is {l : List Int} (h : 1 ≤ (l.length : Int) ∧ (l.length : Int) ≤ 6) : vecB l = numsB l := by unfold vecB; rw [inB_true.2 h]; rfl
theorem vecB_no {l : List Int} (h : numsB l = false) : vecB l = false := by unfold vecB; rw [h, Bool.and_false]
theorem vecB_yes {l : List Int} (h : numsB l = true) : vecB l = inB l.length 1 6 := by unfold vecB; rw [h, Bool.and_true]
/-- A row of a matrix with rows of length w. -/
def mrowB (w : Nat) (l : List Int) : Bool := vecB l && (l.length == w)
theorem mrowB_vec {w : Nat} {l : List Int} (h : vecB l = false) : mrowB w l = false := by unfold mrowB; rw [h]; rfl
theorem mrowB_len {w : Nat} {l : List Int} (h : ¬ (l.length : Int) = w) : mrowB w l = false := by
  have : (l.length == w) = false := by simp; omega
  unfold mrowB; rw [this, Bool.and_false]
theorem mrowB_is {w : Nat} {l : List Int} (h : vecB l = true) : mrowB w l = ((l.length : Int) == (w : Int)) := by
  unfold mrowB; rw [h, Bool.true_and]
  by_cases e : l.length = w
  · rw [e]; simp
  · rw [beq_eq_false_iff_ne.2 e, beq_eq_false_iff_ne.2 (by omega)]
theorem mrowB_yes {w : Nat} {l : List Int} (h : vecB l = true) (h2 : (l.length : Int) = w) : mrowB w l = true := by
  have : (l.length == w) = true := by simp; omega
  unfold mrowB; rw [h, this]; rfl
def matB (m : List (List Int)) : Bool := inB m.length 1 6 && allN m.length fun i => mrowB (rowAt m 0).length (rowAt m i)
theorem matB_in {m : List (List Int)} (h : ¬ (1 ≤ (m.length : Int) ∧ (m.length : Int) ≤ 6)) : matB m = false := by unfold matB; rw [inB_false.2 h]; rfl
theorem matB_is {m : List (List Int)} (h : 1 ≤ (m.length : Int) ∧ (m.length : Int) ≤ 6) : matB m = allN m.length fun i => mrowB (rowAt m 0).length (rowAt m i) := by unfold matB; rw [inB_true.2 h]; rfl
theorem matB_row {m : List (List Int)} {k : Nat} (hk : k < m.length) (h : mrowB (rowAt m 0).length (rowAt m k) = false) : matB m = false := by unfold matB; rw [allN_false hk h, Bool.and_false]
theorem matB_len {m : List (List Int)} (h : matB m = true) : (1 ≤ m.length ∧ m.length ≤ 6) ∧ (1 ≤ (rowAt m 0).length ∧ (rowAt m 0).length ≤ 6) := by
  unfold matB at h
  simp only [Bool.and_eq_true] at h
  have h1 := inB_true.1 h.1
  refine ⟨by omega, ?_⟩
  have h2 := allN_iff.1 h.2 0 (by omega)
  unfold mrowB vecB at h2
  simp only [Bool.and_eq_true] at h2
  have := inB_true.1 h2.1.1
  omega
theorem matB_row0 {m : List (List Int)} (h : ¬ (1 ≤ ((rowAt m 0).length : Int) ∧ ((rowAt m 0).length : Int) ≤ 6)) : matB m = false := by
  cases e : matB m with
  | false => rfl
  | true => have := (matB_len e).2; omega
def squB (m : List (List Int)) : Bool := matB m && (m.length == (rowAt m 0).length)
theorem squB_no {m : List (List Int)} (h : matB m = false) : squB m = false := by unfold squB; rw [h]; rfl
theorem squB_is {m : List (List Int)} (h : matB m = true) : squB m = ((m.length : Int) == ((rowAt m 0).length : Int)) := by
  unfold squB; rw [h, Bool.true_and]
  by_cases e : m.length = (rowAt m 0).length
  · rw [e]; simp
  · rw [beq_eq_false_iff_ne.2 e, beq_eq_false_iff_ne.2 (by omega)]
/-- Two lists of rows of one length, p holds row by row. -/
def bothM (p : List Int → List Int → Bool) (a b : List (List Int)) : Bool := a.length == b.length && allN a.length fun j => p (rowAt a j) (rowAt b j)
theorem bothM_len {p : List Int → List Int → Bool} {a b : List (List Int)} (h : ¬ (a.length : Int) = (b.length : Int)) : bothM p a b = false := by
  have : (a.length == b.length) = false := by simp; omega
  unfold bothM; rw [this]; rfl
theorem bothM_no {p : List Int → List Int → Bool} {a b : List (List Int)} {k : Nat} (hk : k < a.length) (h : p (rowAt a k) (rowAt b k) = false) : bothM p a b = false := by
  unfold bothM; rw [allN_false hk h, Bool.and_false]
theorem bothM_yes {p : List Int → List Int → Bool} {a b : List (List Int)} (hl : (a.length : Int) = (b.length : Int)) (h : ∀ j, j < a.length → p (rowAt a j) (rowAt b j) = true) : bothM p a b = true := by
  unfold bothM; rw [allN_true h]; simp; omega
def eqM (a b : List (List Int)) : Bool := bothM eqB a b
theorem eqM_refl (a : List (List Int)) : eqM a a = true := bothM_yes rfl fun _ _ => eqB_refl _
def wayB (a b : List (List Int)) : Bool := squB a && squB b && bothM pairB a b
theorem matB_nums {m : List (List Int)} (h : matB m = true) {k : Nat} (hk : k < m.length) : numsB (rowAt m k) = true := by
  unfold matB at h
  simp only [Bool.and_eq_true] at h
  have := allN_iff.1 h.2 k hk
  unfold mrowB vecB at this
  simp only [Bool.and_eq_true] at this
  exact this.1.2
theorem squB_mat {m : List (List Int)} (h : squB m = true) : matB m = true := by
  unfold squB at h; simp only [Bool.and_eq_true] at h; exact h.1
theorem way_ord {a b : List (List Int)} (ha : squB a = true) (hb : squB b = true) : bothM ordB a b = bothM pairB a b := by
  unfold bothM
  by_cases hl : a.length = b.length
  · congr 1
    exact allN_congr fun j hj => ordB_pairB (matB_nums (squB_mat ha) hj) (matB_nums (squB_mat hb) (by omega))
  · have : (a.length == b.length) = false := by simpa using hl
    rw [this]; rfl
theorem wayB_no1 {a b : List (List Int)} (h : squB a = false) : wayB a b = false := by unfold wayB; rw [h]; rfl
theorem wayB_no2 {a b : List (List Int)} (h : squB b = false) : wayB a b = false := by unfold wayB; rw [h, Bool.and_false]; rfl
theorem wayB_is {a b : List (List Int)} (ha : squB a = true) (hb : squB b = true) : wayB a b = bothM pairB a b := by unfold wayB; rw [ha, hb]; rfl

/-- The sum of the first k rows' lengths. -/
def sumM (m : List (List Int)) : Nat → Nat
  | 0 => 0
  | k + 1 => sumM m k + (rowAt m k).length
theorem sumM_le (l : List (List Int)) {i k : Nat} (h : i < k) : (rowAt l i).length ≤ sumM l k := by
  induction k with
  | zero => omega
  | succ k ih =>
    show _ ≤ sumM l k + (rowAt l k).length
    rcases Nat.lt_or_ge i k with h1 | h1
    · have := ih h1; omega
    · rw [show i = k by omega]; omega
theorem sumM_mono (l : List (List Int)) {i k : Nat} (h : i ≤ k) : sumM l i ≤ sumM l k := by
  induction k with
  | zero => rw [show i = 0 by omega]; exact Nat.le_refl _
  | succ k ih =>
    rcases Nat.lt_or_ge i (k + 1) with h1 | h1
    · have := ih (by omega); show _ ≤ sumM l k + (rowAt l k).length; omega
    · rw [show i = k + 1 by omega]; exact Nat.le_refl _
def szM (l : List (List Int)) (left : Int) : Int := if left - l.length - sumM l l.length < 0 then -1 else left - l.length - sumM l l.length
theorem szM_no {l : List (List Int)} {left : Int} {k : Nat} (hk : k ≤ l.length) (h : left - l.length - sumM l k < 0) : szM l left = -1 := by
  unfold szM; have := sumM_mono l hk; rw [if_pos (by omega)]
theorem szM_yes {l : List (List Int)} {left : Int} (h : 0 ≤ left - l.length - sumM l l.length) : szM l left = left - l.length - sumM l l.length := by
  unfold szM; rw [if_neg (by omega)]
theorem szM_get {l : List (List Int)} {left : Int} (h : 0 ≤ szM l left) : (l.length : Int) ≤ left ∧ szM l left ≤ left ∧ ∀ i, i < l.length → ((rowAt l i).length : Int) ≤ left := by
  unfold szM at h ⊢
  split at h
  · omega
  · rename_i h0
    refine ⟨by omega, by rw [if_neg h0]; omega, fun i hi => ?_⟩
    have := sumM_le l hi
    omega
def szI (l : List Int) (left : Int) : Int := if left - l.length < 0 then -1 else left - l.length

end Go.Proofs.Ytpimjkhfookipaa
