/- Plain functions on lists of rows, and laws on them. No conditions. -/
import Derived.Test.YteapdildbfimnaaPure
import Derived.Test.YteapdildbfimnaaEngE
import Derived.Lib.Join
import Derived.Lib.Bytealg
namespace Go.Proofs.Yteapdildbfimnaa
set_option linter.unusedSimpArgs false
set_option linter.unusedVariables false

abbrev rowAt (m : List (List Int)) (i : Nat) : List Int := m.getD i []
abbrev rows (m : List (List Int)) : V := .seq 1 m.length fun i => ints (rowAt m i)

/-- The first number below n at which p holds, or -1. -/
def firstN (p : Nat → Bool) : Nat → Int
  | 0 => -1
  | n + 1 => if 0 ≤ firstN p n then firstN p n else if p n = true then (n : Int) else -1
theorem firstN_none {p : Nat → Bool} : ∀ {n : Nat}, (∀ j, j < n → p j = false) → firstN p n = -1
  | 0, _ => rfl
  | n + 1, h => by
    show (if 0 ≤ firstN p n then firstN p n else if p n = true then (n : Int) else -1) = -1
    rw [firstN_none fun j hj => h j (by omega), h n (by omega)]; simp
theorem firstN_at {p : Nat → Bool} {k : Nat} (h : ∀ j, j < k → p j = false) (hk : p k = true) : ∀ {n : Nat}, k < n → firstN p n = k
  | 0, h0 => by omega
  | n + 1, h0 => by
    show (if 0 ≤ firstN p n then firstN p n else if p n = true then (n : Int) else -1) = k
    rcases Nat.lt_or_ge k n with h1 | h1
    · rw [firstN_at h hk h1, if_pos (by omega)]
    · obtain rfl : k = n := by omega
      rw [firstN_none h, if_neg (by omega), if_pos hk]
def anyN (n : Nat) (p : Nat → Bool) : Bool := !allN n fun i => !p i
theorem anyN_first (p : Nat → Bool) (n : Nat) : decide (firstN p n ≥ 0) = anyN n p := by
  unfold anyN
  cases e : allN n fun i => !p i with
  | true =>
    rw [allN_iff] at e
    rw [firstN_none fun j hj => by simpa using e j hj]; rfl
  | false =>
    have : ∃ k, k < n ∧ p k = true ∧ ∀ j, j < k → p j = false := by
      induction n with
      | zero => simp [allN] at e
      | succ n ih =>
        cases e2 : allN n fun i => !p i with
        | false =>
          obtain ⟨k, h1, h2, h3⟩ := ih e2
          exact ⟨k, by omega, h2, h3⟩
        | true =>
          rw [allN_iff] at e2
          refine ⟨n, by omega, ?_, fun j hj => by simpa using e2 j hj⟩
          cases h : p n with
          | true => rfl
          | false =>
            have : (allN (n + 1) fun i => !p i) = true := allN_true fun j hj => by
              rcases Nat.lt_or_ge j n with h1 | h1
              · exact e2 j h1
              · rw [show j = n by omega, h]; rfl
            rw [this] at e; cases e
    obtain ⟨k, h1, h2, h3⟩ := this
    rw [firstN_at h3 h2 h1]
    simp

def vecB (l : List Int) : Bool := inB l.length 1 6 && numsB l
theorem vecB_in {l : List Int} (h : ¬ (1 ≤ (l.length : Int) ∧ (l.length : Int) ≤ 6)) : vecB l = false := by unfold vecB; rw [inB_false.2 h]; rfl
theorem vecB_is {l : List Int} (h : 1 ≤ (l.length : Int) ∧ (l.length : Int) ≤ 6) : vecB l = numsB l := by unfold vecB; rw [inB_true.2 h]; rfl
theorem vecB_no {l : List Int} (h : numsB l = false) : vecB l = false := by unfold vecB; rw [h, Bool.and_false]
theorem vecB_yes {l : List Int} (h : numsB l = true) : vecB l = inB l.length 1 6 := by unfold vecB; rw [h, Bool.and_true]
/-- A row of a matrix with rows of length w. -/
def mrowB (w : Nat) (l : List Int) : Bool := vecB l && (l.length == w)
theorem mrowB_vec {w : Nat} {l : List Int} (h : vecB l = false) : mrowB w l = false := by unfold mrowB; rw [h]; rfl
theorem mrowB_len {w : Nat} {l : List Int} (h : ¬ (l.length : Int) = w) : mrowB w l = false := by
  have : (l.length == w) = false := by simp; omega
  unfold mrowB; rw [this, Bool.and_false]
theorem mrowB_is {w : Nat} {l : List Int} (h : vecB l = true) : mrowB w l = ((l.length : Int) == (w : Int)) := by
  unfold mrowB; rw [h, Bool.true_and]
  by_cases e : l.length = w
  · rw [e]; simp
  · rw [beq_eq_false_iff_ne.2 e, beq_eq_false_iff_ne.2 (by omega)]
theorem mrowB_yes {w : Nat} {l : List Int} (h : vecB l = true) (h2 : (l.length : Int) = w) : mrowB w l = true := by
  have : (l.length == w) = true := by simp; omega
  unfold mrowB; rw [h, this]; rfl
def matB (m : List (List Int)) : Bool := inB m.length 1 6 && allN m.length fun i => mrowB (rowAt m 0).length (rowAt m i)
theorem matB_in {m : List (List Int)} (h : ¬ (1 ≤ (m.length : Int) ∧ (m.length : Int) ≤ 6)) : matB m = false := by unfold matB; rw [inB_false.2 h]; rfl
theorem matB_is {m : List (List Int)} (h : 1 ≤ (m.length : Int) ∧ (m.length : Int) ≤ 6) : matB m = allN m.length fun i => mrowB (rowAt m 0).length (rowAt m i) := by unfold matB; rw [inB_true.2 h]; rfl
theorem matB_row {m : List (List Int)} {k : Nat} (hk : k < m.length) (h : mrowB (rowAt m 0).length (rowAt m k) = false) : matB m = false := by unfold matB; rw [allN_false hk h, Bool.and_false]
theorem matB_len {m : List (List Int)} (h : matB m = true) : (1 ≤ m.length ∧ m.length ≤ 6) ∧ (1 ≤ (rowAt m 0).length ∧ (rowAt m 0).length ≤ 6) := by
  unfold matB at h
  simp only [Bool.and_eq_true] at h
  have h1 := inB_true.1 h.1
  refine ⟨by omega, ?_⟩
  have h2 := allN_iff.1 h.2 0 (by omega)
  unfold mrowB vecB at h2
  simp only [Bool.and_eq_true] at h2
  have := inB_true.1 h2.1.1
  omega
theorem matB_row0 {m : List (List Int)} (h : ¬ (1 ≤ ((rowAt m 0).length : Int) ∧ ((rowAt m 0).length : Int) ≤ 6)) : matB m = false := by
  cases e : matB m with
  | false => rfl
  | true => have := (matB_len e).2; omega
def squB (m : List (List Int)) : Bool := matB m && (m.length == (rowAt m 0).length)
theorem squB_no {m : List (List Int)} (h : matB m = false) : squB m = false := by unfold squB; rw [h]; rfl
theorem squB_is {m : List (List Int)} (h : matB m = true) : squB m = ((m.length : Int) == ((rowAt m 0).length : Int)) := by
  unfold squB; rw [h, Bool.true_and]
  by_cases e : m.length = (rowAt m 0).length
  · rw [e]; simp
  · rw [beq_eq_false_iff_ne.2 e, beq_eq_false_iff_ne.2 (by omega)]
/-- Two lists of rows of one length, p holds row by row. -/
def bothM (p : List Int → List Int → Bool) (a b : List (List Int)) : Bool := a.length == b.length && allN a.length fun j => p (rowAt a j) (rowAt b j)
theorem bothM_len {p : List Int → List Int → Bool} {a b : List (List Int)} (h : ¬ (a.length : Int) = (b.length : Int)) : bothM p a b = false := by
  have : (a.length == b.length) = false := by simp; omega
  unfold bothM; rw [this]; rfl
theorem bothM_no {p : List Int → List Int → Bool} {a b : List (List Int)} {k : Nat} (hk : k < a.length) (h : p (rowAt a k) (rowAt b k) = false) : bothM p a b = false := by
  unfold bothM; rw [allN_false hk h, Bool.and_false]
theorem bothM_yes {p : List Int → List Int → Bool} {a b : List (List Int)} (hl : (a.length : Int) = (b.length : Int)) (h : ∀ j, j < a.length → p (rowAt a j) (rowAt b j) = true) : bothM p a b = true := by
  unfold bothM; rw [allN_true h]; simp; omega
def eqM (a b : List (List Int)) : Bool := bothM eqB a b
theorem eqM_refl (a : List (List Int)) : eqM a a = true := bothM_yes rfl fun _ _ => eqB_refl _
def wayB (a b : List (List Int)) : Bool := squB a && squB b && bothM pairB a b
theorem matB_nums {m : List (List Int)} (h : matB m = true) {k : Nat} (hk : k < m.length) : numsB (rowAt m k) = true := by
  unfold matB at h
  simp only [Bool.and_eq_true] at h
  have := allN_iff.1 h.2 k hk
  unfold mrowB vecB at this
  simp only [Bool.and_eq_true] at this
  exact this.1.2
theorem squB_mat {m : List (List Int)} (h : squB m = true) : matB m = true := by
  unfold squB at h; simp only [Bool.and_eq_true] at h; exact h.1
theorem way_ord {a b : List (List Int)} (ha : squB a = true) (hb : squB b = true) : bothM ordB a b = bothM pairB a b := by
  unfold bothM
  by_cases hl : a.length = b.length
  · congr 1
    exact allN_congr fun j hj => ordB_pairB (matB_nums (squB_mat ha) hj) (matB_nums (squB_mat hb) (by omega))
  · have : (a.length == b.length) = false := by simpa using hl
    rw [this]; rfl
theorem wayB_no1 {a b : List (List Int)} (h : squB a = false) : wayB a b = false := by unfold wayB; rw [h]; rfl
theorem wayB_no2 {a b : List (List Int)} (h : squB b = false) : wayB a b = false := by unfold wayB; rw [h, Bool.and_false]; rfl
theorem wayB_is {a b : List (List Int)} (ha : squB a = true) (hb : squB b = true) : wayB a b = bothM pairB a b := by unfold wayB; rw [ha, hb]; rfl

/-- The sum of the first k rows' lengths. -/
def sumM (m : List (List Int)) : Nat → Nat
  | 0 => 0
  | k + 1 => sumM m k + (rowAt m k).length
theorem sumM_le (l : List (List Int)) {i k : Nat} (h : i < k) : (rowAt l i).length ≤ sumM l k := by
  induction k with
  | zero => omega
  | succ k ih =>
    show _ ≤ sumM l k + (rowAt l k).length
    rcases Nat.lt_or_ge i k with h1 | h1
    · have := ih h1; omega
    · rw [show i = k by omega]; omega
theorem sumM_mono (l : List (List Int)) {i k : Nat} (h : i ≤ k) : sumM l i ≤ sumM l k := by
  induction k with
  | zero => rw [show i = 0 by omega]; exact Nat.le_refl _
  | succ k ih =>
    rcases Nat.lt_or_ge i (k + 1) with h1 | h1
    · have := ih (by omega); show _ ≤ sumM l k + (rowAt l k).length; omega
    · rw [show i = k + 1 by omega]; exact Nat.le_refl _
def szM (l : List (List Int)) (left : Int) : Int := if left - l.length - sumM l l.length < 0 then -1 else left - l.length - sumM l l.length
theorem szM_no {l : List (List Int)} {left : Int} {k : Nat} (hk : k ≤ l.length) (h : left - l.length - sumM l k < 0) : szM l left = -1 := by
  unfold szM; have := sumM_mono l hk; rw [if_pos (by omega)]
theorem szM_yes {l : List (List Int)} {left : Int} (h : 0 ≤ left - l.length - sumM l l.length) : szM l left = left - l.length - sumM l l.length := by
  unfold szM; rw [if_neg (by omega)]
theorem szM_get {l : List (List Int)} {left : Int} (h : 0 ≤ szM l left) : (l.length : Int) ≤ left ∧ szM l left ≤ left ∧ ∀ i, i < l.length → ((rowAt l i).length : Int) ≤ left := by
  unfold szM at h ⊢
  split at h
  · omega
  · rename_i h0
    refine ⟨by omega, by rw [if_neg h0]; omega, fun i hi => ?_⟩
    have := sumM_le l hi
    omega
def szI (l : List Int) (left : Int) : Int := if left - l.length < 0 then -1 else left - l.length

set_option linter.unusedSimpArgs false
set_option linter.unusedVariables false

abbrev vs (b : ByteArray) : V := .val (.string b)
abbrev vu (n : Int) : V := .val (.int .u8 n)
abbrev stAt (l : List ByteArray) (i : Nat) : ByteArray := l.getD i ByteArray.empty
abbrev strs (l : List ByteArray) : V := .seq 1 l.length fun i => vs (stAt l i)
def lenB (b : ByteArray) : Nat := (bytesOf b).length
theorem lenB_is (b : ByteArray) : (bytesOf b).length = lenB b := rfl
theorem lenB_size (b : ByteArray) : lenB b = b.size := Array.length_toList

/-- The sum of the first k lengths. -/
def sumB (l : List ByteArray) : Nat → Nat
  | 0 => 0
  | k + 1 => sumB l k + lenB (stAt l k)
theorem sumB_le (l : List ByteArray) {i k : Nat} (h : i < k) : lenB (stAt l i) ≤ sumB l k := by
  induction k with
  | zero => omega
  | succ k ih =>
    show _ ≤ sumB l k + lenB (stAt l k)
    rcases Nat.lt_or_ge i k with h1 | h1
    · have := ih h1; omega
    · rw [show i = k by omega]; omega
theorem sumB_mono (l : List ByteArray) {i k : Nat} (h : i ≤ k) : sumB l i ≤ sumB l k := by
  induction k with
  | zero => rw [show i = 0 by omega]; exact Nat.le_refl _
  | succ k ih =>
    rcases Nat.lt_or_ge i (k + 1) with h1 | h1
    · have := ih (by omega); show _ ≤ sumB l k + lenB (stAt l k); omega
    · rw [show i = k + 1 by omega]; exact Nat.le_refl _
def szR (l : List ByteArray) (left : Int) : Int := if left - l.length - sumB l l.length < 0 then -1 else left - l.length - sumB l l.length
theorem szR_no {l : List ByteArray} {left : Int} {k : Nat} (hk : k ≤ l.length) (h : left - l.length - sumB l k < 0) : szR l left = -1 := by
  unfold szR; have := sumB_mono l hk; rw [if_pos (by omega)]
theorem szR_yes {l : List ByteArray} {left : Int} (h : 0 ≤ left - l.length - sumB l l.length) : szR l left = left - l.length - sumB l l.length := by
  unfold szR; rw [if_neg (by omega)]
theorem szR_get {l : List ByteArray} {left : Int} (h : 0 ≤ szR l left) : (l.length : Int) ≤ left ∧ ∀ i, i < l.length → (lenB (stAt l i) : Int) ≤ left := by
  unfold szR at h
  split at h
  · omega
  · refine ⟨by omega, fun i hi => ?_⟩
    have := sumB_le l hi
    omega

theorem stAt_out {l : List ByteArray} {i : Nat} (h : l.length ≤ i) : stAt l i = ByteArray.empty := by simp [stAt, List.getD, h]
theorem szR_all {l : List ByteArray} {left : Int} (h : 0 ≤ szR l left) (i : Nat) : (lenB (stAt l i) : Int) ≤ left := by
  rcases Nat.lt_or_ge i l.length with h1 | h1
  · exact (szR_get h).2 i h1
  · rw [stAt_out h1, lenB_size]
    have := (szR_get h).1
    show ((0 : Nat) : Int) ≤ left
    omega

def ltrI (n : Int) : Bool := (n == 42) || (decide (97 ≤ n) && decide (n ≤ 108))
theorem ltrI_star {n : Int} (h : n = 42) : ltrI n = true := by subst h; rfl
theorem ltrI_in {n : Int} (h : 97 ≤ n) (h2 : n ≤ 108) : ltrI n = true := by simp [ltrI, h, h2]
theorem ltrI_lo {n : Int} (h : ¬ n = 42) (h2 : n < 97) : ltrI n = false := by simp [ltrI, h]; omega
theorem ltrI_hi {n : Int} (h : ¬ n = 42) (h2 : 108 < n) : ltrI n = false := by simp [ltrI, h]; omega
/-- Byte j of a string, as a number. -/
def byteI (b : ByteArray) (j : Nat) : Int := ((bytesOf b).getD j 0).toNat
theorem byteI_lt (b : ByteArray) (j : Nat) : 0 ≤ byteI b j ∧ byteI b j ≤ 255 := by
  unfold byteI
  have := ((bytesOf b).getD j 0).toNat_lt
  omega
def letsB (b : ByteArray) : Bool := allN (lenB b) fun j => ltrI (byteI b j)
def rowB (w : Nat) (b : ByteArray) : Bool := (lenB b == w) && letsB b
theorem rowB_len {w : Nat} {b : ByteArray} (h : ¬ (lenB b : Int) = w) : rowB w b = false := by
  have : (lenB b == w) = false := by simp; omega
  unfold rowB; rw [this]; rfl
theorem rowB_let {w : Nat} {b : ByteArray} (h : letsB b = false) : rowB w b = false := by unfold rowB; rw [h, Bool.and_false]
theorem rowB_yes {w : Nat} {b : ByteArray} (h : (lenB b : Int) = w) (h2 : letsB b = true) : rowB w b = true := by
  have : (lenB b == w) = true := by simp; omega
  unfold rowB; rw [this, h2]; rfl
def picB (l : List ByteArray) : Bool := inB l.length 1 16 && inB (lenB (stAt l 0)) 1 16 && allN l.length fun i => rowB (lenB (stAt l 0)) (stAt l i)
theorem picB_no1 {l : List ByteArray} (h : inB l.length 1 16 = false) : picB l = false := by unfold picB; rw [h]; rfl
theorem picB_no2 {l : List ByteArray} (h : inB (lenB (stAt l 0)) 1 16 = false) : picB l = false := by unfold picB; rw [h, Bool.and_false]; rfl
theorem picB_no12 {l : List ByteArray} (h : (inB (lenB (stAt l 0)) 1 16 && inB l.length 1 16) = false) : picB l = false := by
  unfold picB; rw [Bool.and_comm (inB l.length 1 16), h]; rfl
theorem picB_no3 {l : List ByteArray} {k : Nat} (hk : k < l.length) (h : rowB (lenB (stAt l 0)) (stAt l k) = false) : picB l = false := by unfold picB; rw [allN_false hk h, Bool.and_false]
theorem picB_yes {l : List ByteArray} (h1 : inB l.length 1 16 = true) (h2 : inB (lenB (stAt l 0)) 1 16 = true) (h3 : ∀ i, i < l.length → rowB (lenB (stAt l 0)) (stAt l i) = true) : picB l = true := by
  unfold picB; rw [h1, h2, allN_true h3]; rfl
theorem picB_parts {l : List ByteArray} (h : picB l = true) : (1 ≤ l.length ∧ l.length ≤ 16) ∧ (1 ≤ lenB (stAt l 0) ∧ lenB (stAt l 0) ≤ 16) ∧ ∀ i, i < l.length → lenB (stAt l i) = lenB (stAt l 0) := by
  unfold picB at h
  simp only [Bool.and_eq_true] at h
  refine ⟨?_, ?_, fun i hi => ?_⟩
  · have := inB_true.1 h.1.1; omega
  · have := inB_true.1 h.1.2; omega
  · have := allN_iff.1 h.2 i hi
    unfold rowB at this
    simp only [Bool.and_eq_true, beq_iff_eq] at this
    exact this.1

/-- Two strings are one. -/
def seqB (a b : ByteArray) : Bool := bytesOf a == bytesOf b
theorem seqB_refl (a : ByteArray) : seqB a a = true := by simp [seqB]
theorem seqB_true {a b : ByteArray} (h : bytesOf a = bytesOf b) : seqB a b = true := by simp [seqB, h]
def eqSB (a b : List ByteArray) : Bool := (a.length == b.length) && allN a.length fun i => seqB (stAt a i) (stAt b i)
theorem eqSB_len {a b : List ByteArray} (h : ¬ (a.length : Int) = b.length) : eqSB a b = false := by
  have : (a.length == b.length) = false := by simp; omega
  unfold eqSB; rw [this]; rfl
theorem eqSB_no {a b : List ByteArray} {k : Nat} (hk : k < a.length) (h : seqB (stAt a k) (stAt b k) = false) : eqSB a b = false := by unfold eqSB; rw [allN_false hk h, Bool.and_false]
theorem eqSB_yes {a b : List ByteArray} (h : (a.length : Int) = b.length) (h2 : ∀ i, i < a.length → seqB (stAt a i) (stAt b i) = true) : eqSB a b = true := by
  have : (a.length == b.length) = true := by simp; omega
  unfold eqSB; rw [this, allN_true h2]; rfl
theorem eqSB_refl (a : List ByteArray) : eqSB a a = true := eqSB_yes rfl fun _ _ => seqB_refl _

set_option linter.unusedSimpArgs false
set_option linter.unusedVariables false

abbrev T3 := Int × Int × Int
abbrev tAt (l : List T3) (k : Nat) : T3 := l.getD k (0, 0, 0)
/-- The cells of terms, one after the other. -/
def tf (l : List T3) (i : Nat) : Int := if i % 3 = 0 then (tAt l (i / 3)).1 else if i % 3 = 1 then (tAt l (i / 3)).2.1 else (tAt l (i / 3)).2.2
theorem tf_0 (l : List T3) (k : Nat) : tf l (k * 3) = (tAt l k).1 := by unfold tf; rw [if_pos (by omega), show k * 3 / 3 = k by omega]
theorem tf_1 (l : List T3) (k : Nat) : tf l (k * 3 + 1) = (tAt l k).2.1 := by unfold tf; rw [if_neg (by omega), if_pos (by omega), show (k * 3 + 1) / 3 = k by omega]
theorem tf_2 (l : List T3) (k : Nat) : tf l (k * 3 + 2) = (tAt l k).2.2 := by unfold tf; rw [if_neg (by omega), if_neg (by omega), show (k * 3 + 2) / 3 = k by omega]
theorem tf_00 (l : List T3) : tf l 0 = (tAt l 0).1 := tf_0 l 0
theorem tf_01 (l : List T3) : tf l 1 = (tAt l 0).2.1 := tf_1 l 0
theorem tf_02 (l : List T3) : tf l 2 = (tAt l 0).2.2 := tf_2 l 0
abbrev terms (l : List T3) : V := .seq 3 l.length fun i => vi (tf l i)
/-- One term's cells. -/
def t3 (t : T3) (j : Nat) : Int := if j = 0 then t.1 else if j = 1 then t.2.1 else t.2.2
theorem t3_0 (t : T3) : t3 t 0 = t.1 := rfl
theorem t3_1 (t : T3) : t3 t 1 = t.2.1 := rfl
theorem t3_2 (t : T3) : t3 t 2 = t.2.2 := rfl
abbrev term (t : T3) : V := .agg 3 fun j => vi (t3 t j)
theorem tf_t3 (l : List T3) (k : Nat) {j : Nat} (hj : j < 3) : tf l (k * 3 + j) = t3 (tAt l k) j := by
  unfold tf t3
  rw [show (k * 3 + j) / 3 = k by omega, show (k * 3 + j) % 3 = j by omega]

def termB (t : T3) : Bool := decide (0 ≤ t.1) && decide (0 ≤ t.2.1) && decide (t.1 + t.2.1 ≤ 6) && finB t.2.2
theorem termB_iff {t : T3} : termB t = true ↔ 0 ≤ t.1 ∧ 0 ≤ t.2.1 ∧ t.1 + t.2.1 ≤ 6 ∧ -1000000 ≤ t.2.2 ∧ t.2.2 ≤ 1000000 := by
  simp [termB, finB]; omega
theorem termB_no {t : T3} (h : ¬ (0 ≤ t.1 ∧ 0 ≤ t.2.1 ∧ t.1 + t.2.1 ≤ 6 ∧ -1000000 ≤ t.2.2 ∧ t.2.2 ≤ 1000000)) : termB t = false := by
  cases e : termB t with
  | false => rfl
  | true => exact absurd (termB_iff.1 e) h
def befB (a b : T3) : Bool := decide (a.1 < b.1) || (decide (a.1 = b.1) && decide (a.2.1 < b.2.1))
theorem befB_iff {a b : T3} : befB a b = true ↔ a.1 < b.1 ∨ (a.1 = b.1 ∧ a.2.1 < b.2.1) := by simp [befB]
theorem befB_no {a b : T3} (h : ¬ (a.1 < b.1 ∨ (a.1 = b.1 ∧ a.2.1 < b.2.1))) : befB a b = false := by
  cases e : befB a b with
  | false => rfl
  | true => exact absurd (befB_iff.1 e) h
def cmpI (a b : T3) : Int := if a.1 = b.1 then a.2.1 - b.2.1 else a.1 - b.1
theorem cmpI_bef (a b : T3) : decide (cmpI a b ≥ 0) = !befB a b := by
  unfold cmpI
  cases e : befB a b with
  | true =>
    have := befB_iff.1 e
    split <;> simp <;> omega
  | false =>
    have : ¬ (a.1 < b.1 ∨ (a.1 = b.1 ∧ a.2.1 < b.2.1)) := fun h => by rw [befB_iff.2 h] at e; cases e
    split <;> simp <;> omega
theorem cmpI_ge {a b : T3} (h : 0 ≤ cmpI a b) : befB a b = false := by
  have := cmpI_bef a b
  rw [decide_eq_true (show cmpI a b ≥ 0 from h)] at this
  cases e : befB a b with
  | false => rfl
  | true => rw [e] at this; cases this
theorem cmpI_lt {a b : T3} (h : cmpI a b < 0) : befB a b = true := by
  have := cmpI_bef a b
  rw [decide_eq_false (show ¬ cmpI a b ≥ 0 by omega)] at this
  cases e : befB a b with
  | true => rfl
  | false => rw [e] at this; cases this
theorem ve_agg3 {f g : Nat → V} (h : ∀ i, i < 3 → f i = g i) : VE (.agg 3 f) (.agg 3 g) := ⟨rfl, fun i hi => VE.of_eq (h i hi)⟩
/-- Place k of a plane polynomial is in order. -/
def plkB (l : List T3) (k : Nat) : Bool := termB (tAt l k) && (decide (k = 0) || befB (tAt l (k - 1)) (tAt l k))
theorem plkB_term {l : List T3} {k : Nat} (h : termB (tAt l k) = false) : plkB l k = false := by unfold plkB; rw [h]; rfl
theorem plkB_zero {l : List T3} {k : Nat} (h : termB (tAt l k) = true) (hk : k = 0) : plkB l k = true := by unfold plkB; rw [h, decide_eq_true hk]; rfl
theorem plkB_bef {l : List T3} {k : Nat} (h : termB (tAt l k) = true) (hb : befB (tAt l (k - 1)) (tAt l k) = true) : plkB l k = true := by unfold plkB; rw [h, hb, Bool.or_true]; rfl
theorem plkB_nobef {l : List T3} {k : Nat} (hk : ¬ k = 0) (hb : befB (tAt l (k - 1)) (tAt l k) = false) : plkB l k = false := by unfold plkB; rw [hb, decide_eq_false hk, Bool.or_false, Bool.and_false]
theorem plkB_is {l : List T3} {k : Nat} (h : plkB l k = true) : termB (tAt l k) = true := by unfold plkB at h; simp only [Bool.and_eq_true] at h; exact h.1
def planeB (l : List T3) : Bool := inB l.length 1 12 && allN l.length (plkB l)
theorem planeB_in {l : List T3} (h : ¬ (1 ≤ (l.length : Int) ∧ (l.length : Int) ≤ 12)) : planeB l = false := by unfold planeB; rw [inB_false.2 h]; rfl
theorem planeB_no {l : List T3} {k : Nat} (hk : k < l.length) (h : plkB l k = false) : planeB l = false := by unfold planeB; rw [allN_false hk h, Bool.and_false]
theorem planeB_is {l : List T3} (h : ∀ k, k < l.length → plkB l k = true) : planeB l = inB l.length 1 12 := by unfold planeB; rw [allN_true h, Bool.and_true]
theorem planeB_parts {l : List T3} (h : planeB l = true) : (1 ≤ l.length ∧ l.length ≤ 12) ∧ ∀ k, k < l.length → termB (tAt l k) = true := by
  unfold planeB at h
  simp only [Bool.and_eq_true] at h
  have := inB_true.1 h.1
  exact ⟨by omega, fun k hk => plkB_is (allN_iff.1 h.2 k hk)⟩

/-- The least of b and the first k numbers. -/
def lowN (g : Nat → Int) (b : Int) : Nat → Int
  | 0 => b
  | k + 1 => min (lowN g b k) (g k)
theorem lowN_le (g : Nat → Int) (b : Int) : ∀ k, lowN g b k ≤ b
  | 0 => Int.le_refl _
  | k + 1 => by have := lowN_le g b k; show min _ _ ≤ _; rw [Int.min_def]; split <;> omega
theorem lowN_min (g : Nat → Int) (b c : Int) (h : c ≤ b) : ∀ k, lowN g c k = min c (lowN g b k)
  | 0 => by show c = min c b; rw [Int.min_def]; split <;> omega
  | k + 1 => by
    show min (lowN g c k) (g k) = min c (min (lowN g b k) (g k))
    rw [lowN_min g b c h k, Int.min_assoc]
theorem lowN_get (g : Nat → Int) (b : Int) : ∀ k j, j < k → lowN g b k ≤ g j
  | 0, j, h => by omega
  | k + 1, j, h => by
    show min _ _ ≤ _
    rcases Nat.lt_or_ge j k with h1 | h1
    · have := lowN_get g b k j h1; rw [Int.min_def]; split <;> omega
    · rw [show j = k by omega, Int.min_def]; split <;> omega
theorem lowN_first (g : Nat → Int) (b : Int) {n : Nat} (hn : 1 ≤ n) (h : g 0 ≤ b) : lowN g b n = lowN g (g 0) n := by
  rw [lowN_min g b (g 0) h n]
  have := lowN_get g b n 0 (by omega)
  rw [Int.min_def]; split <;> omega
theorem lowN_ge (g : Nat → Int) (b c : Int) (hb : c ≤ b) : ∀ k, (∀ j, j < k → c ≤ g j) → c ≤ lowN g b k
  | 0, _ => hb
  | k + 1, h => by
    have h1 := lowN_ge g b c hb k fun j hj => h j (by omega)
    have h2 := h k (by omega)
    show c ≤ min _ _
    rw [Int.min_def]; split <;> omega

def lowI (l : List T3) (b : Int) (k : Nat) : Int := lowN (fun j => (tAt l j).1) b k
def lowJ (l : List T3) (b : Int) (k : Nat) : Int := lowN (fun j => (tAt l j).2.1) b k
def normT (l : List T3) (i j : Int) (t : T3) : T3 := (t.1 - i, t.2.1 - j, t.2.2 - (tAt l 0).2.2)
def normL (l : List T3) : List T3 := l.map (normT l (lowI l 6 l.length) (lowJ l 6 l.length))
@[simp] theorem normL_len (l : List T3) : (normL l).length = l.length := by simp [normL]
theorem normL_get {l : List T3} {k : Nat} (h : k < l.length) : tAt (normL l) k = normT l (lowI l 6 l.length) (lowJ l 6 l.length) (tAt l k) := by simp [tAt, normL, List.getD, h]
def normR (l : List T3) : List T3 × Bool := if planeB l && planeB (normL l) then (normL l, true) else ([], false)
theorem normR_no {l : List T3} (h : planeB l = false) : normR l = ([], false) := by unfold normR; rw [h]; rfl
theorem normR_no2 {l : List T3} (h : planeB (normL l) = false) : normR l = ([], false) := by unfold normR; rw [h, Bool.and_false]; rfl
theorem normR_yes {l : List T3} (h : planeB l = true) (h2 : planeB (normL l) = true) : normR l = (normL l, true) := by unfold normR; rw [h, h2]; rfl
theorem low_first {l : List T3} (h : planeB l = true) : lowI l 6 l.length = lowI l (tAt l 0).1 l.length ∧ lowJ l 6 l.length = lowJ l (tAt l 0).2.1 l.length := by
  have h1 := planeB_parts h
  have h2 := termB_iff.1 (h1.2 0 (by omega))
  exact ⟨lowN_first _ _ h1.1.1 (by show (tAt l 0).1 ≤ 6; omega), lowN_first _ _ h1.1.1 (by show (tAt l 0).2.1 ≤ 6; omega)⟩

def eqT (a b : T3) : Bool := a.1 == b.1 && a.2.1 == b.2.1 && a.2.2 == b.2.2
theorem eqT_refl (a : T3) : eqT a a = true := by simp [eqT]
def eqTL (a b : List T3) : Bool := a.length == b.length && allN a.length fun k => eqT (tAt a k) (tAt b k)
theorem eqTL_len {a b : List T3} (h : ¬ (a.length : Int) = b.length) : eqTL a b = false := by
  have : (a.length == b.length) = false := by simp; omega
  unfold eqTL; rw [this]; rfl
theorem eqTL_no {a b : List T3} {k : Nat} (hk : k < a.length) (h : eqT (tAt a k) (tAt b k) = false) : eqTL a b = false := by unfold eqTL; rw [allN_false hk h, Bool.and_false]
theorem eqTL_yes {a b : List T3} (h : (a.length : Int) = b.length) (h2 : ∀ k, k < a.length → eqT (tAt a k) (tAt b k) = true) : eqTL a b = true := by
  have : (a.length == b.length) = true := by simp; omega
  unfold eqTL; rw [this, allN_true h2]; rfl
theorem eqTL_refl (a : List T3) : eqTL a a = true := eqTL_yes rfl fun _ _ => eqT_refl _

/-- Blocks of terms grown by one. -/
theorem grow3_be {e : TypeId} {k : Nat} {f g : Nat → V} (h : ∀ j, j < 3 → VE (g j) (f (k * 3 + j))) : BE ⟨e, (k + 1) * 3, fun i => if i < k * 3 then f i else g (i - k * 3)⟩ ⟨e, (k + 1) * 3, f⟩ := by
  refine ⟨rfl, Nat.le_refl _, fun i hi => ?_⟩
  have hi' : i < (k + 1) * 3 := hi
  show VE (if i < k * 3 then f i else g (i - k * 3)) (f i)
  by_cases h1 : i < k * 3
  · rw [if_pos h1]; exact VE.rfl' _
  · rw [if_neg h1]
    have := h (i - k * 3) (by omega)
    rwa [show k * 3 + (i - k * 3) = i by omega] at this

set_option linter.unusedSimpArgs false
set_option linter.unusedVariables false
open Go.Proofs

theorem bytes_app (a b : ByteArray) : bytesOf (a ++ b) = bytesOf a ++ bytesOf b := by simp [bytesOf]
theorem ba_ext {a b : ByteArray} (h : bytesOf a = bytesOf b) : a = b := by
  apply ByteArray.ext
  exact Array.toList_inj.1 h
def joinB (l : List ByteArray) (sep : ByteArray) : ByteArray := ⟨(Lib.join (l.map (·.data.toList)) sep.data.toList).toArray⟩
theorem joinB_bytes (l : List ByteArray) (sep : ByteArray) : bytesOf (joinB l sep) = Lib.join (l.map bytesOf) (bytesOf sep) := rfl

/-- The first k rows, each ended by a newline. -/
def txtK (l : List ByteArray) : Nat → ByteArray
  | 0 => ⟨#[]⟩
  | k + 1 => txtK l k ++ (stAt l k ++ ⟨#[10]⟩)
def txtL (l : List (List UInt8)) : List UInt8 := (l.map (· ++ [10])).flatten
theorem txtL_join : ∀ (x : List UInt8) (r : List (List UInt8)), Lib.join (x :: r) [10] ++ [10] = txtL (x :: r) := by
  intro x r
  rw [Lib.join_cons]
  induction r generalizing x with
  | nil => simp [Lib.joinTail, txtL]
  | cons y r ih =>
    have h := ih y
    simp only [Lib.joinTail, txtL, List.map_cons, List.flatten_cons, List.append_assoc] at h ⊢
    rw [h]
theorem txtK_bytes (l : List ByteArray) (k : Nat) (hk : k ≤ l.length) : bytesOf (txtK l k) = txtL ((l.take k).map bytesOf) := by
  induction k with
  | zero => rfl
  | succ k ih =>
    have h := ih (by omega)
    have hg : stAt l k = l[k] := by simp [stAt, List.getD, show k < l.length by omega]
    rw [txtK, bytes_app, bytes_app, h, hg, List.take_succ_eq_append_getElem (by omega)]
    unfold txtL
    rw [List.map_append, List.map_append, List.flatten_append]
    simp only [List.map_cons, List.map_nil, List.flatten_cons, List.flatten_nil, List.append_nil]; rfl
theorem txt_join {l : List ByteArray} (h : 0 < l.length) : joinB l ⟨#[10]⟩ ++ ⟨#[10]⟩ = txtK l l.length := by
  apply ba_ext
  rw [bytes_app, joinB_bytes, txtK_bytes l _ (Nat.le_refl _), List.take_length]
  match l, h with
  | x :: r, _ => exact txtL_join (bytesOf x) (r.map bytesOf)

/-- How many of the first j bytes are c. -/
def cntJ (b : ByteArray) (c : Int) : Nat → Nat
  | 0 => 0
  | j + 1 => cntJ b c j + if byteI b j = c then 1 else 0
def cntP (l : List ByteArray) (c : Int) : Nat → Nat
  | 0 => 0
  | k + 1 => cntP l c k + cntJ (stAt l k) c (lenB (stAt l k))
theorem cntJ_count (b : ByteArray) (c : UInt8) (j : Nat) (hj : j ≤ lenB b) : cntJ b c.toNat j = ((bytesOf b).take j).count c := by
  induction j with
  | zero => simp [cntJ]
  | succ j ih =>
    have hj' : j < (bytesOf b).length := by unfold lenB at hj; omega
    rw [cntJ, ih (by omega), List.take_succ_eq_append_getElem hj', List.count_append]
    congr 1
    have hb : byteI b j = (((bytesOf b)[j]).toNat : Int) := by unfold byteI; simp [List.getD, hj']
    rw [hb, List.count_singleton]
    by_cases e : (bytesOf b)[j] = c
    · rw [e]; simp
    · have : ¬ (((bytesOf b)[j]).toNat : Int) = (c.toNat : Int) := by
        intro h; apply e; apply UInt8.toNat_inj.1; omega
      rw [if_neg this, if_neg (by simpa using e)]
theorem cntJ_le (b : ByteArray) (c : Int) (j : Nat) : cntJ b c j ≤ j := by
  induction j with
  | zero => simp [cntJ]
  | succ j ih => rw [cntJ]; split <;> omega
theorem cntP_le (l : List ByteArray) (c : Int) (k : Nat) : cntP l c k ≤ sumB l k := by
  induction k with
  | zero => simp [cntP, sumB]
  | succ k ih => rw [cntP, sumB]; have := cntJ_le (stAt l k) c (lenB (stAt l k)); omega
theorem cntP_count (l : List ByteArray) (c : UInt8) (k : Nat) (hk : k ≤ l.length) : cntP l c.toNat k = (((l.take k).map bytesOf).flatten).count c := by
  induction k with
  | zero => simp [cntP]
  | succ k ih =>
    have hg : stAt l k = l[k] := by simp [stAt, List.getD, show k < l.length by omega]
    rw [cntP, ih (by omega), List.take_succ_eq_append_getElem (by omega), cntJ_count _ _ _ (Nat.le_refl _), hg]
    have e : (bytesOf l[k]).take (lenB l[k]) = bytesOf l[k] := List.take_length
    rw [e, List.map_append, List.flatten_append, List.count_append]
    simp only [List.map_cons, List.map_nil, List.flatten_cons, List.flatten_nil, List.append_nil]
theorem join_none (x : List (List UInt8)) : Lib.join x [] = x.flatten := by
  match x with
  | [] => rfl
  | x :: r => rw [Lib.join_cons]; simp [Lib.joinTail]
theorem cntP_join (l : List ByteArray) (c : UInt8) : Lib.countByte (joinB l ⟨#[]⟩).data.toList c = cntP l c.toNat l.length := by
  rw [cntP_count l c _ (Nat.le_refl _), List.take_length]
  show (bytesOf (joinB l ⟨#[]⟩)).count c = _
  rw [joinB_bytes]
  show (Lib.join (l.map bytesOf) []).count c = _
  rw [join_none]
theorem one_byte {b : ByteArray} (h : lenB b = 1) : ∃ c : UInt8, b = ⟨#[c]⟩ ∧ byteI b 0 = c.toNat := by
  unfold lenB at h
  match e : bytesOf b, h with
  | [c], _ => exact ⟨c, ba_ext e, by unfold byteI; rw [e]; rfl⟩

/-- The length of all rows with one more byte each. -/
theorem flatten_len (l : List ByteArray) : ∀ k, k ≤ l.length → (((l.take k).map bytesOf).flatten).length = sumB l k
  | 0, _ => by simp [sumB]
  | k + 1, hk => by
    have hg : stAt l k = l[k] := by simp [stAt, List.getD, show k < l.length by omega]
    rw [List.take_succ_eq_append_getElem (by omega), sumB, ← flatten_len l k (by omega), hg, List.map_append, List.flatten_append, List.length_append]
    simp only [List.map_cons, List.map_nil, List.flatten_cons, List.flatten_nil, List.append_nil]; rfl
theorem join_none_len (l : List ByteArray) : (Lib.join (l.map (·.data.toList)) []).length = sumB l l.length := by
  rw [join_none, ← flatten_len l _ (Nat.le_refl _), List.take_length]; rfl
theorem txtK_size (l : List ByteArray) : ∀ k, (txtK l k).size = sumB l k + k
  | 0 => rfl
  | k + 1 => by rw [txtK]; simp only [ByteArray.size_append]; rw [txtK_size l k, sumB, lenB_size]; show _ + (_ + 1) = _; omega
theorem join_nl_len {l : List ByteArray} (h : 0 < l.length) : (Lib.join (l.map (·.data.toList)) [10]).length + 1 = sumB l l.length + l.length := by
  have e := congrArg ByteArray.size (txt_join h)
  rw [txtK_size] at e
  simp only [ByteArray.size_append] at e
  rw [← e]
  rfl

def ptR (l : List ByteArray) : ByteArray × Bool := if picB l then (txtK l l.length, true) else (⟨#[]⟩, false)
theorem ptR_no {l : List ByteArray} (h : picB l = false) : ptR l = (⟨#[]⟩, false) := by unfold ptR; rw [h]; rfl
theorem ptR_yes {l : List ByteArray} (h : picB l = true) : ptR l = (txtK l l.length, true) := by unfold ptR; rw [h]; rfl
theorem picB_sum {l : List ByteArray} (h : picB l = true) : ∀ k, k ≤ l.length → sumB l k ≤ 16 * k
  | 0, _ => by simp [sumB]
  | k + 1, hk => by
    have h1 := picB_sum h k (by omega)
    obtain ⟨h2, h3, h4⟩ := picB_parts h
    have := h4 k (by omega)
    rw [sumB]; omega

def mrkB (b : ByteArray) : Bool := decide (lenB b = 1) && ltrI (byteI b 0)
def clR (l : List ByteArray) (b : ByteArray) : Int × Bool := if picB l && mrkB b then (((cntP l (byteI b 0) l.length : Nat) : Int), true) else (0, false)
theorem clR_no1 {l : List ByteArray} {b : ByteArray} (h : picB l = false) : clR l b = (0, false) := by unfold clR; rw [h]; rfl
theorem clR_no2 {l : List ByteArray} {b : ByteArray} (h : mrkB b = false) : clR l b = (0, false) := by unfold clR; rw [h, Bool.and_false]; rfl
theorem clR_yes {l : List ByteArray} {b : ByteArray} (h : picB l = true) (h2 : mrkB b = true) : clR l b = (((cntP l (byteI b 0) l.length : Nat) : Int), true) := by unfold clR; rw [h, h2]; rfl
theorem mrkB_len {b : ByteArray} (h : ¬ (lenB b : Int) = 1) : mrkB b = false := by unfold mrkB; rw [decide_eq_false (by omega)]; rfl
theorem mrkB_is {b : ByteArray} (h : (lenB b : Int) = 1) : mrkB b = ltrI (byteI b 0) := by unfold mrkB; rw [decide_eq_true (by omega)]; rfl
theorem picB_one {b : ByteArray} (h : lenB b = 1) : picB [b] = ltrI (byteI b 0) := by
  have e0 : stAt [b] 0 = b := rfl
  have e1 : (inB (([b].length : Nat) : Int) 1 16 && inB (lenB (stAt [b] 0)) 1 16 && allN [b].length fun i => rowB (lenB (stAt [b] 0)) (stAt [b] i)) = rowB 1 b := by
    rw [e0, h]
    simp [allN, inB]
  have e2 : rowB 1 b = ltrI (byteI b 0) := by
    unfold rowB letsB
    rw [h]
    simp [allN]
  unfold picB
  rw [e1, e2]

set_option linter.unusedSimpArgs false
set_option linter.unusedVariables false

abbrev matAt (s : List (List (List Int))) (i : Nat) : List (List Int) := s.getD i []
abbrev mats (s : List (List (List Int))) : V := .seq 1 s.length fun i => rows (matAt s i)
def autF (a e : List Int) (s : List (List (List Int))) : Nat → V
  | 0 => ints a
  | 1 => ints e
  | _ => mats s
theorem autF_0 (a e : List Int) (s : List (List (List Int))) : autF a e s 0 = ints a := rfl
theorem autF_1 (a e : List Int) (s : List (List (List Int))) : autF a e s 1 = ints e := rfl
theorem autF_2 (a e : List Int) (s : List (List (List Int))) : autF a e s 2 = mats s := rfl
abbrev autV (a e : List Int) (s : List (List (List Int))) : V := .agg 3 (autF a e s)

def costB (n : Int) : Bool := n == 1000000000 || inB n (-1000) 1000
theorem costB_num {n : Int} (h : costB n = true) : numB n = true := by
  unfold costB at h
  simp only [Bool.or_eq_true, beq_iff_eq] at h
  rcases h with h | h
  · exact numB_inf h
  · have := inB_true.1 h
    exact numB_fin (by omega)
def costsB (l : List Int) : Bool := allN l.length fun i => costB (l.getD i 0)
theorem costsB_nums {l : List Int} (h : costsB l = true) : numsB l = true := allN_true fun j hj => costB_num (allN_iff.1 h j hj)
def costV (l : List Int) (n : Nat) : Bool := costsB l && (l.length == n)
/-- All rows are lists of n costs. -/
def costM (m : List (List Int)) (n : Nat) : Bool := (m.length == n) && allN m.length fun i => costV (rowAt m i) n
theorem costM_len {m : List (List Int)} {n : Nat} (h : ¬ (m.length : Int) = n) : costM m n = false := by
  have : (m.length == n) = false := by simp; omega
  unfold costM; rw [this]; rfl
theorem costM_no {m : List (List Int)} {n k : Nat} (hk : k < m.length) (h : costV (rowAt m k) n = false) : costM m n = false := by unfold costM; rw [allN_false hk h, Bool.and_false]
theorem costM_yes {m : List (List Int)} {n : Nat} (h : (m.length : Int) = n) (h2 : ∀ k, k < m.length → costV (rowAt m k) n = true) : costM m n = true := by
  have : (m.length == n) = true := by simp; omega
  unfold costM; rw [this, allN_true h2]; rfl
/-- The program's words: a square matrix of n rows, all rows costs. -/
theorem costM_sq {m : List (List Int)} {n : Nat} (hn : 1 ≤ n ∧ n ≤ 6) : costM m n = (squB m && ((m.length : Int) == (n : Int)) && !anyN m.length fun i => !costsB (rowAt m i)) := by
  have key : costM m n = true ↔ (squB m && ((m.length : Int) == (n : Int)) && !anyN m.length fun i => !costsB (rowAt m i)) = true := by
    unfold anyN
    simp only [Bool.and_eq_true, Bool.not_not, beq_iff_eq, allN_iff, Bool.not_eq_true', Bool.not_eq_false']
    constructor
    · intro h
      unfold costM at h
      simp only [Bool.and_eq_true, beq_iff_eq, allN_iff] at h
      obtain ⟨hl, hr⟩ := h
      have hrow : ∀ k, k < m.length → costsB (rowAt m k) = true ∧ (rowAt m k).length = n := fun k hk => by
        have := hr k hk
        unfold costV at this
        simpa using this
      have h0 := hrow 0 (by omega)
      refine ⟨⟨?_, by omega⟩, fun k hk => (hrow k hk).1⟩
      unfold squB matB mrowB vecB
      simp only [Bool.and_eq_true, beq_iff_eq, allN_iff, inB_true]
      refine ⟨⟨by omega, fun k hk => ⟨⟨by have := (hrow k hk).2; omega, costsB_nums (hrow k hk).1⟩, by rw [(hrow k hk).2, h0.2]⟩⟩, by omega⟩
    · rintro ⟨⟨hsq, hl⟩, hr⟩
      unfold squB matB mrowB at hsq
      simp only [Bool.and_eq_true, beq_iff_eq, allN_iff] at hsq
      obtain ⟨⟨_, hm⟩, h0⟩ := hsq
      exact costM_yes hl fun k hk => by
        unfold costV
        rw [hr k hk, (hm k hk).2, ← h0]
        simp; omega
  cases e1 : costM m n <;> cases e2 : (squB m && ((m.length : Int) == (n : Int)) && !anyN m.length fun i => !costsB (rowAt m i)) <;> simp_all
def autB (a e : List Int) (s : List (List (List Int))) : Bool := inB a.length 1 6 && costsB a && costV e a.length && inB s.length 1 3 && allN s.length fun i => costM (matAt s i) a.length
theorem autB_1 {a e : List Int} {s : List (List (List Int))} (h : inB a.length 1 6 = false) : autB a e s = false := by unfold autB; rw [h]; rfl
theorem autB_2 {a e : List Int} {s : List (List (List Int))} (h : costsB a = false) : autB a e s = false := by unfold autB; rw [h, Bool.and_false]; rfl
theorem autB_3 {a e : List Int} {s : List (List (List Int))} (h : costV e a.length = false) : autB a e s = false := by unfold autB; rw [h, Bool.and_false]; rfl
theorem autB_4 {a e : List Int} {s : List (List (List Int))} (h : inB s.length 1 3 = false) : autB a e s = false := by unfold autB; rw [h, Bool.and_false]; rfl
theorem autB_5 {a e : List Int} {s : List (List (List Int))} {k : Nat} (hk : k < s.length) (h : costM (matAt s k) a.length = false) : autB a e s = false := by unfold autB; rw [allN_false hk h, Bool.and_false]
theorem autB_yes {a e : List Int} {s : List (List (List Int))} (h1 : inB a.length 1 6 = true) (h2 : costsB a = true) (h3 : costV e a.length = true) (h4 : inB s.length 1 3 = true) (h5 : ∀ k, k < s.length → costM (matAt s k) a.length = true) : autB a e s = true := by
  unfold autB; rw [h1, h2, h3, h4, allN_true h5]; rfl
theorem costV_len {l : List Int} {n : Nat} (h : ¬ (l.length : Int) = n) : costV l n = false := by
  have : (l.length == n) = false := by simp; omega
  unfold costV; rw [this, Bool.and_false]
theorem costV_no {l : List Int} {n : Nat} (h : costsB l = false) : costV l n = false := by unfold costV; rw [h]; rfl
theorem costV_yes {l : List Int} {n : Nat} (h : costsB l = true) (h2 : (l.length : Int) = n) : costV l n = true := by
  have : (l.length == n) = true := by simp; omega
  unfold costV; rw [h, this]; rfl
theorem costV_is {l : List Int} {n : Nat} (h : costsB l = true) : costV l n = ((l.length : Int) == (n : Int)) := by
  unfold costV; rw [h, Bool.true_and]
  by_cases e : l.length = n
  · rw [e]; simp
  · rw [beq_eq_false_iff_ne.2 e, beq_eq_false_iff_ne.2 (by omega)]

theorem costV_self (l : List Int) : costV l l.length = costsB l := by unfold costV; simp

set_option linter.unusedSimpArgs false
set_option linter.unusedVariables false

/-- The least sum of elements of two lists. -/
def dotV (a b : List Int) : Int := leastN (fun i => plusI (a.getD i 0) (b.getD i 0)) a.length
def stepV (m : List (List Int)) (v : List Int) : List Int := tab m.length fun i => dotV (rowAt m i) v
@[simp] theorem stepV_len (m : List (List Int)) (v : List Int) : (stepV m v).length = m.length := tab_len _ _
theorem stepV_get {m : List (List Int)} {v : List Int} {i : Nat} (h : i < m.length) : (stepV m v).getD i 0 = dotV (rowAt m i) v := tab_get h
/-- The least costs of the rest of a word from all states on. -/
def fromW (e : List Int) (s : List (List (List Int))) : List UInt8 → List Int
  | [] => e
  | c :: cs => stepV (matAt s (c.toNat - 97)) (fromW e s cs)
def wordB (k : Nat) (b : ByteArray) : Bool := (allN (lenB b) fun i => inB (byteI b i) 97 (97 + k - 1)) && decide ((lenB b : Int) ≤ 6)
theorem wordB_let {k : Nat} {b : ByteArray} {i : Nat} (hi : i < lenB b) (h : ¬ (97 ≤ byteI b i ∧ byteI b i ≤ 97 + (k : Int) - 1)) : wordB k b = false := by
  unfold wordB; rw [allN_false hi (inB_false.2 h)]; rfl
theorem wordB_is {k : Nat} {b : ByteArray} (h : ∀ i, i < lenB b → 97 ≤ byteI b i ∧ byteI b i ≤ 97 + (k : Int) - 1) : wordB k b = decide ((lenB b : Int) ≤ 6) := by
  unfold wordB; rw [allN_true fun i hi => inB_true.2 (h i hi)]; rfl
theorem wordB_get {k : Nat} {b : ByteArray} (h : wordB k b = true) : lenB b ≤ 6 ∧ ∀ i, i < lenB b → 97 ≤ byteI b i ∧ byteI b i ≤ 97 + (k : Int) - 1 := by
  unfold wordB at h
  simp only [Bool.and_eq_true, decide_eq_true_eq] at h
  exact ⟨by omega, fun i hi => inB_true.1 (allN_iff.1 h.1 i hi)⟩

/-- All elements are from -L to 10^9. -/
def loV (L : Int) (v : List Int) : Prop := ∀ i, i < v.length → -L ≤ v.getD i 0 ∧ v.getD i 0 ≤ 1000000000
theorem costB_get {n : Int} (h : costB n = true) : n = 1000000000 ∨ (-1000 ≤ n ∧ n ≤ 1000) := by
  unfold costB at h
  simp only [Bool.or_eq_true, beq_iff_eq] at h
  exact h.imp id inB_true.1
theorem costsB_get {l : List Int} (h : costsB l = true) {i : Nat} (hi : i < l.length) : l.getD i 0 = 1000000000 ∨ (-1000 ≤ l.getD i 0 ∧ l.getD i 0 ≤ 1000) := costB_get (allN_iff.1 h i hi)
theorem costsB_lo {l : List Int} (h : costsB l = true) : loV 1000 l := fun i hi => by have := costsB_get h hi; omega
theorem leastN_ge' {g : Nat → Int} {L : Int} (hL : L ≤ 1000000000) : ∀ n, (∀ i, i < n → L ≤ g i) → L ≤ leastN g n
  | 0, _ => hL
  | n + 1, h => by
    have h1 := leastN_ge' hL n fun i hi => h i (by omega)
    have h2 := h n (by omega)
    show L ≤ (if leastN g n < g n then leastN g n else g n)
    split <;> omega
theorem leastN_at (g : Nat → Int) : ∀ n, leastN g n ≠ 1000000000 → ∃ i, i < n ∧ g i = leastN g n
  | 0, h => absurd rfl h
  | n + 1, h => by
    by_cases hc : leastN g n < g n
    · rw [leastN_lt hc] at h ⊢
      obtain ⟨i, hi, e⟩ := leastN_at g n h
      exact ⟨i, by omega, e⟩
    · rw [leastN_ge (by omega)]
      exact ⟨n, by omega, rfl⟩
theorem plusI_bound {a b L : Int} (hL : 0 ≤ L) (ha : a = 1000000000 ∨ (-1000 ≤ a ∧ a ≤ 1000)) (hb : -L ≤ b ∧ b ≤ 1000000000) : -(L + 1000) ≤ plusI a b := by
  unfold plusI; split <;> omega
theorem dotV_lo {a b : List Int} {L : Int} (hL : 0 ≤ L) (ha : costsB a = true) (hb : loV L b) (hl : a.length ≤ b.length) : -(L + 1000) ≤ dotV a b ∧ dotV a b ≤ 1000000000 :=
  ⟨leastN_ge' (by omega) _ fun i hi => plusI_bound hL (costsB_get ha hi) (hb i (by omega)), leastN_inf _ _⟩
/-- A matrix of n rows of n costs. -/
def goodM (n : Nat) (m : List (List Int)) : Prop := m.length = n ∧ ∀ i, i < n → (rowAt m i).length = n ∧ costsB (rowAt m i) = true
theorem costM_get {m : List (List Int)} {n : Nat} (h : costM m n = true) : goodM n m := by
  unfold costM at h
  simp only [Bool.and_eq_true, beq_iff_eq] at h
  refine ⟨h.1, fun i hi => ?_⟩
  have := allN_iff.1 h.2 i (by omega)
  unfold costV at this
  simp only [Bool.and_eq_true, beq_iff_eq] at this
  exact ⟨this.2, this.1⟩
theorem stepV_lo {n : Nat} {m : List (List Int)} {v : List Int} {L : Int} (hL : 0 ≤ L) (hm : goodM n m) (hv : loV L v) (hl : v.length = n) : loV (L + 1000) (stepV m v) := fun i hi => by
  rw [stepV_len] at hi
  rw [stepV_get hi]
  have := hm.2 i (by rw [← hm.1]; exact hi)
  exact dotV_lo hL this.2 hv (by omega)
theorem autB_get {a e : List Int} {s : List (List (List Int))} (h : autB a e s = true) : (1 ≤ a.length ∧ a.length ≤ 6) ∧ costsB a = true ∧ costsB e = true ∧ e.length = a.length ∧ (1 ≤ s.length ∧ s.length ≤ 3) ∧ ∀ i, i < s.length → goodM a.length (matAt s i) := by
  unfold autB at h
  simp only [Bool.and_eq_true] at h
  obtain ⟨⟨⟨⟨h1, h2⟩, h3⟩, h4⟩, h5⟩ := h
  have h1' := inB_true.1 h1
  have h4' := inB_true.1 h4
  unfold costV at h3
  simp only [Bool.and_eq_true, beq_iff_eq] at h3
  exact ⟨by omega, h2, h3.1, h3.2, by omega, fun i hi => costM_get (allN_iff.1 h5 i hi)⟩
/-- The letters of a list of bytes are letters of the automaton. -/
def okW (k : Nat) (l : List UInt8) : Prop := ∀ c ∈ l, 97 ≤ c.toNat ∧ c.toNat < 97 + k
theorem okW_cons {k : Nat} {c : UInt8} {l : List UInt8} (h : okW k (c :: l)) : (97 ≤ c.toNat ∧ c.toNat < 97 + k) ∧ okW k l := ⟨h c (by simp), fun d hd => h d (by simp [hd])⟩
theorem wordB_ok {k : Nat} {b : ByteArray} (h : wordB k b = true) : okW k (bytesOf b) := fun c hc => by
  obtain ⟨i, hi, rfl⟩ := List.getElem_of_mem hc
  have := (wordB_get h).2 i hi
  unfold byteI at this
  rw [show (bytesOf b).getD i 0 = (bytesOf b)[i] by simp [List.getD, hi]] at this
  omega
theorem okW_drop {k : Nat} {l : List UInt8} (h : okW k l) (n : Nat) : okW k (l.drop n) := fun c hc => h c (List.mem_of_mem_drop hc)
theorem fromW_good {a e : List Int} {s : List (List (List Int))} (h : autB a e s = true) : ∀ l : List UInt8, okW s.length l → (fromW e s l).length = a.length ∧ loV (1000 + 1000 * l.length) (fromW e s l)
  | [], _ => by
    obtain ⟨_, _, h3, h4, _⟩ := autB_get h
    refine ⟨h4, fun i hi => ?_⟩
    have := costsB_lo h3 i hi
    show -(1000 + 1000 * ((0 : Nat) : Int)) ≤ e.getD i 0 ∧ e.getD i 0 ≤ 1000000000
    exact ⟨by omega, this.2⟩
  | c :: cs, hw => by
    obtain ⟨hc, hcs⟩ := okW_cons hw
    obtain ⟨ih1, ih2⟩ := fromW_good h cs hcs
    have hm := (autB_get h).2.2.2.2.2 (c.toNat - 97) (by omega)
    refine ⟨by show (stepV _ _).length = _; rw [stepV_len]; exact hm.1, ?_⟩
    have := stepV_lo (L := 1000 + 1000 * cs.length) (by omega) hm ih2 ih1
    intro i hi
    have h2 := this i hi
    simp only [List.length_cons]
    exact ⟨by have := h2.1; show -(1000 + 1000 * ((cs.length + 1 : Nat) : Int)) ≤ (stepV (matAt s (c.toNat - 97)) (fromW e s cs)).getD i 0; omega, h2.2⟩
theorem fromW_drop {e : List Int} {s : List (List (List Int))} {b : ByteArray} {i : Nat} (hi : i < lenB b) : fromW e s ((bytesOf b).drop i) = stepV (matAt s ((byteI b i).toNat - 97)) (fromW e s ((bytesOf b).drop (i + 1))) := by
  have hi' : i < (bytesOf b).length := hi
  rw [List.drop_eq_getElem_cons hi']
  show stepV (matAt s ((bytesOf b)[i].toNat - 97)) _ = _
  rw [show (byteI b i).toNat = (bytesOf b)[i].toNat by unfold byteI; simp [List.getD, hi']]
theorem fromW_all {e : List Int} {s : List (List (List Int))} {b : ByteArray} {i : Nat} (hi : lenB b ≤ i) : fromW e s ((bytesOf b).drop i) = e := by
  rw [List.drop_eq_nil_of_le hi]; rfl

def askW (a e : List Int) (s : List (List (List Int))) (b : ByteArray) : Bool := autB a e s && wordB s.length b
def costW (a e : List Int) (s : List (List (List Int))) (b : ByteArray) : Int := dotV a (fromW e s (bytesOf b))
def cwR (a e : List Int) (s : List (List (List Int))) (b : ByteArray) : Int × Bool := if askW a e s b then (costW a e s b, true) else (0, false)
theorem cwR_no {a e : List Int} {s : List (List (List Int))} {b : ByteArray} (h : askW a e s b = false) : cwR a e s b = (0, false) := by unfold cwR; rw [h]; rfl
theorem cwR_yes {a e : List Int} {s : List (List (List Int))} {b : ByteArray} (h : askW a e s b = true) : cwR a e s b = (costW a e s b, true) := by unfold cwR; rw [h]; rfl
theorem askW_no1 {a e : List Int} {s : List (List (List Int))} {b : ByteArray} (h : autB a e s = false) : askW a e s b = false := by unfold askW; rw [h]; rfl
theorem askW_no2 {a e : List Int} {s : List (List (List Int))} {b : ByteArray} (h : wordB s.length b = false) : askW a e s b = false := by unfold askW; rw [h, Bool.and_false]
theorem askW_yes {a e : List Int} {s : List (List (List Int))} {b : ByteArray} (h : autB a e s = true) (h2 : wordB s.length b = true) : askW a e s b = true := by unfold askW; rw [h, h2]; rfl

end Go.Proofs.Yteapdildbfimnaa
