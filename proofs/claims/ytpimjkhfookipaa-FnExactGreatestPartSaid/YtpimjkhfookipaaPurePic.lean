/- Plain functions on pictures, and laws on them. No conditions. -/
import Derived.Test.YtpimjkhfookipaaPure
import Derived.Test.YtpimjkhfookipaaEngE
namespace Go.Proofs.Ytpimjkhfookipaa
set_option linter.unusedSimpArgs false
set_option linter.unusedVariables false

abbrev vs (b : ByteArray) : V := .val (.string b)
abbrev vu (n : Int) : V := .val (.int .u8 n)
abbrev stAt (l : List ByteArray) (i : Nat) : ByteArray := l.getD i ByteArray.empty
abbrev strs (l : List ByteArray) : V := .seq 1 l.length fun i => vs (stAt l i)
def lenB (b : ByteArray) : Nat := (bytesOf b).length
theorem lenB_is (b : ByteArray) : (bytesOf b).length = lenB b := rfl
theorem lenB_size (b : ByteArray) : lenB b = b.size := Array.length_toList

/-- The sum of the first k lengths. -/
def sumB (l : List ByteArray) : Nat → Nat
  | 0 => 0
  | k + 1 => sumB l k + lenB (stAt l k)
theorem sumB_le (l : List ByteArray) {i k : Nat} (h : i < k) : lenB (stAt l i) ≤ sumB l k := by
  induction k with
  | zero => omega
  | succ k ih =>
    show _ ≤ sumB l k + lenB (stAt l k)
    rcases Nat.lt_or_ge i k with h1 | h1
    · have := ih h1; omega
    · rw [show i = k by omega]; omega
theorem sumB_mono (l : List ByteArray) {i k : Nat} (h : i ≤ k) : sumB l i ≤ sumB l k := by
  induction k with
  | zero => rw [show i = 0 by omega]; exact Nat.le_refl _
  | succ k ih =>
    rcases Nat.lt_or_ge i (k + 1) with h1 | h1
    · have := ih (by omega); show _ ≤ sumB l k + lenB (stAt l k); omega
    · rw [show i = k + 1 by omega]; exact Nat.le_refl _
def szR (l : List ByteArray) (left : Int) : Int := if left - l.length - sumB l l.length < 0 then -1 else left - l.length - sumB l l.length
theorem szR_no {l : List ByteArray} {left : Int} {k : Nat} (hk : k ≤ l.length) (h : left - l.length - sumB l k < 0) : szR l left = -1 := by
  unfold szR; have := sumB_mono l hk; rw [if_pos (by omega)]
theorem szR_yes {l : List ByteArray} {left : Int} (h : 0 ≤ left - l.length - sumB l l.length) : szR l left = left - l.length - sumB l l.length := by
  unfold szR; rw [if_neg (by omega)]
theorem szR_get {l : List ByteArray} {left : Int} (h : 0 ≤ szR l left) : (l.length : Int) ≤ left ∧ ∀ i, i < l.length → (lenB (stAt l i) : Int) ≤ left := by
  unfold szR at h
  split at h
  · omega
  · refine ⟨by omega, fun i hi => ?_⟩
    have := sumB_le l hi
    omega

theorem stAt_out {l : List ByteArray} {i : Nat} (h : l.length ≤ i) : stAt l i = ByteArray.empty := by simp [stAt, List.getD, h]
theorem szR_all {l : List ByteArray} {left : Int} (h : 0 ≤ szR l left) (i : Nat) : (lenB (stAt l i) : Int) ≤ left := by
  rcases Nat.lt_or_ge i l.length with h1 | h1
  · exact (szR_get h).2 i h1
  · rw [stAt_out h1, lenB_size]
    have := (szR_get h).1
    show ((0 : Nat) : Int) ≤ left
    omega

def ltrI (n : Int) : Bool := (n == 42) || (decide (97 ≤ n) && decide (n ≤ 108))
theorem ltrI_star {n : Int} (h : n = 42) : ltrI n = true := by subst h; rfl
theorem ltrI_in {n : Int} (h : 97 ≤ n) (h2 : n ≤ 108) : ltrI n = true := by simp [ltrI, h, h2]
theorem ltrI_lo {n : Int} (h : ¬ n = 42) (h2 : n < 97) : ltrI n = false := by simp [ltrI, h]; omega
theorem ltrI_hi {n : Int} (h : ¬ n = 42) (h2 : 108 < n) : ltrI n = false := by simp [ltrI, h]; omega
/-- Byte j of a string, as a number. -/
def byteI (b : ByteArray) (j : Nat) : Int := ((bytesOf b).getD j 0).toNat
theorem byteI_lt (b : ByteArray) (j : Nat) : 0 ≤ byteI b j ∧ byteI b j ≤ 255 := by
  unfold byteI
  have := ((bytesOf b).getD j 0).toNat_lt
  omega
def letsB (b : ByteArray) : Bool := allN (lenB b) fun j => ltrI (byteI b j)
def rowB (w : Nat) (b : ByteArray) : Bool := (lenB b == w) && letsB b
theorem rowB_len {w : Nat} {b : ByteArray} (h : ¬ (lenB b : Int) = w) : rowB w b = false := by
  have : (lenB b == w) = false := by simp; omega
  unfold rowB; rw [this]; rfl
theorem rowB_let {w : Nat} {b : ByteArray} (h : letsB b = false) : rowB w b = false := by unfold rowB; rw [h, Bool.and_false]
theorem rowB_yes {w : Nat} {b : ByteArray} (h : (lenB b : Int) = w) (h2 : letsB b = true) : rowB w b = true := by
  have : (lenB b == w) = true := by simp; omega
  unfold rowB; rw [this, h2]; rfl
def picB (l : List ByteArray) : Bool := inB l.length 1 16 && inB (lenB (stAt l 0)) 1 16 && allN l.length fun i => rowB (lenB (stAt l 0)) (stAt l i)
theorem picB_no1 {l : List ByteArray} (h : inB l.length 1 16 = false) : picB l = false := by unfold picB; rw [h]; rfl
theorem picB_no2 {l : List ByteArray} (h : inB (lenB (stAt l 0)) 1 16 = false) : picB l = false := by unfold picB; rw [h, Bool.and_false]; rfl
theorem picB_no12 {l : List ByteArray} (h : (inB (lenB (stAt l 0)) 1 16 && inB l.length 1 16) = false) : picB l = false := by
  unfold picB; rw [Bool.and_comm (inB l.length 1 16), h]; rfl
theorem picB_no3 {l : List ByteArray} {k : Nat} (hk : k < l.length) (h : rowB (lenB (stAt l 0)) (stAt l k) = false) : picB l = false := by unfold picB; rw [allN_false hk h, Bool.and_false]
theorem picB_yes {l : List ByteArray} (h1 : inB l.length 1 16 = true) (h2 : inB (lenB (stAt l 0)) 1 16 = true) (h3 : ∀ i, i < l.length → rowB (lenB (stAt l 0)) (stAt l i) = true) : picB l = true := by
  unfold picB; rw [h1, h2, allN_true h3]; rfl
theorem picB_parts {l : List ByteArray} (h : picB l = true) : (1 ≤ l.length ∧ l.length ≤ 16) ∧ (1 ≤ lenB (stAt l 0) ∧ lenB (stAt l 0) ≤ 16) ∧ ∀ i, i < l.length → lenB (stAt l i) = lenB (stAt l 0) := by
  unfold picB at h
  simp only [Bool.and_eq_true] at h
  refine ⟨?_, ?_, fun i hi => ?_⟩
  · have := inB_true.1 h.1.1; omega
  · have := inB_true.1 h.1.2; omega
  · have := allN_iff.1 h.2 i hi
    unfold rowB at this
    simp only [Bool.and_eq_true, beq_iff_eq] at this
    exact this.1

/-- Two strings are one. -/
def seqB (a b : ByteArray) : Bool := bytesOf a == bytesOf b
theorem seqB_refl (a : ByteArray) : seqB a a = true := by simp [seqB]
theorem seqB_true {a b : ByteArray} (h : bytesOf a = bytesOf b) : seqB a b = true := by simp [seqB, h]
def eqSB (a b : List ByteArray) : Bool := (a.length == b.length) && allN a.length fun i => seqB (stAt a i) (stAt b i)
theorem eqSB_len {a b : List ByteArray} (h : ¬ (a.length : Int) = b.length) : eqSB a b = false := by
  have : (a.length == b.length) = false := by simp; omega
  unfold eqSB; rw [this]; rfl
theorem eqSB_no {a b : List ByteArray} {k : Nat} (hk : k < a.length) (h : seqB (stAt a k) (stAt b k) = false) : eqSB a b = false := by unfold eqSB; rw [allN_false hk h, Bool.and_false]
theorem eqSB_yes {a b : List ByteArray} (h : (a.length : Int) = b.length) (h2 : ∀ i, i < a.length → seqB (stAt a i) (stAt b i) = true) : eqSB a b = true := by
  have : (a.length == b.length) = true := by simp; omega
  unfold eqSB; rw [this, allN_true h2]; rfl
theorem eqSB_refl (a : List ByteArray) : eqSB a a = true := eqSB_yes rfl fun _ _ => seqB_refl _

end Go.Proofs.Ytpimjkhfookipaa
