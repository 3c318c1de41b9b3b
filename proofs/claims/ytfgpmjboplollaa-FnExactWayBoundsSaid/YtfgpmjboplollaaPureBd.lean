/- Places at borders of a picture, plainly. No conditions. -/
import Derived.Test.YtfgpmjboplollaaPurePic
import Derived.Test.YtfgpmjboplollaaPureMx
namespace Go.Proofs.Ytfgpmjboplollaa
set_option linter.unusedSimpArgs false
set_option linter.unusedVariables false

def rightB (b : ByteArray) (c : Nat) : Bool := decide (c + 1 < lenB b) && decide (byteI b (c + 1) ≠ byteI b c)
def belowB (l : List ByteArray) (r c : Nat) : Bool := decide (r + 1 < l.length) && decide (byteI (stAt l (r + 1)) c ≠ byteI (stAt l r) c)
def isBd (l : List ByteArray) (r c : Nat) : Bool := rightB (stAt l r) c || belowB l r c
def bdJ (l : List ByteArray) (r : Nat) : Nat → List (List Int)
  | 0 => []
  | c + 1 => bdJ l r c ++ if isBd l r c then [[(r : Int), (c : Int)]] else []
def bdK (l : List ByteArray) : Nat → List (List Int)
  | 0 => []
  | r + 1 => bdK l r ++ bdJ l r (lenB (stAt l r))
theorem bdJ_len (l : List ByteArray) (r : Nat) : ∀ c, (bdJ l r c).length ≤ c
  | 0 => by simp [bdJ]
  | c + 1 => by
    have := bdJ_len l r c
    rw [bdJ, List.length_append]; split <;> simp <;> omega
theorem bdK_len {l : List ByteArray} (h : picB l = true) : ∀ k, k ≤ l.length → (bdK l k).length ≤ 16 * k
  | 0, _ => by simp [bdK]
  | k + 1, hk => by
    have h1 := bdK_len h k (by omega)
    obtain ⟨h2, h3, h4⟩ := picB_parts h
    have h5 := bdJ_len l k (lenB (stAt l k))
    have := h4 k (by omega)
    rw [bdK, List.length_append]; omega
def bdR (l : List ByteArray) : List (List Int) × Bool := if picB l then (bdK l l.length, true) else ([], false)
theorem bdR_no {l : List ByteArray} (h : picB l = false) : bdR l = ([], false) := by unfold bdR; rw [h]; rfl
theorem bdR_yes {l : List ByteArray} (h : picB l = true) : bdR l = (bdK l l.length, true) := by unfold bdR; rw [h]; rfl
theorem bdR_len (l : List ByteArray) : (bdR l).1.length ≤ 256 := by
  unfold bdR
  split
  · rename_i h
    have := bdK_len h l.length (Nat.le_refl _)
    have := (picB_parts h).1
    simp only []; omega
  · simp
/-- All rows have at most two numbers. -/
def two (m : List (List Int)) : Prop := ∀ i, (rowAt m i).length ≤ 2
theorem two_app {m m' : List (List Int)} (h : two m) (h' : two m') : two (m ++ m') := fun i => by
  rcases Nat.lt_or_ge i m.length with h1 | h1
  · have e : rowAt (m ++ m') i = rowAt m i := by simp [rowAt, List.getD, List.getElem?_append_left h1]
    rw [e]; exact h i
  · have e : rowAt (m ++ m') i = rowAt m' (i - m.length) := by simp [rowAt, List.getD, List.getElem?_append_right h1]
    rw [e]; exact h' _
theorem two_nil : two [] := fun i => by simp [rowAt]
theorem two_one (a b : Int) : two [[a, b]] := fun i => by cases i <;> simp [rowAt]
theorem bdJ_two (l : List ByteArray) (r : Nat) : ∀ c, two (bdJ l r c)
  | 0 => two_nil
  | c + 1 => by
    rw [bdJ]; refine two_app (bdJ_two l r c) ?_
    split
    · exact two_one _ _
    · exact two_nil
theorem bdK_two (l : List ByteArray) : ∀ k, two (bdK l k)
  | 0 => two_nil
  | k + 1 => by rw [bdK]; exact two_app (bdK_two l k) (bdJ_two l k _)
theorem bdR_two (l : List ByteArray) : two (bdR l).1 := by unfold bdR; split; exact bdK_two l _; exact two_nil
theorem sumM_two {m : List (List Int)} (h : two m) : ∀ k, sumM m k ≤ 2 * k
  | 0 => by simp [sumM]
  | k + 1 => by have := sumM_two h k; have := h k; rw [sumM]; omega

end Go.Proofs.Ytfgpmjboplollaa
