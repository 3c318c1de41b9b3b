/- A text split at each newline, plainly. No conditions. -/
import Derived.Test.YtmfkclfeolpndaaDoorPurePic
import Derived.Lib.Split
import Derived.Lib.SplitLaws
import Derived.Lib.IndexLaws
import Derived.Lib.IndexBytes
namespace Go.Proofs.YtmfkclfeolpndaaDoor
set_option linter.unusedSimpArgs false
set_option linter.unusedVariables false
open Go

/-- The pieces between newlines. -/
def splitL : List UInt8 → List (List UInt8)
  | [] => [[]]
  | c :: r => if c = 10 then [] :: splitL r else match splitL r with | h :: t => (c :: h) :: t | [] => [[c]]
theorem splitL_cons (l : List UInt8) : ∃ h t, splitL l = h :: t := by
  cases l with
  | nil => exact ⟨_, _, rfl⟩
  | cons c r =>
    unfold splitL
    split
    · exact ⟨_, _, rfl⟩
    · cases splitL r with
      | nil => exact ⟨_, _, rfl⟩
      | cons h t => exact ⟨_, _, rfl⟩
/-- What has been read of a piece ahead of what is left. -/
def splitA (p l : List UInt8) : List (List UInt8) := match splitL l with | h :: t => (p ++ h) :: t | [] => [p]
theorem splitA_nil (l : List UInt8) : splitA [] l = splitL l := by
  obtain ⟨h, t, e⟩ := splitL_cons l
  unfold splitA; rw [e]; rfl
theorem splitA_end (p : List UInt8) : splitA p [] = [p] := by simp [splitA, splitL]
theorem splitA_nl (p r : List UInt8) : splitA p (10 :: r) = p :: splitL r := by simp [splitA, splitL]
theorem splitA_step {c : UInt8} (hc : c ≠ 10) (p r : List UInt8) : splitA p (c :: r) = splitA (p ++ [c]) r := by
  obtain ⟨h, t, e⟩ := splitL_cons r
  simp [splitA, splitL, hc, e]
theorem splitL_len (l : List UInt8) : (splitL l).length = l.count 10 + 1 := by
  induction l with
  | nil => rfl
  | cons c r ih =>
    obtain ⟨h, t, e⟩ := splitL_cons r
    rw [e, List.length_cons] at ih
    by_cases hc : c = 10
    · subst hc; simp [splitL, e]; omega
    · simp [splitL, hc, e]; omega
/-- The last piece is empty where the text is, or ends in a newline. -/
theorem splitL_last (l : List UInt8) : (splitL l).getD (l.count 10) [] = [] ↔ l = [] ∨ l.getD (l.length - 1) 0 = 10 := by
  induction l with
  | nil => simp [splitL]
  | cons c r ih =>
    obtain ⟨h, t, e⟩ := splitL_cons r
    have hl := splitL_len r
    rw [e, List.length_cons] at hl
    rw [e] at ih
    by_cases hc : c = 10
    · subst hc
      have e1 : (splitL (10 :: r)).getD ((10 :: r).count 10) [] = (h :: t).getD (r.count 10) [] := by
        rw [show splitL (10 :: r) = [] :: (h :: t) by simp [splitL, e], List.count_cons_self]; rfl
      rw [e1, ih]
      cases r with
      | nil => simp
      | cons d r => simp
    · have e1 : (10 :: [] : List UInt8) ≠ [] := by simp
      have ec : (c :: r).count 10 = r.count 10 := List.count_cons_of_ne (fun e => hc e)
      have e2 : splitL (c :: r) = (c :: h) :: t := by simp [splitL, hc, e]
      rw [ec, e2]
      cases hk : r.count 10 with
      | zero =>
        have h0 : ¬ (r.getD (r.length - 1) 0 = 10 ∧ r ≠ []) := fun ⟨h1, h2⟩ => by
          have hp : 0 < r.length := List.length_pos_iff.2 h2
          have : 10 ∈ r := by
            rw [List.getD, List.getElem?_eq_getElem (by omega)] at h1
            exact h1 ▸ List.getElem_mem _
          have := List.count_pos_iff.2 this
          omega
        cases r with
        | nil => simp [hc]
        | cons d r =>
          simp only [List.getD_cons_zero, reduceCtorEq, false_or]
          constructor
          · intro h; cases h
          · intro h; exact absurd ⟨by simpa using h, by simp⟩ h0
      | succ k =>
        rw [hk] at ih
        have hr : r ≠ [] := fun e => by subst e; cases hk
        have e3 : ((c :: h) :: t).getD (k + 1) [] = (h :: t).getD (k + 1) [] := rfl
        rw [e3, ih]
        cases r with
        | nil => exact absurd rfl hr
        | cons d r => simp

theorem splitL_index (s : List UInt8) : splitL s = if Lib.indexByte s 10 = -1 then [s] else s.take (Lib.indexByte s 10).toNat :: splitL (s.drop ((Lib.indexByte s 10).toNat + 1)) := by
  induction s with
  | nil => rfl
  | cons b l ih =>
    by_cases hb : b = 10
    · subst hb; simp [splitL, Lib.indexByte]
    · have hbb : (b == 10) = false := beq_eq_false_iff_ne.2 hb
      by_cases hi : Lib.indexByte l 10 = -1
      · rw [if_pos hi] at ih
        have hi2 : Lib.indexByte (b :: l) 10 = -1 := by simp [Lib.indexByte, hbb, hi]
        rw [if_pos hi2]
        simp [splitL, hb, ih]
      · rw [if_neg hi] at ih
        have hge := Lib.indexByte_ge l 10
        have hi2 : Lib.indexByte (b :: l) 10 = Lib.indexByte l 10 + 1 := by simp [Lib.indexByte, hbb, hi]
        rw [if_neg (by rw [hi2]; omega), hi2]
        have e1 : (Lib.indexByte l 10 + 1).toNat = (Lib.indexByte l 10).toNat + 1 := by omega
        rw [e1, List.take_succ_cons, List.drop_succ_cons]
        simp only [splitL, if_neg hb]
        rw [ih]

theorem splitK_nl : ∀ (k : Nat) (s : List UInt8), s.count 10 ≤ k → Lib.splitK [10] 0 k s = splitL s
  | 0, s, h => by
    rw [splitL_index, if_pos]
    · rfl
    · rcases Int.lt_or_le (Lib.indexByte s 10) 0 with h0 | h0
      · have := Lib.indexByte_ge s 10; omega
      · obtain ⟨h1, _⟩ := Lib.indexByte_some (l := s) (c := 10) (o := (Lib.indexByte s 10).toNat) (by omega)
        have : 10 ∈ s := List.mem_of_getElem? h1
        have := List.count_pos_iff.2 this
        omega
  | k + 1, s, h => by
    rw [splitL_index]
    unfold Lib.splitK
    rw [Lib.index_one]
    by_cases hi : Lib.indexByte s 10 = -1
    · rw [if_pos hi, if_pos (beq_iff_eq.2 hi)]
    · rw [if_neg hi, if_neg (fun e => hi (beq_iff_eq.1 e)), Nat.add_zero]
      congr 1
      have hge := Lib.indexByte_ge s 10
      obtain ⟨h1, _⟩ := Lib.indexByte_some (l := s) (c := 10) (o := (Lib.indexByte s 10).toNat) (by omega)
      refine splitK_nl k _ ?_
      obtain ⟨hlt, he⟩ := List.getElem?_eq_some_iff.1 h1
      have e : s = s.take (Lib.indexByte s 10).toNat ++ 10 :: s.drop ((Lib.indexByte s 10).toNat + 1) := by
        generalize (Lib.indexByte s 10).toNat = i at hlt he
        rw [← he, ← List.drop_eq_getElem_cons hlt, List.take_append_drop]
      have hc := congrArg (List.count 10) e
      rw [List.count_append, List.count_cons_self] at hc
      show List.count 10 (s.drop ((Lib.indexByte s 10).toNat + 1)) ≤ k
      omega

def nlB : ByteArray := ⟨#[10]⟩
/-- The pieces of a string. -/
def nlS (s : ByteArray) : List ByteArray := (splitL s.data.toList).map fun x => ⟨x.toArray⟩
theorem nlS_len (s : ByteArray) : (nlS s).length = s.data.toList.count 10 + 1 := by simp [nlS, splitL_len]
theorem splitB_nl (s : ByteArray) : Lib.splitB nlB 0 (Lib.countB s nlB) s = nlS s := by
  have h := Lib.splitB_data nlB 0 (Lib.countB s nlB) s
  have e : nlB.data.toList = [10] := rfl
  rw [e, splitK_nl _ _ (by show _ ≤ Lib.count s.data.toList [10]; rw [Lib.count_one]; exact Nat.le_refl _)] at h
  unfold nlS
  rw [← h, List.map_map]
  conv => lhs; rw [← List.map_id (Lib.splitB nlB 0 (Lib.countB s nlB) s)]
  apply List.map_congr_left
  intro x _
  cases x; rfl
end Go.Proofs.YtmfkclfeolpndaaDoor
