/- Lists of rows in new memory. No conditions. -/
import Derived.Test.YtpimjkhfookipaaFnZ
namespace Go.Proofs.Ytpimjkhfookipaa
open Go.RowKit Go.Proofs
set_option linter.unusedSimpArgs false
set_option linter.unusedVariables false

/-- Rows of a list that is being filled. -/
def partR (N : Nat) (L : List (List Int)) (F : Nat → V) : Prop := ∀ i, i < L.length → isRow (rowAt L i) (F i) ∧ (∀ b, Zof (F i) b → N ≤ b) ∧ ∀ j, j < L.length → j ≠ i → Apart (F i) (F j)
theorem partR.nil (N : Nat) (F : Nat → V) : partR N [] F := fun i hi => by simp at hi
theorem partR.grow {N : Nat} {L : List (List Int)} {F : Nat → V} {x : List Int} {v : V} (h : partR N L F) (hp : isRow x v) (hN : ∀ b, Zof v b → N ≤ b) (hd : ∀ i, i < L.length → Apart (F i) v) : partR N (L ++ [x]) (fun i => if i = L.length then v else F i) := by
  intro i hi
  rw [List.length_append] at hi
  have hi : i < L.length + 1 := hi
  by_cases e : i = L.length
  · subst e
    simp only [if_true]
    refine ⟨?_, hN, fun j hj hne => ?_⟩
    · have e : rowAt (L ++ [x]) L.length = x := by simp [rowAt, List.getD]
      rw [e]; exact hp
    · rw [List.length_append] at hj
      have hj : j < L.length + 1 := hj
      rw [if_neg hne]; exact (hd j (by omega)).symm
  · simp only [if_neg e]
    obtain ⟨h1, h2, h3⟩ := h i (by omega)
    refine ⟨?_, h2, fun j hj hne => ?_⟩
    · have e : rowAt (L ++ [x]) i = rowAt L i := by simp [rowAt, List.getD, List.getElem?_append_left (show i < L.length by omega)]
      rw [e]; exact h1
    · rw [List.length_append] at hj
      have hj : j < L.length + 1 := hj
      by_cases e2 : j = L.length
      · subst e2; rw [if_pos rfl]; exact hd i (by omega)
      · rw [if_neg e2]; exact h3 j (by omega) hne

/-- A list of rows in new memory, its own head, and a word on it. -/
def bdE (L : List (List Int)) (ok : Bool) : Res → Prop := fun r => ∃ F : Nat → V, (∀ i, i < L.length → isRow (rowAt L i) (F i) ∧ ∀ j, j < L.length → j ≠ i → Apart (F i) (F j)) ∧ r = .many [.fr 1 L.length ⟨34, L.length, F⟩, .pv (vb ok)]
theorem bdE.shape {L : List (List Int)} {ok : Bool} (r : Res) (h : bdE L ok r) : r.shape 2 = true := by obtain ⟨F, _, rfl⟩ := h; rfl

theorem grow_be3 {e : TypeId} {k n' : Nat} {F : Nat → V} {v v' z : V} (hn : n' ≤ k + 1) (h : VE v v') : BE ⟨e, k + 1, fun i => if i < k then F i else if i - k = 0 then v else z⟩ ⟨e, n', fun i => if i = k then v' else F i⟩ := by
  refine ⟨rfl, hn, fun i hi => ?_⟩
  have hi : i < n' := hi
  show VE (if i < k then F i else if i - k = 0 then v else z) (if i = k then v' else F i)
  by_cases h1 : i = k
  · subst h1; rw [if_neg (Nat.lt_irrefl _), if_pos (Nat.sub_self _), if_pos rfl]; exact h
  · rw [if_pos (by omega), if_neg h1]; exact VE.rfl' _

end Go.Proofs.Ytpimjkhfookipaa
