/- Square matrices as lists of rows; what a round leaves as it was. No conditions. -/
import Derived.Test.YtfgpmjboplollaaFnWy2
namespace Go.Proofs.Ytfgpmjboplollaa
open Go.RowKit Go.Proofs
set_option linter.unusedSimpArgs false
set_option linter.unusedVariables false

def matL (n : Nat) (X : Mx) : List (List Int) := (List.range n).map fun i => (List.range n).map fun c => X i c
theorem matL_len (n : Nat) (X : Mx) : (matL n X).length = n := by simp [matL]
theorem matL_row {n i : Nat} {X : Mx} (h : i < n) : rowAt (matL n X) i = (List.range n).map fun c => X i c := by simp [matL, rowAt, List.getD, h]
theorem matL_row_len {n i : Nat} {X : Mx} (h : i < n) : (rowAt (matL n X) i).length = n := by rw [matL_row h]; simp
theorem matL_ent {n i c : Nat} {X : Mx} (h : i < n) (hc : c < n) : ent (matL n X) i c = X i c := by
  show (rowAt (matL n X) i).getD c 0 = _
  rw [matL_row h]; simp [List.getD, hc]
theorem matL_out {n i c : Nat} {X : Mx} (hc : n ≤ c) : ent (matL n X) i c = 0 := by
  show (rowAt (matL n X) i).getD c 0 = 0
  by_cases h : i < n
  · rw [matL_row h]; simp [List.getD, hc]
  · have : rowAt (matL n X) i = [] := by simp [matL, rowAt, List.getD, Nat.le_of_not_lt h]
    rw [this]; rfl
theorem rndC_out {g : Mx → Nat → Nat → Int} {X : Mx} {i q c : Nat} : ∀ {k : Nat}, k ≤ c → rndC g X i k q c = X q c
  | 0, _ => rfl
  | k + 1, h => by
    show updM (rndC g X i k) i k _ q c = _
    unfold updM
    rw [if_neg (by omega)]
    exact rndC_out (by omega)
theorem foldM_out {h : Mx → Nat → Mx} {X : Mx} {n q c : Nat} (hh : ∀ Y k, h Y k q c = Y q c) : ∀ {k : Nat}, foldM h X k q c = X q c
  | 0 => rfl
  | k + 1 => by
    show h (foldM h X k) k q c = _
    rw [hh]; exact foldM_out (n := n) hh
theorem stepM_out {m D : Mx} {n q c : Nat} (h : n ≤ c) : stepM m D n q c = D q c :=
  foldM_out (n := n) fun Y i => foldM_out (n := n) fun Y j => rndC_out h
/-- A row of a round's result, as a list. -/
theorem isF_row {n i : Nat} {m D : Mx} {v : V} (hi : i < n) (hD : ∀ q c, n ≤ c → D q c = 0) (h : isF n (stepM m D n i) v) : isRow (rowAt (matL n (stepM m D n)) i) v := by
  obtain ⟨u, Z, rfl⟩ := h
  refine ⟨u, Z, ?_⟩
  rw [matL_row_len hi]
  congr 1
  funext c
  by_cases hc : c < n
  · rw [show (rowAt (matL n (stepM m D n)) i).getD c 0 = stepM m D n i c from matL_ent hi hc]
  · rw [show (rowAt (matL n (stepM m D n)) i).getD c 0 = 0 from matL_out (by omega), stepM_out (by omega), hD i c (by omega)]
end Go.Proofs.Ytfgpmjboplollaa
