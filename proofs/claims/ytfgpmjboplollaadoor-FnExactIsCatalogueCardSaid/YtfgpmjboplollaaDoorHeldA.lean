/- What heldAutomaton says of a marked automaton. Conditions: lists no longer than 2^40. -/
import Derived.Test.YtfgpmjboplollaaDoorLawZ
namespace Go.Proofs.YtfgpmjboplollaaDoor
open Go.RowKit Go.Proofs
set_option linter.unusedSimpArgs false
set_option linter.unusedVariables false

/-- What a marked list of rows reads as. -/
def heldM (m : List (List Int)) (k : Int) : V := .seq 1 m.length fun i => .seq 1 (rowAt m i).length fun j => vi (k + sumM m i + j)
def heldMs (s : List (List (List Int))) (k : Int) : V := .seq 1 s.length fun i => heldM (matAt s i) (k + sumV s i)
def heldF (a e : List Int) (s : List (List (List Int))) : Nat → V
  | 0 => .seq 1 a.length fun j => vi (1 + j)
  | 1 => .seq 1 e.length fun j => vi (1 + (a.length : Int) + j)
  | _ => heldMs s (1 + (a.length : Int) + (e.length : Int))
theorem mkM_bare {m : List (List Int)} {v : V} (h : isMat m v) (k : Int) : Bare (mkM m k v) (heldM m k) := by
  obtain ⟨u, Z, F, rfl, h⟩ := h
  refine ⟨rfl, rfl, fun i hi => ?_⟩
  obtain ⟨ui, Zi, e⟩ := (h i (by omega)).1
  show Bare (mk1 (k + sumM m i) (F i)) _
  rw [e]
  exact ⟨rfl, rfl, fun j hj => rfl⟩

theorem mkMs_bare {s : List (List (List Int))} {v : V} (h : isMats s v) (k : Int) : Bare (mkMs s k v) (heldMs s k) := by
  obtain ⟨u, Z, F, rfl, h⟩ := h
  exact ⟨rfl, rfl, fun i hi => mkM_bare (h i (by omega)).1 _⟩

end Go.Proofs.YtfgpmjboplollaaDoor
