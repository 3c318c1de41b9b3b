/- markIntS: writes m, m + 1, .. into a slice of integers. -/
import Derived.Test.YtpimjkhfookipaaFnA
import Derived.Test.YtpimjkhfookipaaEngH
import Derived.WalkKit
import Derived.Deep.LoopGhost
import Derived.Lib.Walk
namespace Go.Proofs.Ytpimjkhfookipaa
open Go.RowKit Go.Proofs
set_option linter.unusedSimpArgs false
set_option linter.unusedVariables false

/-- The world behind k rounds of marking block b from m on. -/
def Marked (b : Nat) (cur : Array Value) (e : TypeId) (w : World) (k : Nat) (m : Int) (wr : World) : Prop :=
  AllBut b w wr ∧ ∃ cur' : Array Value, wr.heap[b]? = some (.cells cur' e (0, 0)) ∧ cur'.size = cur.size ∧ ∀ i, i < k → cur'[i]? = some (.int .i64 (m + i))

theorem Marked.step {b : Nat} {cur : Array Value} {e : TypeId} {w wr : World} {k : Nat} {m : Int} (h : Marked b cur e w k m wr) (hk : k < cur.size) :
    Marked b cur e w (k + 1) m (wr.setCell ⟨b, k, none⟩ (.int .i64 (m + k))) := by
  obtain ⟨ha, cur', h1, h2, h3⟩ := h
  refine ⟨⟨ha.os, ha.tape, ha.output, by rw [setCell_size]; exact ha.size, fun j hj hne => (Below.heap_setCell _ _ _ _ hne).trans (ha.oth j hj hne)⟩, _, setCell_at h1, by simpa using h2, fun i hi => ?_⟩
  by_cases e : i = k
  · subst e; simp [show i < cur'.size by omega]
  · rw [Array.getElem?_setIfInBounds_ne (fun h => e h.symm)]; exact h3 i (by omega)

end Go.Proofs.Ytpimjkhfookipaa
