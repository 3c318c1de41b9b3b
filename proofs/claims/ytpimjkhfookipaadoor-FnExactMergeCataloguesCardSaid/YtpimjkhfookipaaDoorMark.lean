/- markIntS: writes m, m + 1, .. into a slice of integers. -/
import Derived.Test.YtpimjkhfookipaaDoorFnA
import Derived.Test.YtpimjkhfookipaaDoorEngH
import Derived.WalkKit
import Derived.Deep.LoopGhost
import Derived.Lib.Walk
namespace Go.Proofs.YtpimjkhfookipaaDoor
open Go.RowKit Go.Proofs
set_option linter.unusedSimpArgs false
set_option linter.unusedVariables false

theorem wrap64_id (n : Int) (h : -9223372036854775808 ≤ n ∧ n ≤ 9223372036854775807) : wrap64 n = n := by unfold wrap64; omega

/-- The world behind k rounds of marking block b from m on. -/
def Marked (b : Nat) (cur : Array Value) (e : TypeId) (w : World) (k : Nat) (m : Int) (wr : World) : Prop :=
  AllBut b w wr ∧ ∃ cur' : Array Value, wr.heap[b]? = some (.cells cur' e (0, 0)) ∧ cur'.size = cur.size ∧ ∀ i, i < k → cur'[i]? = some (.int .i64 (m + i))

theorem Marked.cell {b : Nat} {cur : Array Value} {e : TypeId} {w wr : World} {k : Nat} {m : Int} (h : Marked b cur e w k m wr) (hk : k < cur.size) : (∃ x, wr.cell? ⟨b, k, none⟩ = some x) ∧ wr.frozen? ⟨b, k, none⟩ = false := by
  obtain ⟨_, cur', h1, h2, _⟩ := h
  exact ⟨⟨cur'[k], cell_of_blk h1 (Array.getElem?_eq_getElem (by omega))⟩, by simp [World.frozen?, h1]⟩

theorem Marked.step {b : Nat} {cur : Array Value} {e : TypeId} {w wr : World} {k : Nat} {m : Int} (h : Marked b cur e w k m wr) (hk : k < cur.size) :
    Marked b cur e w (k + 1) m (wr.setCell ⟨b, k, none⟩ (.int .i64 (m + k))) := by
  obtain ⟨ha, cur', h1, h2, h3⟩ := h
  refine ⟨⟨ha.os, ha.tape, ha.output, by rw [setCell_size]; exact ha.size, fun j hj hne => (Below.heap_setCell _ _ _ _ hne).trans (ha.oth j hj hne)⟩, _, setCell_at h1, by simpa using h2, fun i hi => ?_⟩
  by_cases e : i = k
  · subst e; simp [show i < cur'.size by omega]
  · rw [Array.getElem?_setIfInBounds_ne (fun h => e h.symm)]; exact h3 i (by omega)

end Go.Proofs.YtpimjkhfookipaaDoor
