/- What markAutomaton does to an automaton in rows. No conditions. -/
import Derived.Test.YtfgpmjboplollaaDoorMarkZ
namespace Go.Proofs.YtfgpmjboplollaaDoor
open Go.RowKit Go.Proofs
set_option linter.unusedSimpArgs false
set_option linter.unusedVariables false

/-- Three parts that are marked one behind the other. -/
structure MkA where
  F : Nat → V
  G : Nat → Int → V
  c : Nat → Nat
  T : Nat → Nat → Prop

def MkA.TT (D : MkA) : Nat → Prop := fun b => ∃ i, i < 3 ∧ D.T i b
def MkA.Ok (D : MkA) : Prop := ∀ i, i < 3 → ∀ j, j < 3 → j ≠ i → Keeps (D.T i) (D.F j) ∧ ∀ k, Keeps (D.T i) (D.G j k)

theorem agg3 {cs : Array Value} (h : cs.size = 3) : ∃ x0 x1 x2, cs = #[x0, x1, x2] := by
  match cs, h with
  | ⟨[x0, x1, x2]⟩, _ => exact ⟨x0, x1, x2, rfl⟩

/-- The argument's copy in a block of its own. -/
def BoxI (w W : World) (x0 x1 x2 : Value) : Prop := w.heap.size < W.heap.size ∧ W.cell? ⟨w.heap.size, 0, none⟩ = some x0 ∧ W.cell? ⟨w.heap.size, 1, none⟩ = some x1 ∧ W.cell? ⟨w.heap.size, 2, none⟩ = some x2
theorem BoxI.step {w W W' : World} {x0 x1 x2 : Value} {T : Nat → Prop} (h : BoxI w W x0 x1 x2) (ho : OnlyIn T W W') (hT : ∀ b, T b → b < w.heap.size) : BoxI w W' x0 x1 x2 := by
  obtain ⟨h1, h2, h3, h4⟩ := h
  have e : W'.heap[w.heap.size]? = W.heap[w.heap.size]? := ho.oth _ h1 fun h => by have := hT _ h; omega
  have c : ∀ i, W'.cell? ⟨w.heap.size, i, none⟩ = W.cell? ⟨w.heap.size, i, none⟩ := fun i => World.cell?_of_block (w := W) (a := ⟨w.heap.size, i, none⟩) e
  exact ⟨Nat.lt_of_lt_of_le h1 ho.size, by rw [c]; exact h2, by rw [c]; exact h3, by rw [c]; exact h4⟩
theorem BoxI.start (w : World) (x0 x1 x2 : Value) (t : TypeId) : BoxI w (w.alloc (.cells #[x0, x1, x2] t)) x0 x1 x2 ∧ Below w.heap.size w (w.alloc (.cells #[x0, x1, x2] t)) := by
  have e : (w.alloc (.cells #[x0, x1, x2] t)).heap[w.heap.size]? = some (.cells #[x0, x1, x2] t (0, 0)) := by
    show (w.heap.push _)[w.heap.size]? = _
    simp
  exact ⟨⟨block_lt e, cell_of_blk e rfl, cell_of_blk e rfl, cell_of_blk e rfl⟩, (Below.refl _ _).alloc (Nat.le_refl _) _⟩

end Go.Proofs.YtfgpmjboplollaaDoor
