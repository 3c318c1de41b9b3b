/- What markIntS, markIntSS, markIntSSS do to rows. No conditions. -/
import Derived.Test.YtpimjkhfookipaaMark
import Derived.Test.YtpimjkhfookipaaEngZ
namespace Go.Proofs.Ytpimjkhfookipaa
open Go.RowKit Go.Proofs
set_option linter.unusedSimpArgs false
set_option linter.unusedVariables false

def MarkedO (b off : Nat) (cur : Array Value) (e : TypeId) (w : World) (k : Nat) (m : Int) (wr : World) : Prop :=
  AllBut b w wr ∧ ∃ cur' : Array Value, wr.heap[b]? = some (.cells cur' e (0, 0)) ∧ cur'.size = cur.size ∧ ∀ i, i < k → cur'[off + i]? = some (.int .i64 (m + i))

theorem MarkedO.step {b off : Nat} {cur : Array Value} {e : TypeId} {w wr : World} {k : Nat} {m : Int} (h : MarkedO b off cur e w k m wr) (hk : off + k < cur.size) :
    MarkedO b off cur e w (k + 1) m (wr.setCell ⟨b, off + k, none⟩ (.int .i64 (m + k))) := by
  obtain ⟨ha, cur', h1, h2, h3⟩ := h
  refine ⟨⟨ha.os, ha.tape, ha.output, by rw [setCell_size]; exact ha.size, fun j hj hne => (Below.heap_setCell _ _ _ _ hne).trans (ha.oth j hj hne)⟩, _, setCell_at h1, by simpa using h2, fun i hi => ?_⟩
  by_cases e : i = k
  · subst e; simp [show off + i < cur'.size by omega]
  · rw [Array.getElem?_setIfInBounds_ne (by show off + k ≠ off + i; omega)]; exact h3 i (by omega)

/-- A row of integers from k on. -/
def cnt (k : Int) : Nat → V := fun i => vi (k + i)

/-- Rows of things that are marked one by one: what each is, what it becomes from k on, how many numbers it takes, which blocks it turns. -/
structure MkL where
  F : Nat → V
  G : Nat → Int → V
  c : Nat → Nat
  T : Nat → Nat → Prop

namespace MkL
def off (D : MkL) : Nat → Nat
  | 0 => 0
  | i + 1 => D.off i + D.c i
end MkL

/-- Three parts that are marked one behind the other. -/
structure MkA where
  F : Nat → V
  G : Nat → Int → V
  c : Nat → Nat
  T : Nat → Nat → Prop

/-- The argument's copy in a block of its own. -/
def BoxI (w W : World) (x0 x1 x2 : Value) : Prop := w.heap.size < W.heap.size ∧ W.cell? ⟨w.heap.size, 0, none⟩ = some x0 ∧ W.cell? ⟨w.heap.size, 1, none⟩ = some x1 ∧ W.cell? ⟨w.heap.size, 2, none⟩ = some x2
theorem BoxI.step {w W W' : World} {x0 x1 x2 : Value} {T : Nat → Prop} (h : BoxI w W x0 x1 x2) (ho : OnlyIn T W W') (hT : ∀ b, T b → b < w.heap.size) : BoxI w W' x0 x1 x2 := by
  obtain ⟨h1, h2, h3, h4⟩ := h
  have e : W'.heap[w.heap.size]? = W.heap[w.heap.size]? := ho.oth _ h1 fun h => by have := hT _ h; omega
  have c : ∀ i, W'.cell? ⟨w.heap.size, i, none⟩ = W.cell? ⟨w.heap.size, i, none⟩ := fun i => World.cell?_of_block (w := W) (a := ⟨w.heap.size, i, none⟩) e
  exact ⟨Nat.lt_of_lt_of_le h1 ho.size, by rw [c]; exact h2, by rw [c]; exact h3, by rw [c]; exact h4⟩
end Go.Proofs.Ytpimjkhfookipaa
