/- What markIntS, markIntSS, markIntSSS do to rows. No conditions. -/
import Derived.Test.YtpimjkhfookipaaDoorMark
import Derived.Test.YtpimjkhfookipaaDoorEngZ
namespace Go.Proofs.YtpimjkhfookipaaDoor
open Go.RowKit Go.Proofs
set_option linter.unusedSimpArgs false
set_option linter.unusedVariables false

def MarkedO (b off : Nat) (cur : Array Value) (e : TypeId) (w : World) (k : Nat) (m : Int) (wr : World) : Prop :=
  AllBut b w wr ∧ ∃ cur' : Array Value, wr.heap[b]? = some (.cells cur' e (0, 0)) ∧ cur'.size = cur.size ∧ ∀ i, i < k → cur'[off + i]? = some (.int .i64 (m + i))

theorem MarkedO.cell {b off : Nat} {cur : Array Value} {e : TypeId} {w wr : World} {k : Nat} {m : Int} (h : MarkedO b off cur e w k m wr) (hk : off + k < cur.size) : (∃ x, wr.cell? ⟨b, off + k, none⟩ = some x) ∧ wr.frozen? ⟨b, off + k, none⟩ = false := by
  obtain ⟨_, cur', h1, h2, _⟩ := h
  exact ⟨⟨cur'[off + k], cell_of_blk h1 (Array.getElem?_eq_getElem (by omega))⟩, by simp [World.frozen?, h1]⟩

theorem MarkedO.step {b off : Nat} {cur : Array Value} {e : TypeId} {w wr : World} {k : Nat} {m : Int} (h : MarkedO b off cur e w k m wr) (hk : off + k < cur.size) :
    MarkedO b off cur e w (k + 1) m (wr.setCell ⟨b, off + k, none⟩ (.int .i64 (m + k))) := by
  obtain ⟨ha, cur', h1, h2, h3⟩ := h
  refine ⟨⟨ha.os, ha.tape, ha.output, by rw [setCell_size]; exact ha.size, fun j hj hne => (Below.heap_setCell _ _ _ _ hne).trans (ha.oth j hj hne)⟩, _, setCell_at h1, by simpa using h2, fun i hi => ?_⟩
  by_cases e : i = k
  · subst e; simp [show off + i < cur'.size by omega]
  · rw [Array.getElem?_setIfInBounds_ne (by show off + k ≠ off + i; omega)]; exact h3 i (by omega)

/-- A row of integers from k on. -/
def cnt (k : Int) : Nat → V := fun i => vi (k + i)

/-- Rows of things that are marked one by one: what each is, what it becomes from k on, how many numbers it takes, which blocks it turns. -/
structure MkL where
  F : Nat → V
  G : Nat → Int → V
  c : Nat → Nat
  T : Nat → Nat → Prop

namespace MkL
def off (D : MkL) : Nat → Nat
  | 0 => 0
  | i + 1 => D.off i + D.c i
theorem off_mono (D : MkL) {i k : Nat} (h : i ≤ k) : D.off i ≤ D.off k := by
  induction k with
  | zero => rw [show i = 0 by omega]; exact Nat.le_refl _
  | succ k ih =>
    rcases Nat.lt_or_ge i (k + 1) with h1 | h1
    · have := ih (by omega); show _ ≤ D.off k + D.c k; omega
    · rw [show i = k + 1 by omega]; exact Nat.le_refl _
def TT (D : MkL) (n : Nat) : Nat → Prop := fun b => ∃ i, i < n ∧ D.T i b
def vK (D : MkL) (k : Int) (i : Nat) : Nat → V := fun j => if j < i then D.G j (k + D.off j) else D.F j
/-- The parts lie apart. -/
def Ok (D : MkL) (Zh : Nat → Prop) (n : Nat) : Prop := ∀ i, i < n → Disj Zh (D.T i) ∧ ∀ j, j < n → j ≠ i → Keeps (D.T i) (D.F j) ∧ ∀ k, Keeps (D.T i) (D.G j k)

theorem vK_at (D : MkL) (k : Int) (i : Nat) : D.vK k i i = D.F i := by unfold vK; rw [if_neg (by omega)]

theorem row_ve {w : World} {S : Nat → Prop} {u0 u : Value} {Z : Nat → Prop} {n : Nat} {f g : Nat → V} (h : ∀ i, i < n → f i = g i) (hr : Rd w S (.row u0 Z 1 n f) u) : Rd w S (.row u0 Z 1 n g) u :=
  VE.rd (.row u0 Z 1 n f) (.row u0 Z 1 n g) u ⟨rfl, rfl, rfl, rfl, fun i hi => VE.of_eq (h i (by omega))⟩ hr

theorem vK_zero (D : MkL) {w : World} {S : Nat → Prop} {u0 u : Value} {Z : Nat → Prop} {n : Nat} {k : Int} (h : Rd w S (.row u0 Z 1 n D.F) u) : Rd w S (.row u0 Z 1 n (D.vK k 0)) u :=
  row_ve (fun i _ => by unfold vK; rw [if_neg (by omega)]) h
theorem vK_all (D : MkL) {w : World} {S : Nat → Prop} {u0 u : Value} {Z : Nat → Prop} {n : Nat} {k : Int} (h : Rd w S (.row u0 Z 1 n (D.vK k n)) u) : Rd w S (.row u0 Z 1 n fun i => D.G i (k + D.off i)) u :=
  row_ve (fun i hi => by unfold vK; rw [if_pos hi]) h
theorem vK_step (D : MkL) {w w' : World} {S : Nat → Prop} {u0 u : Value} {Z : Nat → Prop} {n i : Nat} {k : Int} (hok : D.Ok Z n) (hi : i < n) (ho : OnlyIn (D.T i) w w') (hg : Goes w w' (D.F i) (D.G i (k + D.off i)))
    (h : Rd w S (.row u0 Z 1 n (D.vK k i)) u) : Rd w' S (.row u0 Z 1 n (D.vK k (i + 1))) u := by
  obtain ⟨e, hz, A, c, hu, hc, hr⟩ := h
  refine ⟨e, fun b hb => ⟨(hz b hb).1, ho.wr b (hz b hb).2⟩, A, c, hu, hc, fun hp => ?_⟩
  obtain ⟨b, off, hA, hZ, hr⟩ := hr hp
  refine ⟨b, off, hA, hZ, fun j hj => ?_⟩
  obtain ⟨x, hx, hr⟩ := hr j hj
  refine ⟨x, by rw [World.cell?_of_block (w := w) (a := ⟨b, off + j, none⟩) (ho.oth b (block_of_cell hx) ((hok i hi).1 b hZ))]; exact hx, ?_⟩
  unfold vK at hr ⊢
  by_cases h1 : j = i
  · subst h1
    rw [if_neg (by omega)] at hr
    rw [if_pos (by omega)]
    exact hg S x hr
  · have hk := (hok i hi).2 j (by omega) h1
    by_cases h2 : j < i
    · rw [if_pos h2] at hr
      rw [if_pos (by omega)]
      exact Keeps.rd ho _ _ (hk.2 _) hr
    · rw [if_neg h2] at hr
      rw [if_neg (by omega)]
      exact Keeps.rd ho _ _ hk.1 hr
end MkL

/-- Three parts that are marked one behind the other. -/
structure MkA where
  F : Nat → V
  G : Nat → Int → V
  c : Nat → Nat
  T : Nat → Nat → Prop

def MkA.TT (D : MkA) : Nat → Prop := fun b => ∃ i, i < 3 ∧ D.T i b
def MkA.Ok (D : MkA) : Prop := ∀ i, i < 3 → ∀ j, j < 3 → j ≠ i → Keeps (D.T i) (D.F j) ∧ ∀ k, Keeps (D.T i) (D.G j k)

theorem agg3 {cs : Array Value} (h : cs.size = 3) : ∃ x0 x1 x2, cs = #[x0, x1, x2] := by
  match cs, h with
  | ⟨[x0, x1, x2]⟩, _ => exact ⟨x0, x1, x2, rfl⟩

/-- The argument's copy in a block of its own. -/
def BoxI (w W : World) (x0 x1 x2 : Value) : Prop := w.heap.size < W.heap.size ∧ W.cell? ⟨w.heap.size, 0, none⟩ = some x0 ∧ W.cell? ⟨w.heap.size, 1, none⟩ = some x1 ∧ W.cell? ⟨w.heap.size, 2, none⟩ = some x2
theorem BoxI.step {w W W' : World} {x0 x1 x2 : Value} {T : Nat → Prop} (h : BoxI w W x0 x1 x2) (ho : OnlyIn T W W') (hT : ∀ b, T b → b < w.heap.size) : BoxI w W' x0 x1 x2 := by
  obtain ⟨h1, h2, h3, h4⟩ := h
  have e : W'.heap[w.heap.size]? = W.heap[w.heap.size]? := ho.oth _ h1 fun h => by have := hT _ h; omega
  have c : ∀ i, W'.cell? ⟨w.heap.size, i, none⟩ = W.cell? ⟨w.heap.size, i, none⟩ := fun i => World.cell?_of_block (w := W) (a := ⟨w.heap.size, i, none⟩) e
  exact ⟨Nat.lt_of_lt_of_le h1 ho.size, by rw [c]; exact h2, by rw [c]; exact h3, by rw [c]; exact h4⟩
theorem BoxI.start (w : World) (x0 x1 x2 : Value) (t : TypeId) : BoxI w (w.alloc (.cells #[x0, x1, x2] t)) x0 x1 x2 ∧ Below w.heap.size w (w.alloc (.cells #[x0, x1, x2] t)) := by
  have e : (w.alloc (.cells #[x0, x1, x2] t)).heap[w.heap.size]? = some (.cells #[x0, x1, x2] t (0, 0)) := by
    show (w.heap.push _)[w.heap.size]? = _
    simp
  exact ⟨⟨block_lt e, cell_of_blk e rfl, cell_of_blk e rfl, cell_of_blk e rfl⟩, (Below.refl _ _).alloc (Nat.le_refl _) _⟩

end Go.Proofs.YtpimjkhfookipaaDoor
