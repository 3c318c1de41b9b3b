/- An abstract state for the walk: pure values, blocks of the call's own, and what it means that a frame and a world are as the state says. No conditions. -/
import Derived.WalkKit
import Derived.Deep.Quiet
import Derived.Below
import Derived.Maps.AppendAt
namespace Go.Proofs.Ytpolbgenoicckaa
set_option linter.unusedSimpArgs false
set_option linter.unusedVariables false
open Go.RowKit

/-- A value that holds no memory that the call may write: a scalar, a slice of n elements of sz cells (cell i is f i), a struct's cells, a pointer to n cells, a function with n captured values; old: what is read lies in Z; row: the slice u0, its elements in blocks of Z that may be written. -/
inductive V where
  | val (v : Value)
  | seq (sz n : Nat) (f : Nat → V)
  | agg (n : Nat) (f : Nat → V)
  | pin (n : Nat) (f : Nat → V)
  | clo (g : FuncId) (n : Nat) (f : Nat → V)
  | old (Z : Nat → Prop) (v : V)
  | row (u0 : Value) (Z : Nat → Prop) (sz n : Nat) (f : Nat → V)

/-- Block b holds cells that may be written. -/
def Wr (w : World) (b : Nat) : Prop := ∃ (cur : Array Value) (e : TypeId), w.heap[b]? = some (.cells cur e (0, 0))

/-- u is v in the world w, all memory that is read lies in blocks of S. -/
def Rd (w : World) (S : Nat → Prop) : V → Value → Prop
  | .val v, u => u = v
  | .seq sz n f, u => ∃ A c, u = .slice A n c ∧ n ≤ c ∧ (0 < n * sz → ∃ b off, A = some ⟨b, off, none⟩ ∧ S b ∧
      ∀ i, i < n * sz → ∃ x, w.cell? ⟨b, off + i, none⟩ = some x ∧ Rd w S (f i) x)
  | .agg n f, u => ∃ cs : Array Value, u = .agg cs ∧ cs.size = n ∧ ∀ i, i < n → ∃ x, cs[i]? = some x ∧ Rd w S (f i) x
  | .pin n f, u => ∃ b off, u = .pointer (some ⟨b, off, none⟩) ∧ ∀ i, i < n → S b ∧ ∃ x, w.cell? ⟨b, off + i, none⟩ = some x ∧ Rd w S (f i) x
  | .clo g n f, u => ∃ cs : Array Value, u = .func (.func g) #[] cs ∧ cs.size = n ∧ ∀ i, i < n → ∃ x, cs[i]? = some x ∧ Rd w S (f i) x
  | .old Z v, u => (∀ b, Z b → S b ∧ b < w.heap.size) ∧ Rd w Z v u
  | .row u0 Z sz n f, u => u = u0 ∧ (∀ b, Z b → S b ∧ Wr w b) ∧ ∃ A c, u = .slice A n c ∧ n ≤ c ∧ (0 < n * sz → ∃ b off, A = some ⟨b, off, none⟩ ∧ Z b ∧
      ∀ i, i < n * sz → ∃ x, w.cell? ⟨b, off + i, none⟩ = some x ∧ Rd w S (f i) x)

theorem block_of_cell {w : World} {a : Addr} {x : Value} (h : w.cell? a = some x) : a.block < w.heap.size := by
  unfold World.cell? at h
  rcases Nat.lt_or_ge a.block w.heap.size with hlt | hge
  · exact hlt
  · rw [Array.getElem?_eq_none hge] at h; cases h

theorem Rd.mono {w w' : World} {S S' : Nat → Prop} (hs : ∀ b, S b → b < w.heap.size → S' b ∧ w'.heap[b]? = w.heap[b]?) :
    ∀ (v : V) (u : Value), Rd w S v u → Rd w' S' v u
  | .val _, _, h => h
  | .seq sz n f, u, h => by
    obtain ⟨A, c, rfl, hc, h⟩ := h
    refine ⟨A, c, rfl, hc, fun hp => ?_⟩
    obtain ⟨b, off, rfl, hS, h⟩ := h hp
    obtain ⟨x0, hx0, _⟩ := h 0 hp
    obtain ⟨hS', hw⟩ := hs b hS (block_of_cell hx0)
    refine ⟨b, off, rfl, hS', fun i hi => ?_⟩
    obtain ⟨x, hx, hr⟩ := h i hi
    exact ⟨x, by rw [World.cell?_of_block (w := w) (a := ⟨b, off + i, none⟩) hw]; exact hx, Rd.mono hs (f i) x hr⟩
  | .agg n f, u, h => by
    obtain ⟨cs, rfl, hn, h⟩ := h
    refine ⟨cs, rfl, hn, fun i hi => ?_⟩
    obtain ⟨x, hx, hr⟩ := h i hi
    exact ⟨x, hx, Rd.mono hs (f i) x hr⟩
  | .pin n f, u, h => by
    obtain ⟨b, off, rfl, h⟩ := h
    refine ⟨b, off, rfl, fun i hi => ?_⟩
    obtain ⟨hS, x, hx, hr⟩ := h i hi
    obtain ⟨hS', hw⟩ := hs b hS (block_of_cell hx)
    exact ⟨hS', x, by rw [World.cell?_of_block (w := w) (a := ⟨b, off + i, none⟩) hw]; exact hx, Rd.mono hs (f i) x hr⟩
  | .clo g n f, u, h => by
    obtain ⟨cs, rfl, hn, h⟩ := h
    refine ⟨cs, rfl, hn, fun i hi => ?_⟩
    obtain ⟨x, hx, hr⟩ := h i hi
    exact ⟨x, hx, Rd.mono hs (f i) x hr⟩
  | .old Z v, u, h => by
    refine ⟨fun b hz => ?_, Rd.mono (S := Z) (S' := Z) (fun b hz hlt => ⟨hz, (hs b (h.1 b hz).1 hlt).2⟩) v u h.2⟩
    obtain ⟨h1, hlt⟩ := h.1 b hz
    have h2 := hs b h1 hlt
    refine ⟨h2.1, ?_⟩
    rcases Nat.lt_or_ge b w'.heap.size with h3 | h3
    · exact h3
    · have h4 := h2.2
      rw [Array.getElem?_eq_none h3, Array.getElem?_eq_getElem hlt] at h4; cases h4
  | .row u0 Z sz n f, u, h => by
    obtain ⟨e, hz, A, c, hu, hc, h⟩ := h
    refine ⟨e, fun b hb => ?_, A, c, hu, hc, fun hp => ?_⟩
    · obtain ⟨h1, cur, t, h2⟩ := hz b hb
      have hlt : b < w.heap.size := by
        rcases Nat.lt_or_ge b w.heap.size with hlt | hge
        · exact hlt
        · rw [Array.getElem?_eq_none hge] at h2; cases h2
      exact ⟨(hs b h1 hlt).1, cur, t, by rw [(hs b h1 hlt).2]; exact h2⟩
    · obtain ⟨b, off, hA, hZ, h⟩ := h hp
      obtain ⟨x0, hx0, _⟩ := h 0 hp
      obtain ⟨hS', hw⟩ := hs b (hz b hZ).1 (block_of_cell hx0)
      refine ⟨b, off, hA, hZ, fun i hi => ?_⟩
      obtain ⟨x, hx, hr⟩ := h i hi
      exact ⟨x, by rw [World.cell?_of_block (w := w) (a := ⟨b, off + i, none⟩) hw]; exact hx, Rd.mono hs (f i) x hr⟩

/-- What a slot can hold. own: a slice over block id of the call's own (off in cells, len in elements of sz cells); ptr: a pointer into one; pin: a pointer to memory that nobody writes, n cells readable. -/
inductive SV where
  | pv (v : V)
  | own (id sz off len : Nat)
  | ptr (id off : Nat)
  | pin (n : Nat) (f : Nat → V)

inductive Slot where
  | one (v : SV)
  | many (vs : List SV)

/-- A block of the call's own: its element type, how many of its cells are known, and what they hold. nilOk: it may be that there is no block yet (a nil slice). -/
structure Blk where
  elem : TypeId
  n : Nat
  f : Nat → V

structure ASt where
  σ : List (Nat × Slot)
  h : List (Option Blk)
  nt : Nat

def RdS (w : World) (S : Nat → Prop) (φ : List (Option (Nat × Nat))) : SV → Value → Prop
  | .pv v, u => Rd w S v u
  | .own id sz off len, u =>
    (φ[id]? = some none ∧ off = 0 ∧ len = 0 ∧ u = .slice none 0 0) ∨
    ∃ b c z, φ[id]? = some (some (b, z)) ∧ u = .slice (some ⟨b, off, none⟩) len c ∧ len ≤ c ∧ c ≤ maxLen ∧ off + c * sz = z
  | .ptr id off, u => ∃ b z, φ[id]? = some (some (b, z)) ∧ u = .pointer (some ⟨b, off, none⟩)
  | .pin n f, u => ∃ b off, u = .pointer (some ⟨b, off, none⟩) ∧ ∀ i, i < n → S b ∧ ∃ x, w.cell? ⟨b, off + i, none⟩ = some x ∧ Rd w S (f i) x

def RdSs (w : World) (S : Nat → Prop) (φ : List (Option (Nat × Nat))) : List SV → List Value → Prop
  | [], [] => True
  | v :: vs, u :: us => RdS w S φ v u ∧ RdSs w S φ vs us
  | _, _ => False

def RdSlot (w : World) (S : Nat → Prop) (φ : List (Option (Nat × Nat))) : Slot → Value → Prop
  | .one v, u => RdS w S φ v u
  | .many vs, u => ∃ us : List Value, u = .tuple us.toArray ∧ RdSs w S φ vs us

/-- Block number b is one of the blocks that the state knows. -/
def Live (h : List (Option Blk)) (φ : List (Option (Nat × Nat))) (b : Nat) : Prop := ∃ (id : Nat) (blk : Blk) (z : Nat), h[id]? = some (some blk) ∧ φ[id]? = some (some (b, z))

/-- Block number b is one that nothing writes. -/
def Stab (w0 : World) (S0 : Nat → Prop) (h : List (Option Blk)) (φ : List (Option (Nat × Nat))) (b : Nat) : Prop := (S0 b ∨ w0.heap.size ≤ b) ∧ ¬ Live h φ b

def lookup : List (Nat × Slot) → Nat → Option Slot
  | [], _ => none
  | (k, v) :: r, t => if k = t then some v else lookup r t

def upd : List (Nat × Slot) → Nat → Slot → List (Nat × Slot)
  | [], t, v => [(t, v)]
  | (k, x) :: r, t, v => if k = t then (t, v) :: r else (k, x) :: upd r t v

def del : List (Nat × Slot) → Nat → List (Nat × Slot)
  | [], _ => []
  | (k, x) :: r, t => if k = t then del r t else (k, x) :: del r t

structure Heap (w0 : World) (S0 : Nat → Prop) (h : List (Option Blk)) (φ : List (Option (Nat × Nat))) (w : World) : Prop where
  len : φ.length = h.length
  below : Below w0.heap.size w0 w
  blk : ∀ (id : Nat) (blk : Blk), h[id]? = some (some blk) → (φ[id]? = some none ∧ blk.n = 0) ∨
    ∃ b cur, φ[id]? = some (some (b, cur.size)) ∧ w0.heap.size ≤ b ∧ w.heap[b]? = some (.cells cur blk.elem (0, 0)) ∧ blk.n ≤ cur.size ∧
      ∀ i, i < blk.n → ∃ x, cur[i]? = some x ∧ Rd w (Stab w0 S0 h φ) (blk.f i) x
  inj : ∀ (i j : Nat) (bi bj : Blk) (b z z' : Nat), h[i]? = some (some bi) → h[j]? = some (some bj) → φ[i]? = some (some (b, z)) → φ[j]? = some (some (b, z')) → i = j

structure SimAt (w0 : World) (S0 : Nat → Prop) (s : ASt) (φ : List (Option (Nat × Nat))) (a : Act) (w : World) : Prop where
  heap : Heap w0 S0 s.h φ w
  slots : ∀ t v, lookup s.σ t = some v → ∃ u, a.tmps[t]? = some u ∧ RdSlot w (Stab w0 S0 s.h φ) φ v u
  defers : a.defers = []
  size : a.tmps.size = s.nt

def Sim (w0 : World) (S0 : Nat → Prop) (s : ASt) (a : Act) (w : World) : Prop := ∃ φ, SimAt w0 S0 s φ a w

/-! ### Keeping -/

theorem RdS.mono {w w' : World} {S S' : Nat → Prop} {φ φ' : List (Option (Nat × Nat))} (hs : ∀ b, S b → b < w.heap.size → S' b ∧ w'.heap[b]? = w.heap[b]?)
    (hφ : ∀ (id : Nat) (x : Option (Nat × Nat)), φ[id]? = some x → φ'[id]? = some x) :
    ∀ (v : SV) (u : Value), RdS w S φ v u → RdS w' S' φ' v u
  | .pv v, u, h => Rd.mono hs v u h
  | .own id sz off len, u, h => by
    rcases h with ⟨h1, h2⟩ | ⟨b, c, z, h1, h2⟩
    · exact .inl ⟨hφ _ _ h1, h2⟩
    · exact .inr ⟨b, c, z, hφ _ _ h1, h2⟩
  | .ptr id off, u, h => by
    obtain ⟨b, z, h1, h2⟩ := h
    exact ⟨b, z, hφ _ _ h1, h2⟩
  | .pin n f, u, h => by
    obtain ⟨b, off, rfl, h⟩ := h
    refine ⟨b, off, rfl, fun i hi => ?_⟩
    obtain ⟨hS, x, hx, hr⟩ := h i hi
    obtain ⟨hS', hw⟩ := hs b hS (block_of_cell hx)
    exact ⟨hS', x, by rw [World.cell?_of_block (w := w) (a := ⟨b, off + i, none⟩) hw]; exact hx, Rd.mono hs (f i) x hr⟩

theorem RdSs.mono {w w' : World} {S S' : Nat → Prop} {φ φ' : List (Option (Nat × Nat))} (hs : ∀ b, S b → b < w.heap.size → S' b ∧ w'.heap[b]? = w.heap[b]?)
    (hφ : ∀ (id : Nat) (x : Option (Nat × Nat)), φ[id]? = some x → φ'[id]? = some x) :
    ∀ (vs : List SV) (us : List Value), RdSs w S φ vs us → RdSs w' S' φ' vs us
  | [], [], _ => trivial
  | [], _ :: _, h => h.elim
  | _ :: _, [], h => h.elim
  | v :: vs, u :: us, h => ⟨RdS.mono hs hφ v u h.1, RdSs.mono hs hφ vs us h.2⟩

theorem RdSlot.mono {w w' : World} {S S' : Nat → Prop} {φ φ' : List (Option (Nat × Nat))} (hs : ∀ b, S b → b < w.heap.size → S' b ∧ w'.heap[b]? = w.heap[b]?)
    (hφ : ∀ (id : Nat) (x : Option (Nat × Nat)), φ[id]? = some x → φ'[id]? = some x) :
    ∀ (v : Slot) (u : Value), RdSlot w S φ v u → RdSlot w' S' φ' v u
  | .one v, u, h => RdS.mono hs hφ v u h
  | .many vs, u, h => by
    obtain ⟨us, rfl, h⟩ := h
    exact ⟨us, rfl, RdSs.mono hs hφ vs us h⟩

theorem block_lt {w : World} {b : Nat} {o : Obj} (h : w.heap[b]? = some o) : b < w.heap.size := by
  rcases Nat.lt_or_ge b w.heap.size with hlt | hge
  · exact hlt
  · rw [Array.getElem?_eq_none hge] at h; cases h

/-- New blocks and draws turn nothing. -/
theorem SimAt.after {w0 : World} {S0 : Nat → Prop} {s : ASt} {φ : List (Option (Nat × Nat))} {a : Act} {w w' : World} (h : SimAt w0 S0 s φ a w) (hb : Below w.heap.size w w') : SimAt w0 S0 s φ a w' := by
  have hs : ∀ b, Stab w0 S0 s.h φ b → b < w.heap.size → Stab w0 S0 s.h φ b ∧ w'.heap[b]? = w.heap[b]? := fun b h1 h2 => ⟨h1, hb.block b h2⟩
  refine ⟨⟨h.heap.len, h.heap.below.trans (hb.mono h.heap.below.size), fun id blk hi => ?_, h.heap.inj⟩, fun t v hm => ?_, h.defers, h.size⟩
  · rcases h.heap.blk id blk hi with h1 | ⟨b, cur, h1, h2, h3, h4, h5⟩
    · exact .inl h1
    · refine .inr ⟨b, cur, h1, h2, by rw [hb.block b (block_lt h3)]; exact h3, h4, fun i hi => ?_⟩
      obtain ⟨x, hx, hr⟩ := h5 i hi
      exact ⟨x, hx, Rd.mono hs _ _ hr⟩
  · obtain ⟨u, hu, hr⟩ := h.slots t v hm
    exact ⟨u, hu, RdSlot.mono hs (fun _ _ h => h) v u hr⟩

theorem lookup_upd (σ : List (Nat × Slot)) (t k : Nat) (v : Slot) : lookup (upd σ t v) k = if k = t then some v else lookup σ k := by
  induction σ with
  | nil =>
    simp only [upd, lookup]
    by_cases h : k = t
    · subst h; simp
    · rw [if_neg (fun e => h e.symm), if_neg h]
  | cons y r ih =>
    obtain ⟨k', y⟩ := y
    simp only [upd]
    by_cases h : k' = t
    · rw [if_pos h]; simp only [lookup]; by_cases h2 : k = t
      · subst h2; simp
      · rw [if_neg (fun e => h2 e.symm), if_neg h2, if_neg (by omega)]
    · rw [if_neg h]; simp only [lookup]
      by_cases h2 : k' = k
      · subst h2; rw [if_pos rfl, if_neg h, if_pos rfl]
      · rw [if_neg h2, ih, if_neg h2]

theorem lookup_del (σ : List (Nat × Slot)) (t k : Nat) : lookup (del σ t) k = if k = t then none else lookup σ k := by
  induction σ with
  | nil => simp [del, lookup]
  | cons y r ih =>
    obtain ⟨k', y⟩ := y
    simp only [del]
    by_cases h : k' = t
    · rw [if_pos h, ih]; simp only [lookup]
      by_cases h2 : k = t
      · simp [h2]
      · rw [if_neg h2, if_neg h2, if_neg (by omega)]
    · rw [if_neg h]; simp only [lookup]
      by_cases h2 : k' = k
      · subst h2; simp [h]
      · simp [h2, ih]

/-- One slot more is known. -/
theorem SimAt.put {w0 : World} {S0 : Nat → Prop} {s : ASt} {φ : List (Option (Nat × Nat))} {a : Act} {w : World} (h : SimAt w0 S0 s φ a w) {d : Nat} (hd : d < s.nt) {v : Slot} {u : Value}
    (hr : RdSlot w (Stab w0 S0 s.h φ) φ v u) : SimAt w0 S0 { s with σ := upd s.σ d v } φ (a.put (some d) u) w := by
  refine ⟨h.heap, fun t v' ht => ?_, h.defers, by simp [Act.put, h.size]⟩
  rw [lookup_upd] at ht
  by_cases e : t = d
  · subst e
    rw [if_pos rfl] at ht
    injection ht with ht
    subst ht
    exact ⟨u, by simp [Act.put, h.size, hd], hr⟩
  · rw [if_neg e] at ht
    obtain ⟨u', hu, hr'⟩ := h.slots t v' ht
    exact ⟨u', by simp only [Act.put]; rw [Array.getElem?_setIfInBounds_ne (by omega)]; exact hu, hr'⟩

/-- One slot less is known, whatever was put there. -/
theorem SimAt.drop {w0 : World} {S0 : Nat → Prop} {s : ASt} {φ : List (Option (Nat × Nat))} {a : Act} {w : World} (h : SimAt w0 S0 s φ a w) (d : Nat) (u : Value) :
    SimAt w0 S0 { s with σ := del s.σ d } φ (a.put (some d) u) w := by
  refine ⟨h.heap, fun t v' ht => ?_, h.defers, by simp [Act.put, h.size]⟩
  rw [lookup_del] at ht
  by_cases e : t = d
  · rw [if_pos e] at ht; cases ht
  · rw [if_neg e] at ht
    obtain ⟨u', hu, hr'⟩ := h.slots t v' ht
    exact ⟨u', by simp only [Act.put]; rw [Array.getElem?_setIfInBounds_ne (by omega)]; exact hu, hr'⟩

/-- What an operand is. -/
def opd (s : ASt) : Operand → Option Slot
  | .tmp t => lookup s.σ t
  | .const v => some (.one (.pv (.val v)))
  | .func f => some (.one (.pv (.val (.func (.func f) #[] #[]))))
  | .global _ => none

theorem SimAt.opd {w0 : World} {S0 : Nat → Prop} {s : ASt} {φ : List (Option (Nat × Nat))} {a : Act} {w : World} (h : SimAt w0 S0 s φ a w) {x : Operand} {v : Slot} (hx : opd s x = some v) :
    RdSlot w (Stab w0 S0 s.h φ) φ v (a.eval x) := by
  cases x with
  | tmp t =>
    obtain ⟨u, hu, hr⟩ := h.slots t v hx
    simpa [Act.eval, hu] using hr
  | const c => simp only [Ytpolbgenoicckaa.opd, Option.some.injEq] at hx; subst hx; rfl
  | func f => simp only [Ytpolbgenoicckaa.opd, Option.some.injEq] at hx; subst hx; rfl
  | global g => cases hx

end Go.Proofs.Ytpolbgenoicckaa
