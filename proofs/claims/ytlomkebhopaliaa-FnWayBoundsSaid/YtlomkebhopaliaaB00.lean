/- Parts of the proof of LawFnWayBounds: contracts of functions, laws of an abstract state, plain facts. No conditions. -/
import Derived.WalkKit
import Derived.Below
import Derived.MapKept
import Derived.Deep.Quiet
import Derived.Maps.AppendAt
import Derived.WalkLawsBesides
import Derived.Laws.BytesArg
import Derived.Laws.StructEq
namespace Go.Proofs.Ytlomkebhopaliaa
set_option linter.unusedSimpArgs false
set_option linter.unusedVariables false
open Go.RowKit
def Gl (w : World) : Prop := True
theorem Gl.keep {w w' : World} (h : Gl w) (hb : Below w.heap.size w w') : Gl w' := trivial
theorem Gl.any (w : World) : Gl w := trivial
theorem Gl.other {w w' : World} {b : Nat} {cur : Array Value} {e : TypeId} {z : Nat × Nat} (h : Gl w) (hb : b < w.heap.size → w.heap[b]? = some (.cells cur e z)) {p : Int} (h1 : cur[1]? = some (.int .i64 p)) (ho : ∀ j, j ≠ b → w'.heap[j]? = w.heap[j]?) : Gl w' := trivial
end Go.Proofs.Ytlomkebhopaliaa
namespace Go.Proofs.Ytlomkebhopaliaa
set_option linter.unusedSimpArgs false
set_option linter.unusedVariables false
open Go.RowKit
/-! ### Keys with values -/
section
variable {κ β : Type} [DecidableEq κ]
def getA : List (κ × β) → κ → Option β
  | [], _ => none
  | p :: r, k => if p.1 = k then some p.2 else getA r k
def putA : List (κ × β) → κ → β → List (κ × β)
  | [], k, v => [(k, v)]
  | p :: r, k, v => if p.1 = k then (k, v) :: r else p :: putA r k v
def findP (k : κ) : List κ → List MapEntry → Nat → Option (Nat × Value)
  | k' :: ks, e :: es, i => if k' = k then some (i, e.val) else findP k ks es (i + 1)
  | _, _, _ => none
end
def kvOf (e : MapEntry) : Value × Value := (e.key, e.val)
def encA {κ : Type} (enc : κ → Value) (l : List (κ × Value)) : List (Value × Value) := l.map fun p => (enc p.1, p.2)
structure KeyT (P : Program) (kt : TypeId) {κ : Type} [DecidableEq κ] (enc : κ → Value) : Prop where
  find : ∀ (k : κ) (es : List MapEntry) (ks : List κ) (w : World), es.map (·.key) = ks.map enc → (Instr.findKey kt (enc k) es).run P w = .ok (findP k ks es 0) w
  chk : ∀ (b : Bool) (k : κ) (w : World), (Instr.checkKey b 10000 kt (enc k)).run P w = .ok () w
  bits : ∀ k : κ, Instr.sameBits 10000 (enc k) (enc k) = true
theorem findP_is {κ : Type} [DecidableEq κ] {enc : κ → Value} (k : κ) : ∀ (l : List (κ × Value)) (es : List MapEntry) (i : Nat), es.map kvOf = encA enc l →
    (findP k (l.map (·.1)) es i = none ∧ getA l k = none ∧ ∀ (v : Value) (c : Nat), (es ++ [({ key := enc k, val := v, born := c } : MapEntry)]).map kvOf = encA enc (putA l k v)) ∨
    ∃ j e, findP k (l.map (·.1)) es i = some (i + j, e.val) ∧ es[j]? = some e ∧ e.key = enc k ∧ getA l k = some e.val ∧ ∀ v : Value, (es.modify j fun e => { e with key := enc k, val := v }).map kvOf = encA enc (putA l k v)
  | [], es, i, h => by
    have h : es = [] := by simpa [encA] using h
    subst h
    exact .inl ⟨rfl, rfl, fun v c => rfl⟩
  | (k', v') :: l, [], i, h => by simp [encA] at h
  | (k', v') :: l, e :: es, i, h => by
    have h1 : kvOf e = (enc k', v') := by simp only [encA, List.map_cons, List.cons.injEq] at h; exact h.1
    have h2 : es.map kvOf = encA enc l := by simp only [encA, List.map_cons, List.cons.injEq] at h; exact h.2
    have h3 : e.key = enc k' := congrArg Prod.fst h1
    have h4 : e.val = v' := congrArg Prod.snd h1
    by_cases ek : k' = k
    · refine .inr ⟨0, e, ?_, rfl, by rw [h3, ek], ?_, fun v => ?_⟩
      · show (if k' = k then _ else _) = _; rw [if_pos ek]; rfl
      · show (if k' = k then _ else _) = _; rw [if_pos ek, h4]
      · show kvOf _ :: es.map kvOf = encA enc (if k' = k then _ else _)
        rw [if_pos ek, h2]; rfl
    · rcases findP_is (enc := enc) k l es (i + 1) h2 with ⟨g1, g2, g3⟩ | ⟨j, e', g1, g2, g3, g4, g5⟩
      · refine .inl ⟨?_, ?_, fun v c => ?_⟩
        · show (if k' = k then _ else _) = _; rw [if_neg ek]; exact g1
        · show (if k' = k then _ else _) = _; rw [if_neg ek]; exact g2
        · show kvOf e :: (es ++ [({ key := enc k, val := v, born := c } : MapEntry)]).map kvOf = encA enc (if k' = k then _ else _)
          rw [if_neg ek, g3, h1]; rfl
      · refine .inr ⟨j + 1, e', ?_, by simpa using g2, g3, ?_, fun v => ?_⟩
        · show (if k' = k then _ else _) = _; rw [if_neg ek, g1, show i + 1 + j = i + (j + 1) by omega]
        · show (if k' = k then _ else _) = _; rw [if_neg ek]; exact g4
        · show ((e :: es).modify (j + 1) _).map kvOf = encA enc (if k' = k then _ else _)
          rw [if_neg ek, List.modify_succ_cons, List.map_cons, g5, h1]; rfl
end Go.Proofs.Ytlomkebhopaliaa
namespace Go.Proofs.Ytlomkebhopaliaa
set_option linter.unusedSimpArgs false
set_option linter.unusedVariables false
open Go.RowKit
inductive V where
  | val (v : Value)
  | seq (sz n : Nat) (f : Nat → V)
  | agg (n : Nat) (f : Nat → V)
  | pin (n : Nat) (f : Nat → V)
  | clo (g : FuncId) (n : Nat) (f : Nat → V)
  | old (Z : Nat → Prop) (v : V)
  | row (u0 : Value) (Z : Nat → Prop) (sz n : Nat) (f : Nat → V)
  | grow (u0 : Value) (Z : Nat → Prop) (e : TypeId) (sz n : Nat) (f : Nat → V)
  | cur (b k : Nat) (Z : Nat → Prop) (c : V)
def bigE : Nat := 4611686018427387904
def Gb (w : World) (b : Nat) (e : TypeId) (cur : Array Value) : Prop := w.heap[b]? = some (.cells cur e (0, 0)) ∨ (bigE ≤ e ∧ w.heap[b]? = some (.cells cur (e - bigE) (cur.size, cur.size + 1)))
theorem Gb.obj {w : World} {b : Nat} {e : TypeId} {cur : Array Value} (h : Gb w b e cur) : ∃ (t : TypeId) (fr : Nat × Nat), w.heap[b]? = some (.cells cur t fr) := by
  rcases h with h | ⟨_, h⟩
  · exact ⟨_, _, h⟩
  · exact ⟨_, _, h⟩
theorem Gb.lt {w : World} {b : Nat} {e : TypeId} {cur : Array Value} (h : Gb w b e cur) : b < w.heap.size := by
  obtain ⟨t, fr, h⟩ := h.obj
  rcases Nat.lt_or_ge b w.heap.size with hlt | hge
  · exact hlt
  · rw [Array.getElem?_eq_none hge] at h; cases h
theorem Gb.congr {w w' : World} {b : Nat} {e : TypeId} {cur : Array Value} (h : Gb w b e cur) (hw : w'.heap[b]? = w.heap[b]?) : Gb w' b e cur := by
  unfold Gb; rw [hw]; exact h
def Wr (w : World) (b : Nat) : Prop := ∃ (cur : Array Value) (e : TypeId), Gb w b e cur
theorem Gb.wr {w : World} {b : Nat} {e : TypeId} {cur : Array Value} (h : Gb w b e cur) : Wr w b := ⟨cur, e, h⟩
theorem Gb.cell {w : World} {b i : Nat} {e : TypeId} {cur : Array Value} {x : Value} (h : Gb w b e cur) (hx : cur[i]? = some x) : w.cell? ⟨b, i, none⟩ = some x := by
  obtain ⟨t, fr, h⟩ := h.obj
  simp [World.cell?, h, hx]
theorem Gb.fz {w : World} {b i : Nat} {e : TypeId} {cur : Array Value} (h : Gb w b e cur) (hi : i < cur.size) : w.frozen? ⟨b, i, none⟩ = false := by
  rcases h with h | ⟨_, h⟩
  · simp [World.frozen?, h]
  · simp [World.frozen?, h]; omega
theorem Gb.small {w : World} {b : Nat} {e : TypeId} {cur : Array Value} (h : Gb w b e cur) (he : e < bigE) : w.heap[b]? = some (.cells cur e (0, 0)) := h.resolve_right fun h => absurd h.1 (Nat.not_le_of_lt he)
def Rd (w : World) (S : Nat → Prop) : V → Value → Prop
  | .val v, u => u = v
  | .seq sz n f, u => ∃ A c, u = .slice A n c ∧ n ≤ c ∧ (0 < n * sz → ∃ b off, A = some ⟨b, off, none⟩ ∧ S b ∧
      ∀ i, i < n * sz → ∃ x, w.cell? ⟨b, off + i, none⟩ = some x ∧ Rd w S (f i) x)
  | .agg n f, u => ∃ cs : Array Value, u = .agg cs ∧ cs.size = n ∧ ∀ i, i < n → ∃ x, cs[i]? = some x ∧ Rd w S (f i) x
  | .pin n f, u => ∃ b off, u = .pointer (some ⟨b, off, none⟩) ∧ ∀ i, i < n → S b ∧ ∃ x, w.cell? ⟨b, off + i, none⟩ = some x ∧ Rd w S (f i) x
  | .clo g n f, u => ∃ cs : Array Value, u = .func (.func g) #[] cs ∧ cs.size = n ∧ ∀ i, i < n → ∃ x, cs[i]? = some x ∧ Rd w S (f i) x
  | .old Z v, u => (∀ b, Z b → S b ∧ b < w.heap.size) ∧ Rd w Z v u
  | .row u0 Z sz n f, u => u = u0 ∧ (∀ b, Z b → S b ∧ Wr w b) ∧ ∃ A c, u = .slice A n c ∧ n ≤ c ∧ (0 < n * sz → ∃ b off, A = some ⟨b, off, none⟩ ∧ Z b ∧
      ∀ i, i < n * sz → ∃ x, w.cell? ⟨b, off + i, none⟩ = some x ∧ Rd w S (f i) x)
  | .grow u0 Z e sz n f, u => u = u0 ∧ (∀ b, Z b → S b ∧ Wr w b) ∧ ((u = .slice none 0 0 ∧ n = 0) ∨ ∃ b c cur, u = .slice (some ⟨b, 0, none⟩) n c ∧ n ≤ c ∧ c ≤ maxLen ∧ Z b ∧ Gb w b e cur ∧ cur.size = c * sz ∧
      ∀ i, i < n * sz → ∃ x, cur[i]? = some x ∧ Rd w S (f i) x)
  | .cur b k Z c, u => u = .pointer (some ⟨b, 0, none⟩) ∧ S b ∧ (∀ j, Z j → S j ∧ j < w.heap.size ∧ j ≠ b) ∧ ∃ (cur : Array Value) (cv : Value) (p q : Int) (e : TypeId), w.heap[b]? = some (.cells cur e (0, 0)) ∧ (cur[0]? = some cv ∧ cur[1]? = some (.int .i64 p) ∧ cur[2]? = some (.int .u64 q)) ∧ (0 ≤ p ∧ p ≤ k) ∧ (0 ≤ q ∧ q < 18446744073709551616) ∧ Rd w Z c cv
theorem block_of_cell {w : World} {a : Addr} {x : Value} (h : w.cell? a = some x) : a.block < w.heap.size := by
  unfold World.cell? at h
  rcases Nat.lt_or_ge a.block w.heap.size with hlt | hge
  · exact hlt
  · rw [Array.getElem?_eq_none hge] at h; cases h
theorem Rd.mono {w w' : World} {S S' : Nat → Prop} (hs : ∀ b, S b → b < w.heap.size → S' b ∧ w'.heap[b]? = w.heap[b]?) :
    ∀ (v : V) (u : Value), Rd w S v u → Rd w' S' v u
  | .val _, _, h => h
  | .seq sz n f, u, h => by
    obtain ⟨A, c, rfl, hc, h⟩ := h
    refine ⟨A, c, rfl, hc, fun hp => ?_⟩
    obtain ⟨b, off, rfl, hS, h⟩ := h hp
    obtain ⟨x0, hx0, _⟩ := h 0 hp
    obtain ⟨hS', hw⟩ := hs b hS (block_of_cell hx0)
    refine ⟨b, off, rfl, hS', fun i hi => ?_⟩
    obtain ⟨x, hx, hr⟩ := h i hi
    exact ⟨x, by rw [World.cell?_of_block (w := w) (a := ⟨b, off + i, none⟩) hw]; exact hx, Rd.mono hs (f i) x hr⟩
  | .agg n f, u, h => by
    obtain ⟨cs, rfl, hn, h⟩ := h
    refine ⟨cs, rfl, hn, fun i hi => ?_⟩
    obtain ⟨x, hx, hr⟩ := h i hi
    exact ⟨x, hx, Rd.mono hs (f i) x hr⟩
  | .pin n f, u, h => by
    obtain ⟨b, off, rfl, h⟩ := h
    refine ⟨b, off, rfl, fun i hi => ?_⟩
    obtain ⟨hS, x, hx, hr⟩ := h i hi
    obtain ⟨hS', hw⟩ := hs b hS (block_of_cell hx)
    exact ⟨hS', x, by rw [World.cell?_of_block (w := w) (a := ⟨b, off + i, none⟩) hw]; exact hx, Rd.mono hs (f i) x hr⟩
  | .clo g n f, u, h => by
    obtain ⟨cs, rfl, hn, h⟩ := h
    refine ⟨cs, rfl, hn, fun i hi => ?_⟩
    obtain ⟨x, hx, hr⟩ := h i hi
    exact ⟨x, hx, Rd.mono hs (f i) x hr⟩
  | .old Z v, u, h => by
    refine ⟨fun b hz => ?_, Rd.mono (S := Z) (S' := Z) (fun b hz hlt => ⟨hz, (hs b (h.1 b hz).1 hlt).2⟩) v u h.2⟩
    obtain ⟨h1, hlt⟩ := h.1 b hz
    have h2 := hs b h1 hlt
    refine ⟨h2.1, ?_⟩
    rcases Nat.lt_or_ge b w'.heap.size with h3 | h3
    · exact h3
    · have h4 := h2.2
      rw [Array.getElem?_eq_none h3, Array.getElem?_eq_getElem hlt] at h4; cases h4
  | .row u0 Z sz n f, u, h => by
    obtain ⟨e, hz, A, c, hu, hc, h⟩ := h
    refine ⟨e, fun b hb => ?_, A, c, hu, hc, fun hp => ?_⟩
    · obtain ⟨h1, cur, t, h2⟩ := hz b hb
      exact ⟨(hs b h1 h2.lt).1, cur, t, h2.congr (hs b h1 h2.lt).2⟩
    · obtain ⟨b, off, hA, hZ, h⟩ := h hp
      obtain ⟨x0, hx0, _⟩ := h 0 hp
      obtain ⟨hS', hw⟩ := hs b (hz b hZ).1 (block_of_cell hx0)
      refine ⟨b, off, hA, hZ, fun i hi => ?_⟩
      obtain ⟨x, hx, hr⟩ := h i hi
      exact ⟨x, by rw [World.cell?_of_block (w := w) (a := ⟨b, off + i, none⟩) hw]; exact hx, Rd.mono hs (f i) x hr⟩
  | .grow u0 Z e sz n f, u, h => by
    obtain ⟨hu, hz, h⟩ := h
    refine ⟨hu, fun b hb => ?_, ?_⟩
    · obtain ⟨h1, cur, t, h2⟩ := hz b hb
      exact ⟨(hs b h1 h2.lt).1, cur, t, h2.congr (hs b h1 h2.lt).2⟩
    · rcases h with h | ⟨b, c, cur, h1, h2, h3, h4, h5, h6, h7⟩
      · exact .inl h
      · refine .inr ⟨b, c, cur, h1, h2, h3, h4, h5.congr (hs b (hz b h4).1 h5.lt).2, h6, fun i hi => ?_⟩
        obtain ⟨x, hx, hr⟩ := h7 i hi
        exact ⟨x, hx, Rd.mono hs (f i) x hr⟩
  | .cur b k Z c, u, h => by
    obtain ⟨hu, hb, hz, cur, cv, p, q, e, hc, h3, hp, hq, hr⟩ := h
    have hlt : b < w.heap.size := by
      rcases Nat.lt_or_ge b w.heap.size with hlt | hge
      · exact hlt
      · rw [Array.getElem?_eq_none hge] at hc; cases hc
    have h1 := hs b hb hlt
    refine ⟨hu, h1.1, fun j hj => ?_, cur, cv, p, q, e, h1.2.trans hc, h3, hp, hq, Rd.mono (S := Z) (S' := Z) (fun j hj hlt => ⟨hj, (hs j (hz j hj).1 hlt).2⟩) c cv hr⟩
    obtain ⟨h2, h3, h4⟩ := hz j hj
    have h5 := hs j h2 h3
    refine ⟨h5.1, ?_, h4⟩
    rcases Nat.lt_or_ge j w'.heap.size with h6 | h6
    · exact h6
    · have h7 := h5.2
      rw [Array.getElem?_eq_none h6, Array.getElem?_eq_getElem h3] at h7; cases h7
inductive SV where
  | pv (v : V)
  | own (id sz off len : Nat)
  | ptr (id off : Nat)
  | pin (n : Nat) (f : Nat → V)
  | mp (b : Nat) (L : List (Value × Value))
  | it (b : Nat) (s : ByteArray) (pos : Nat)
inductive Slot where
  | one (v : SV)
  | many (vs : List SV)
structure Blk where
  elem : TypeId
  n : Nat
  f : Nat → V
structure ASt where
  σ : List (Nat × Slot)
  h : List (Option Blk)
  nt : Nat
def RdS (w : World) (S : Nat → Prop) (φ : List (Option (Nat × Nat))) : SV → Value → Prop
  | .pv v, u => Rd w S v u
  | .own id sz off len, u =>
    (φ[id]? = some none ∧ off = 0 ∧ len = 0 ∧ u = .slice none 0 0) ∨
    ∃ b c z, φ[id]? = some (some (b, z)) ∧ u = .slice (some ⟨b, off, none⟩) len c ∧ len ≤ c ∧ c ≤ maxLen ∧ off + c * sz = z
  | .ptr id off, u => ∃ b z, φ[id]? = some (some (b, z)) ∧ u = .pointer (some ⟨b, off, none⟩)
  | .pin n f, u => ∃ b off, u = .pointer (some ⟨b, off, none⟩) ∧ ∀ i, i < n → S b ∧ ∃ x, w.cell? ⟨b, off + i, none⟩ = some x ∧ Rd w S (f i) x
  | .mp b L, u => u = .map (some b) ∧ S b ∧ ∃ es c, w.heap[b]? = some (.map es c) ∧ es.toList.map kvOf = L
  | .it b s pos, u => u = .pointer (some ⟨b, 0, none⟩) ∧ S b ∧ w.heap[b]? = some (.stringIter s pos)
def RdSs (w : World) (S : Nat → Prop) (φ : List (Option (Nat × Nat))) : List SV → List Value → Prop
  | [], [] => True
  | v :: vs, u :: us => RdS w S φ v u ∧ RdSs w S φ vs us
  | _, _ => False
def RdSlot (w : World) (S : Nat → Prop) (φ : List (Option (Nat × Nat))) : Slot → Value → Prop
  | .one v, u => RdS w S φ v u
  | .many vs, u => ∃ us : List Value, u = .tuple us.toArray ∧ RdSs w S φ vs us
def Live (h : List (Option Blk)) (φ : List (Option (Nat × Nat))) (b : Nat) : Prop := ∃ (id : Nat) (blk : Blk) (z : Nat), h[id]? = some (some blk) ∧ φ[id]? = some (some (b, z))
def Stab (w0 : World) (S0 : Nat → Prop) (h : List (Option Blk)) (φ : List (Option (Nat × Nat))) (b : Nat) : Prop := (S0 b ∨ w0.heap.size ≤ b) ∧ ¬ Live h φ b
def lookup : List (Nat × Slot) → Nat → Option Slot
  | [], _ => none
  | (k, v) :: r, t => if k = t then some v else lookup r t
def upd : List (Nat × Slot) → Nat → Slot → List (Nat × Slot)
  | [], t, v => [(t, v)]
  | (k, x) :: r, t, v => if k = t then (t, v) :: r else (k, x) :: upd r t v
def del : List (Nat × Slot) → Nat → List (Nat × Slot)
  | [], _ => []
  | (k, x) :: r, t => if k = t then del r t else (k, x) :: del r t
structure Heap (w0 : World) (S0 : Nat → Prop) (h : List (Option Blk)) (φ : List (Option (Nat × Nat))) (w : World) : Prop where
  len : φ.length = h.length
  below : Below w0.heap.size w0 w
  blk : ∀ (id : Nat) (blk : Blk), h[id]? = some (some blk) → (φ[id]? = some none ∧ blk.n = 0) ∨
    ∃ b cur, φ[id]? = some (some (b, cur.size)) ∧ w0.heap.size ≤ b ∧ w.heap[b]? = some (.cells cur blk.elem (0, 0)) ∧ blk.n ≤ cur.size ∧
      ∀ i, i < blk.n → ∃ x, cur[i]? = some x ∧ Rd w (Stab w0 S0 h φ) (blk.f i) x
  inj : ∀ (i j : Nat) (bi bj : Blk) (b z z' : Nat), h[i]? = some (some bi) → h[j]? = some (some bj) → φ[i]? = some (some (b, z)) → φ[j]? = some (some (b, z')) → i = j
structure SimAt (w0 : World) (S0 : Nat → Prop) (s : ASt) (φ : List (Option (Nat × Nat))) (a : Act) (w : World) : Prop where
  heap : Heap w0 S0 s.h φ w
  slots : ∀ t v, lookup s.σ t = some v → ∃ u, a.tmps[t]? = some u ∧ RdSlot w (Stab w0 S0 s.h φ) φ v u
  defers : a.defers = [] ∧ Gl w0
  size : a.tmps.size = s.nt
def Sim (w0 : World) (S0 : Nat → Prop) (s : ASt) (a : Act) (w : World) : Prop := ∃ φ, SimAt w0 S0 s φ a w
/-! ### Keeping -/
theorem RdS.mono {w w' : World} {S S' : Nat → Prop} {φ φ' : List (Option (Nat × Nat))} (hs : ∀ b, S b → b < w.heap.size → S' b ∧ w'.heap[b]? = w.heap[b]?)
    (hφ : ∀ (id : Nat) (x : Option (Nat × Nat)), φ[id]? = some x → φ'[id]? = some x) :
    ∀ (v : SV) (u : Value), RdS w S φ v u → RdS w' S' φ' v u
  | .pv v, u, h => Rd.mono hs v u h
  | .own id sz off len, u, h => by
    rcases h with ⟨h1, h2⟩ | ⟨b, c, z, h1, h2⟩
    · exact .inl ⟨hφ _ _ h1, h2⟩
    · exact .inr ⟨b, c, z, hφ _ _ h1, h2⟩
  | .ptr id off, u, h => by
    obtain ⟨b, z, h1, h2⟩ := h
    exact ⟨b, z, hφ _ _ h1, h2⟩
  | .pin n f, u, h => by
    obtain ⟨b, off, rfl, h⟩ := h
    refine ⟨b, off, rfl, fun i hi => ?_⟩
    obtain ⟨hS, x, hx, hr⟩ := h i hi
    obtain ⟨hS', hw⟩ := hs b hS (block_of_cell hx)
    exact ⟨hS', x, by rw [World.cell?_of_block (w := w) (a := ⟨b, off + i, none⟩) hw]; exact hx, Rd.mono hs (f i) x hr⟩
  | .mp b L, u, h => by
    obtain ⟨h1, h2, es, c, h3, h4⟩ := h
    have hlt : b < w.heap.size := by
      rcases Nat.lt_or_ge b w.heap.size with hlt | hge
      · exact hlt
      · rw [Array.getElem?_eq_none hge] at h3; cases h3
    have h5 := hs b h2 hlt
    exact ⟨h1, h5.1, es, c, by rw [h5.2]; exact h3, h4⟩
  | .it b s pos, u, h => by
    obtain ⟨h1, h2, h3⟩ := h
    have hlt : b < w.heap.size := by
      rcases Nat.lt_or_ge b w.heap.size with hlt | hge
      · exact hlt
      · rw [Array.getElem?_eq_none hge] at h3; cases h3
    have h5 := hs b h2 hlt
    exact ⟨h1, h5.1, by rw [h5.2]; exact h3⟩
theorem RdSs.mono {w w' : World} {S S' : Nat → Prop} {φ φ' : List (Option (Nat × Nat))} (hs : ∀ b, S b → b < w.heap.size → S' b ∧ w'.heap[b]? = w.heap[b]?)
    (hφ : ∀ (id : Nat) (x : Option (Nat × Nat)), φ[id]? = some x → φ'[id]? = some x) :
    ∀ (vs : List SV) (us : List Value), RdSs w S φ vs us → RdSs w' S' φ' vs us
  | [], [], _ => trivial
  | [], _ :: _, h => h.elim
  | _ :: _, [], h => h.elim
  | v :: vs, u :: us, h => ⟨RdS.mono hs hφ v u h.1, RdSs.mono hs hφ vs us h.2⟩
theorem RdSlot.mono {w w' : World} {S S' : Nat → Prop} {φ φ' : List (Option (Nat × Nat))} (hs : ∀ b, S b → b < w.heap.size → S' b ∧ w'.heap[b]? = w.heap[b]?)
    (hφ : ∀ (id : Nat) (x : Option (Nat × Nat)), φ[id]? = some x → φ'[id]? = some x) :
    ∀ (v : Slot) (u : Value), RdSlot w S φ v u → RdSlot w' S' φ' v u
  | .one v, u, h => RdS.mono hs hφ v u h
  | .many vs, u, h => by
    obtain ⟨us, rfl, h⟩ := h
    exact ⟨us, rfl, RdSs.mono hs hφ vs us h⟩
theorem block_lt {w : World} {b : Nat} {o : Obj} (h : w.heap[b]? = some o) : b < w.heap.size := by
  rcases Nat.lt_or_ge b w.heap.size with hlt | hge
  · exact hlt
  · rw [Array.getElem?_eq_none hge] at h; cases h
theorem SimAt.after {w0 : World} {S0 : Nat → Prop} {s : ASt} {φ : List (Option (Nat × Nat))} {a : Act} {w w' : World} (h : SimAt w0 S0 s φ a w) (hb : Below w.heap.size w w') : SimAt w0 S0 s φ a w' := by
  have hs : ∀ b, Stab w0 S0 s.h φ b → b < w.heap.size → Stab w0 S0 s.h φ b ∧ w'.heap[b]? = w.heap[b]? := fun b h1 h2 => ⟨h1, hb.block b h2⟩
  refine ⟨⟨h.heap.len, h.heap.below.trans (hb.mono h.heap.below.size), fun id blk hi => ?_, h.heap.inj⟩, fun t v hm => ?_, h.defers, h.size⟩
  · rcases h.heap.blk id blk hi with h1 | ⟨b, cur, h1, h2, h3, h4, h5⟩
    · exact .inl h1
    · refine .inr ⟨b, cur, h1, h2, by rw [hb.block b (block_lt h3)]; exact h3, h4, fun i hi => ?_⟩
      obtain ⟨x, hx, hr⟩ := h5 i hi
      exact ⟨x, hx, Rd.mono hs _ _ hr⟩
  · obtain ⟨u, hu, hr⟩ := h.slots t v hm
    exact ⟨u, hu, RdSlot.mono hs (fun _ _ h => h) v u hr⟩
theorem lookup_upd (σ : List (Nat × Slot)) (t k : Nat) (v : Slot) : lookup (upd σ t v) k = if k = t then some v else lookup σ k := by
  induction σ with
  | nil =>
    simp only [upd, lookup]
    by_cases h : k = t
    · subst h; simp
    · rw [if_neg (fun e => h e.symm), if_neg h]
  | cons y r ih =>
    obtain ⟨k', y⟩ := y
    simp only [upd]
    by_cases h : k' = t
    · rw [if_pos h]; simp only [lookup]; by_cases h2 : k = t
      · subst h2; simp
      · rw [if_neg (fun e => h2 e.symm), if_neg h2, if_neg (by omega)]
    · rw [if_neg h]; simp only [lookup]
      by_cases h2 : k' = k
      · subst h2; rw [if_pos rfl, if_neg h, if_pos rfl]
      · rw [if_neg h2, ih, if_neg h2]
theorem lookup_del (σ : List (Nat × Slot)) (t k : Nat) : lookup (del σ t) k = if k = t then none else lookup σ k := by
  induction σ with
  | nil => simp [del, lookup]
  | cons y r ih =>
    obtain ⟨k', y⟩ := y
    simp only [del]
    by_cases h : k' = t
    · rw [if_pos h, ih]; simp only [lookup]
      by_cases h2 : k = t
      · simp [h2]
      · rw [if_neg h2, if_neg h2, if_neg (by omega)]
    · rw [if_neg h]; simp only [lookup]
      by_cases h2 : k' = k
      · subst h2; simp [h]
      · simp [h2, ih]
theorem SimAt.put {w0 : World} {S0 : Nat → Prop} {s : ASt} {φ : List (Option (Nat × Nat))} {a : Act} {w : World} (h : SimAt w0 S0 s φ a w) {d : Nat} (hd : d < s.nt) {v : Slot} {u : Value}
    (hr : RdSlot w (Stab w0 S0 s.h φ) φ v u) : SimAt w0 S0 { s with σ := upd s.σ d v } φ (a.put (some d) u) w := by
  refine ⟨h.heap, fun t v' ht => ?_, h.defers, by simp [Act.put, h.size]⟩
  rw [lookup_upd] at ht
  by_cases e : t = d
  · subst e
    rw [if_pos rfl] at ht
    injection ht with ht
    subst ht
    exact ⟨u, by simp [Act.put, h.size, hd], hr⟩
  · rw [if_neg e] at ht
    obtain ⟨u', hu, hr'⟩ := h.slots t v' ht
    exact ⟨u', by simp only [Act.put]; rw [Array.getElem?_setIfInBounds_ne (by omega)]; exact hu, hr'⟩
theorem SimAt.drop {w0 : World} {S0 : Nat → Prop} {s : ASt} {φ : List (Option (Nat × Nat))} {a : Act} {w : World} (h : SimAt w0 S0 s φ a w) (d : Nat) (u : Value) :
    SimAt w0 S0 { s with σ := del s.σ d } φ (a.put (some d) u) w := by
  refine ⟨h.heap, fun t v' ht => ?_, h.defers, by simp [Act.put, h.size]⟩
  rw [lookup_del] at ht
  by_cases e : t = d
  · rw [if_pos e] at ht; cases ht
  · rw [if_neg e] at ht
    obtain ⟨u', hu, hr'⟩ := h.slots t v' ht
    exact ⟨u', by simp only [Act.put]; rw [Array.getElem?_setIfInBounds_ne (by omega)]; exact hu, hr'⟩
def opd (s : ASt) : Operand → Option Slot
  | .tmp t => lookup s.σ t
  | .const v => some (.one (.pv (.val v)))
  | .func f => some (.one (.pv (.val (.func (.func f) #[] #[]))))
  | .global _ => none
theorem SimAt.opd {w0 : World} {S0 : Nat → Prop} {s : ASt} {φ : List (Option (Nat × Nat))} {a : Act} {w : World} (h : SimAt w0 S0 s φ a w) {x : Operand} {v : Slot} (hx : opd s x = some v) :
    RdSlot w (Stab w0 S0 s.h φ) φ v (a.eval x) := by
  cases x with
  | tmp t =>
    obtain ⟨u, hu, hr⟩ := h.slots t v hx
    simpa [Act.eval, hu] using hr
  | const c => simp only [Ytlomkebhopaliaa.opd, Option.some.injEq] at hx; subst hx; rfl
  | func f => simp only [Ytlomkebhopaliaa.opd, Option.some.injEq] at hx; subst hx; rfl
  | global g => cases hx
set_option linter.unusedSimpArgs false
set_option linter.unusedVariables false
open Go.RowKit
def InK (k : IntKind) (n : Int) : Prop := k.min ≤ n ∧ n ≤ k.max
theorem InK_i64 (n : Int) : InK .i64 n ↔ -9223372036854775808 ≤ n ∧ n ≤ 9223372036854775807 := Iff.rfl
theorem wrap_InK {k : IntKind} {n : Int} (h : InK k n) : k.wrap n = n := by
  obtain ⟨h1, h2⟩ := h
  cases k
  all_goals
    simp only [IntKind.min, IntKind.max, IntKind.signed, IntKind.bits, if_true, Bool.false_eq_true, if_false, Nat.reduceSub, Int.reducePow, Int.reduceNeg, Int.reduceSub] at h1 h2
    simp only [IntKind.wrap, IntKind.signed, IntKind.bits, Bool.true_and, Bool.false_and, Bool.false_eq_true, if_false, Nat.reduceSub, Int.reducePow, ge_iff_le, decide_eq_true_eq]
    first | omega | (split <;> omega)
def bytesOf (s : ByteArray) : List UInt8 := s.data.toList
def binK (P : Program) (op : BinOp) (t : TypeId) (a b : Value) (K : Value → Prop) : Prop :=
  match a, b with
  | .int k x, .int k' y =>
    k = k' ∧
    match op with
    | .add => InK k (x + y) ∧ K (.int k (x + y))
    | .sub => InK k (x - y) ∧ K (.int k (x - y))
    | .mul => InK k (x * y) ∧ K (.int k (x * y))
    | .quo => 0 ≤ x ∧ 0 < y ∧ InK k (x / y) ∧ K (.int k (x / y))
    | .rem => 0 ≤ x ∧ 0 < y ∧ K (.int k (x % y))
    | .eql => K (.bool (x == y))
    | .neq => K (.bool (x != y))
    | .lss => K (.bool (decide (x < y)))
    | .leq => K (.bool (decide (x ≤ y)))
    | .gtr => K (.bool (decide (x > y)))
    | .geq => K (.bool (decide (x ≥ y)))
    | _ => False
  | .bool x, .bool y =>
    P.underlying t = some .bool ∧
    match op with
    | .eql => K (.bool (x == y))
    | .neq => K (.bool (x != y))
    | _ => False
  | .string x, .string y =>
    match op with
    | .add => x.size + y.size ≤ 9223372036854775807 ∧ K (.string (x ++ y))
    | .eql => K (.bool (bytesOf x == bytesOf y))
    | .neq => K (.bool (bytesOf x != bytesOf y))
    | .lss => K (.bool (Op.bytesLess (bytesOf x) (bytesOf y)))
    | .geq => K (.bool (!Op.bytesLess (bytesOf x) (bytesOf y)))
    | _ => False
  | _, _ => False
theorem binK_ok {P : Program} {op : BinOp} {t : TypeId} {a b : Value} {K : Value → Prop} (h : binK P op t a b K) (x y : Operand) :
    ∃ r, K r ∧ ∀ w : World, (do eqGuard op t x y a b; binOp op t a b : Sem Value).run P w = .ok r w := by
  unfold binK at h
  split at h
  · rename_i k x k' y
    obtain ⟨rfl, h⟩ := h
    cases op <;> simp only at h <;> first
      | exact h.elim
      | exact ⟨_, h, fun w => by simp [go_sem]⟩
      | exact ⟨_, h.2, fun w => by simp [go_sem, Op.intArith, wrap_InK h.1]⟩
      | skip
    · obtain ⟨h0, h1, h2, h3⟩ := h
      refine ⟨_, h3, fun w => ?_⟩
      have e : x.tdiv y = x / y := Int.tdiv_eq_ediv_of_nonneg h0
      simp [go_sem, Op.intDiv, show y ≠ 0 by omega, e, wrap_InK h2]
    · obtain ⟨h0, h1, h3⟩ := h
      refine ⟨_, h3, fun w => ?_⟩
      have e : x.tmod y = x % y := Int.tmod_eq_emod_of_nonneg h0
      simp [go_sem, Op.intDiv, show y ≠ 0 by omega, e]
  · rename_i x y
    obtain ⟨hu, h⟩ := h
    cases op <;> simp only at h <;> first
      | exact h.elim
      | skip
    · refine ⟨_, h, fun w => ?_⟩
      simp only [go_sem, Sem.run_bind, Sem.run_pure, Result.andThen_ok, run_eql_bool w t x y hu]
    · refine ⟨_, h, fun w => ?_⟩
      simp only [go_sem, Sem.run_bind, Sem.run_pure, Result.andThen_ok, run_neq_bool w t x y hu]; rfl
  · rename_i x y
    cases op <;> simp only at h <;> first
      | exact h.elim
      | (obtain ⟨h0, h⟩ := h
         refine ⟨_, h, fun w => ?_⟩
         have e : ¬ (((x.size + y.size : Nat) : Int) > IntKind.i64.max) := by show ¬ (_ > (9223372036854775807 : Int)); omega
         simp only [go_sem, Op.stringOp, Sem.run_bind, Sem.run_pure, Result.andThen_ok, if_neg e]
         done)
      | skip
    all_goals
      refine ⟨_, h, fun w => ?_⟩
      simp only [go_sem, Sem.run_bind, Sem.run_pure, Result.andThen_ok, bytesOf, ByteArray.toList_eq, bne]
  · exact h.elim
def elemSz (P : Program) (t : TypeId) : Option Nat :=
  match P.underlying t with
  | some (.slice e) => (P.info? e).map (·.size)
  | _ => none
def cellsIn (P : Program) (t : TypeId) : Option (Option Nat) :=
  match P.underlying t with
  | some (.struct _) => (P.info? t).map fun i => some i.size
  | some (.array _ _) => none
  | some _ => if (P.info? t).map (·.size) = some 1 then some none else none
  | none => none
def fieldIn (P : Program) (t : TypeId) (j : Nat) : Option (Nat × Option Nat) :=
  match P.underlying t with
  | some (.struct fs) =>
    match fs[j]? with
    | some f => if ((P.info? f.type).map (·.size)).getD 0 = 0 then none else (cellsIn P f.type).map fun c => (f.offset, c)
    | none => none
  | _ => none
def withS (s : ASt) (x : Operand) (K : Slot → Prop) : Prop :=
  match opd s x with
  | some v => K v
  | none => False
abbrev sc (v : Value) : Slot := .one (.pv (.val v))
def loadOwn (h : List (Option Blk)) (id off : Nat) (c : Option Nat) (K : Slot → Prop) : Prop :=
  match h[id]? with
  | some (some b) =>
    match c with
    | none => off < b.n ∧ K (.one (.pv (b.f off)))
    | some n => off + n ≤ b.n ∧ K (.one (.pv (.agg n fun i => b.f (off + i))))
  | _ => False
def evB (P : Program) (s : ASt) (c : Callee) (args : List Operand) (ts : List TypeId) (K : Slot → Prop) : Prop :=
  match c, args with
  | .builtin .len, [x] =>
    match opd s x, ts with
    | some (.one (.pv (.seq _ n _))), [t] => (elemSz P t).isSome = true ∧ K (sc (.int .i64 n))
    | some (.one (.own _ _ _ n)), [t] => (elemSz P t).isSome = true ∧ K (sc (.int .i64 n))
    | some (.one (.pv (.val (.string b)))), [t] => P.underlying t = some .string ∧ K (sc (.int .i64 (bytesOf b).length))
    | some (.one (.pv (.val (.slice none 0 0)))), [t] => (elemSz P t).isSome = true ∧ K (sc (.int .i64 0))
    | some (.one (.pv (.old _ (.seq _ n _)))), [t] => (elemSz P t).isSome = true ∧ K (sc (.int .i64 n))
    | some (.one (.pv (.row _ _ _ n _))), [t] => (elemSz P t).isSome = true ∧ K (sc (.int .i64 n))
    | some (.one (.pv (.grow _ _ _ _ n _))), [t] => (elemSz P t).isSome = true ∧ K (sc (.int .i64 n))
    | _, _ => False
  | .builtin .min, [x, y] =>
    match opd s x, opd s y with
    | some (.one (.pv (.val (.int k a)))), some (.one (.pv (.val (.int _ b)))) => K (sc (.int k (min a b)))
    | _, _ => False
  | .builtin .max, [x, y] =>
    match opd s x, opd s y with
    | some (.one (.pv (.val (.int k a)))), some (.one (.pv (.val (.int _ b)))) => K (sc (.int k (max a b)))
    | _, _ => False
  | _, _ => False
def boundK (s : ASt) (o : Option Operand) (d : Nat) (K : Nat → Prop) : Prop :=
  match o with
  | none => K d
  | some x =>
    match opd s x with
    | some (.one (.pv (.val (.int _ n)))) => 0 ≤ n ∧ K n.toNat
    | _ => False
def cutK (P : Program) (s : ASt) (t : TypeId) (x : Operand) (lo hi : Option Operand) (K : Slot → Prop) : Prop :=
  match opd s x with
  | some (.one (.pv (.val (.string b)))) => P.underlying t = some .string ∧ boundK s lo 0 fun l => boundK s hi (bytesOf b).length fun h => l ≤ h ∧ h ≤ (bytesOf b).length ∧ K (sc (.string ⟨(((bytesOf b).drop l).take (h - l)).toArray⟩))
  | some (.one (.pv (.seq sz n f))) => elemSz P t = some sz ∧ boundK s lo 0 fun l => boundK s hi n fun h => l ≤ h ∧ h ≤ n ∧ K (.one (.pv (.seq sz (h - l) fun i => f (l * sz + i))))
  | some (.one (.own id sz off n)) => lo = none ∧ elemSz P t = some sz ∧ boundK s hi n fun h => h ≤ n ∧ K (.one (.own id sz off h))
  | _ => False
def capsK (s : ASt) : List Operand → List V → (List V → Prop) → Prop
  | [], vs, K => K vs.reverse
  | x :: xs, vs, K =>
    match opd s x with
    | some (.one (.pv v)) => capsK s xs (v :: vs) K
    | _ => False
def vInt : V → Int
  | .val (.int _ z) => z
  | _ => 0
def sameB (n : Nat) (f g : Nat → V) : Bool := (List.range n).all fun i => vInt (f i) == vInt (g i)
def aggI (n : Nat) (xs : Nat → Int) : Value := .agg ((List.range n).map fun i => Value.int .i64 (xs i)).toArray
def IntStruct (P : Program) (t : TypeId) (n : Nat) : Prop := ∀ (xs ys : Nat → Int) (x y : Operand) (w : World),
  (do eqGuard .eql t x y (aggI n xs) (aggI n ys); binOp .eql t (aggI n xs) (aggI n ys) : Sem Value).run P w = .ok (.bool ((List.range n).all fun i => xs i == ys i)) w ∧
  (do eqGuard .neq t x y (aggI n xs) (aggI n ys); binOp .neq t (aggI n xs) (aggI n ys) : Sem Value).run P w = .ok (.bool (!(List.range n).all fun i => xs i == ys i)) w
def eqStK (P : Program) (op : BinOp) (t : TypeId) (n m : Nat) (f g : Nat → V) (K : Slot → Prop) : Prop :=
  n = m ∧ IntStruct P t n ∧ (∀ i, i < n → f i = .val (.int .i64 (vInt (f i)))) ∧ (∀ i, i < n → g i = .val (.int .i64 (vInt (g i)))) ∧
    match op with
    | .eql => K (sc (.bool (sameB n f g)))
    | .neq => K (sc (.bool (!sameB n f g)))
    | _ => False
def byteSrc (P : Program) (t : TypeId) : Bool :=
  match P.underlying t with
  | some (.slice e) => (match P.underlying e with | some (.int .u8) => true | _ => false)
  | _ => false
def bytesK (P : Program) (s : ASt) (src : TypeId) (id sz off n : Nat) (K : Slot → Prop) : Prop :=
  match s.h[id]? with
  | some (some b) => sz = 1 ∧ byteSrc P src = true ∧ off + n ≤ b.n ∧ (∀ i, i < n → b.f (off + i) = .val (.int .u8 (vInt (b.f (off + i))))) ∧ K (sc (.string (strOfNums ((List.range n).map fun i => vInt (b.f (off + i))))))
  | _ => False
def oldZ (Z : Nat → Prop) : V → V
  | .val v => .val v
  | .agg n f => .agg n fun i => oldZ Z (f i)
  | v => .old Z v
def IsV (kv : V) (u : Value) : Prop := ∀ (w : World) (S : Nat → Prop) (x : Value), Rd w S kv x → x = u
def lookupK (P : Program) (s : ASt) (t : TypeId) (m x : Operand) (K : Slot → Prop) : Prop :=
  ∃ (b : Nat) (κ : Type) (D : DecidableEq κ) (enc : κ → Value) (l : List (κ × Value)) (kv : V) (k : κ) (z : Value) (kt e : TypeId), opd s m = some (.one (.mp b (encA enc l))) ∧ opd s x = some (.one (.pv kv)) ∧ IsV kv (enc k) ∧ KeyT P kt enc ∧
    P.underlying t = some (.map kt e) ∧ (∀ w, (zeroValue e).run P w = .ok z w) ∧ K (sc ((getA l k).getD z))
def evQ (P : Program) (s : ASt) (o : Op) (K : Slot → Prop) : Prop :=
  match o with
  | .move x => withS s x K
  | .assign x => withS s x K
  | .pick c x y =>
    match opd s c with
    | some (.one (.pv (.val (.bool p)))) => (p = true → withS s x K) ∧ (p = false → withS s y K)
    | _ => False
  | .binOp op t x y _ =>
    match opd s x, opd s y with
    | some (.one (.pv (.val a))), some (.one (.pv (.val b))) => binK P op t a b fun r => K (sc r)
    | some (.one (.pv (.agg n f))), some (.one (.pv (.agg m g))) => eqStK P op t n m f g K
    | _, _ => False
  | .unOp .not _ x =>
    match opd s x with
    | some (.one (.pv (.val (.bool p)))) => K (sc (.bool (!p)))
    | _ => False
  | .unOp .neg _ x =>
    match opd s x with
    | some (.one (.pv (.val (.int k n)))) => InK k (-n) ∧ K (sc (.int k (-n)))
    | _ => False
  | .call c => evB P s c.callee c.args.toList c.argTypes.toList K
  | .indexAddr t x i =>
    match opd s x, opd s i with
    | some (.one (.pv (.seq sz n f))), some (.one (.pv (.val (.int _ k)))) =>
      elemSz P t = some sz ∧ 0 < sz ∧ 0 ≤ k ∧ k < n ∧ K (.one (.pin sz fun j => f (k.toNat * sz + j)))
    | some (.one (.own id sz off n)), some (.one (.pv (.val (.int _ k)))) =>
      elemSz P t = some sz ∧ 0 ≤ k ∧ k < n ∧ K (.one (.ptr id (off + k.toNat * sz)))
    | some (.one (.pv (.old Z (.seq sz n f)))), some (.one (.pv (.val (.int _ k)))) =>
      elemSz P t = some sz ∧ 0 < sz ∧ 0 ≤ k ∧ k < n ∧ K (.one (.pin sz fun j => oldZ Z (f (k.toNat * sz + j))))
    | some (.one (.pv (.row _ _ sz n f))), some (.one (.pv (.val (.int _ k)))) =>
      elemSz P t = some sz ∧ 0 < sz ∧ 0 ≤ k ∧ k < n ∧ K (.one (.pin sz fun j => f (k.toNat * sz + j)))
    | some (.one (.pv (.grow _ _ _ sz n f))), some (.one (.pv (.val (.int _ k)))) =>
      elemSz P t = some sz ∧ 0 < sz ∧ 0 ≤ k ∧ k < n ∧ K (.one (.pin sz fun j => f (k.toNat * sz + j)))
    | _, _ => False
  | .load t x =>
    match opd s x, cellsIn P t with
    | some (.one (.pin n f)), some none => 0 < n ∧ K (.one (.pv (f 0)))
    | some (.one (.pin n f)), some (some m) => m ≤ n ∧ K (.one (.pv (.agg m f)))
    | some (.one (.pv (.pin n f))), some none => 0 < n ∧ K (.one (.pv (f 0)))
    | some (.one (.ptr id off)), some c => loadOwn s.h id off c K
    | _, _ => False
  | .field t x j =>
    match opd s x, fieldIn P t j with
    | some (.one (.pv (.agg n f))), some (o, none) => o < n ∧ K (.one (.pv (f o)))
    | some (.one (.pv (.agg n f))), some (o, some m) => o + m ≤ n ∧ K (.one (.pv (.agg m fun i => f (o + i))))
    | _, _ => False
  | .fieldAddr t x j =>
    match opd s x, fieldIn P t j with
    | some (.one (.pin n f)), some (o, _) => o ≤ n ∧ K (.one (.pin (n - o) fun i => f (o + i)))
    | some (.one (.ptr id off)), some (o, _) => K (.one (.ptr id (off + o)))
    | _, _ => False
  | .extract x i =>
    match opd s x with
    | some (.many vs) =>
      match vs[i]? with
      | some v => K (.one v)
      | none => False
    | _ => False
  | .nilCheck x =>
    match opd s x with
    | some (.one (.pin n f)) => K (.one (.pin n f))
    | some (.one (.ptr id off)) => K (.one (.ptr id off))
    | _ => False
  | .slice t x lo hi none => cutK P s t x lo hi K
  | .convert src t x =>
    match opd s x, P.underlying t with
    | some (.one (.pv (.val (.int _ n)))), some (.int k) => (P.underlying src).isSome = true ∧ InK k n ∧ K (sc (.int k n))
    | some (.one (.own id sz off n)), some .string => bytesK P s src id sz off n K
    | _, _ => False
  | .index t x i =>
    match opd s x, opd s i with
    | some (.one (.pv (.val (.string b)))), some (.one (.pv (.val (.int _ k)))) =>
      P.underlying t = some .string ∧ 0 ≤ k ∧ k < (bytesOf b).length ∧ K (sc (.int .u8 ((bytesOf b).getD k.toNat 0).toNat))
    | _, _ => False
  | .makeFunc (.func g) ⟨[]⟩ ⟨xs⟩ => capsK s xs [] fun vs => K (.one (.pv (.clo g vs.length fun i => vs.getD i (.val undef))))
  | .lookup t m x false => lookupK P s t m x K
  | _ => False
set_option linter.unusedSimpArgs false
set_option linter.unusedVariables false
open Go.RowKit
def RdL (w : World) (S : Nat → Prop) : List V → List Value → Prop
  | [], [] => Gl w
  | v :: vs, u :: us => Rd w S v u ∧ RdL w S vs us
  | _, _ => False
theorem RdL.append {w : World} {S : Nat → Prop} : ∀ (vs : List V) (us : List Value) (v : V) (u : Value), RdL w S vs us → Rd w S v u → RdL w S (vs ++ [v]) (us ++ [u])
  | [], [], _, _, hg, h => ⟨h, hg⟩
  | [], _ :: _, _, _, h, _ => h.elim
  | _ :: _, [], _, _, h, _ => h.elim
  | _ :: vs, _ :: us, v, u, h, h' => ⟨h.1, RdL.append vs us v u h.2 h'⟩
theorem RdL.get {w : World} {S : Nat → Prop} : ∀ (vs : List V) (us : List Value) (i : Nat) {v : V}, RdL w S vs us → vs[i]? = some v → ∃ u, us[i]? = some u ∧ Rd w S v u
  | [], _, _, _, _, h => by simp at h
  | _ :: _, [], _, _, h, _ => h.elim
  | y :: vs, u :: us, 0, v, h, hv => by simp at hv; subst hv; exact ⟨u, by simp, h.1⟩
  | y :: vs, u :: us, i + 1, v, h, hv => by
    obtain ⟨u', h1, h2⟩ := RdL.get vs us i h.2 (by simpa using hv)
    exact ⟨u', by simpa using h1, h2⟩
theorem RdL.gl {w : World} {S : Nat → Prop} : ∀ {vs : List V} {us : List Value}, RdL w S vs us → Gl w
  | [], [], h => h
  | [], _ :: _, h => h.elim
  | _ :: _, [], h => h.elim
  | _ :: _, _ :: _, h => RdL.gl h.2
theorem SimAt.gl {w0 : World} {S0 : Nat → Prop} {s : ASt} {φ : List (Option (Nat × Nat))} {a : Act} {w : World} (sim : SimAt w0 S0 s φ a w) : Gl w := sim.defers.2.keep sim.heap.below
theorem RdL.len {w : World} {S : Nat → Prop} : ∀ (vs : List V) (us : List Value), RdL w S vs us → us.length = vs.length
  | [], [], _ => rfl
  | [], _ :: _, h => h.elim
  | _ :: _, [], h => h.elim
  | _ :: vs, _ :: us, h => by simp [RdL.len vs us h.2]
section
variable {P : Program} {w0 : World} {S0 : Nat → Prop} {s : ASt} {φ : List (Option (Nat × Nat))} {a : Act} {w : World}
def noLoad (o : Oper) : Bool := match o.op with | .load _ _ => false | .convert _ _ _ => false | .lookup _ _ _ _ => false | _ => true
def Yields (P : Program) (w0 : World) (S0 : Nat → Prop) (s : ASt) (φ : List (Option (Nat × Nat))) (a : Act) (w : World) (o : Oper) (K : Slot → Prop) : Prop :=
  ∃ r v, K r ∧ RdSlot w (Stab w0 S0 s.h φ) φ r v ∧ ∀ w', (noLoad o = true ∨ Below w.heap.size w w') → (execOp a.eval o).run P w' = .ok (.value v) w'
theorem yields_withS {x : Operand} {K : Slot → Prop} (sim : SimAt w0 S0 s φ a w) (h : withS s x K) : ∃ r, K r ∧ RdSlot w (Stab w0 S0 s.h φ) φ r (a.eval x) := by
  unfold withS at h
  split at h
  · rename_i v hv; exact ⟨v, h, sim.opd hv⟩
  · exact h.elim
theorem val_of {x : Operand} {v : Value} (sim : SimAt w0 S0 s φ a w) (h : opd s x = some (.one (.pv (.val v)))) : a.eval x = v := sim.opd h
theorem oldZ_rd {Z S : Nat → Prop} (hZ : ∀ b, Z b → S b ∧ b < w.heap.size) : ∀ (v : V) (u : Value), Rd w Z v u → Rd w S (oldZ Z v) u
  | .val _, _, h => h
  | .agg n f, u, h => by
    obtain ⟨cs, hu, hn, h⟩ := h
    refine ⟨cs, hu, hn, fun i hi => ?_⟩
    obtain ⟨x, hx, hr⟩ := h i hi
    exact ⟨x, hx, oldZ_rd hZ (f i) x hr⟩
  | .seq _ _ _, _, h => ⟨hZ, h⟩
  | .pin _ _, _, h => ⟨hZ, h⟩
  | .clo _ _ _, _, h => ⟨hZ, h⟩
  | .old _ _, _, h => ⟨hZ, h⟩
  | .row _ _ _ _ _, _, h => ⟨hZ, h⟩
  | .grow _ _ _ _ _ _, _, h => ⟨hZ, h⟩
  | .cur _ _ _ _, _, h => ⟨hZ, h⟩
theorem elemSz_some {t : TypeId} {sz : Nat} (h : elemSz P t = some sz) : ∃ e i, P.underlying t = some (.slice e) ∧ P.info? e = some i ∧ i.size = sz := by
  unfold elemSz at h
  split at h
  · rename_i e he
    obtain ⟨i, hi, hs⟩ := Option.map_eq_some_iff.1 h
    exact ⟨e, i, he, hi, hs⟩
  · cases h
theorem run_indexAt {t e : TypeId} {i : TypeInfo} (hu : P.underlying t = some (.slice e)) (hi : P.info? e = some i) (b : Addr) (len cap : Nat) (k : IntKind) (n : Int) (h0 : 0 ≤ n) (h1 : n < len) (w' : World) :
    (Instr.indexAt t (.slice (some b) len cap) (.int k n)).run P w' = .ok (.pointer (some (b.add (n.toNat * i.size)))) w' := by
  simp [Instr.indexAt, asIntOf, run_underlying hu, sizeOf, typeInfo, hi, h0, h1]
theorem add_none (b off n : Nat) : (⟨b, off, none⟩ : Addr).add n = ⟨b, off + n, none⟩ := by
  unfold Addr.add
  split
  · rename_i h; subst h; rfl
  · rfl
theorem cellsIn_one {t : TypeId} (h : cellsIn P t = some none) (w' : World) : (isAgg t).run P w' = .ok false w' := by
  unfold cellsIn at h
  split at h
  · rename_i fs hu; cases hi : P.info? t <;> rw [hi] at h <;> simp at h
  · cases h
  · rename_i d _ _ hu
    simp only [isAgg, Sem.run_bind, run_underlying hu, Result.andThen_ok]
    rfl
  · cases h
theorem cellsIn_size {t : TypeId} (h : cellsIn P t = some none) : ∃ i, P.info? t = some i ∧ i.size = 1 := by
  unfold cellsIn at h
  split at h
  · rename_i fs hu; cases hi : P.info? t <;> rw [hi] at h <;> simp at h
  · cases h
  · split at h
    · rename_i e; obtain ⟨i, hi, hs⟩ := Option.map_eq_some_iff.1 e; exact ⟨i, hi, hs⟩
    · cases h
  · cases h
theorem cellsIn_many {t : TypeId} {n : Nat} (h : cellsIn P t = some (some n)) : ∃ i, P.info? t = some i ∧ i.size = n ∧ ∀ w' : World, (isAgg t).run P w' = .ok true w' := by
  unfold cellsIn at h
  split at h
  · rename_i fs hu
    obtain ⟨i, hi, hs⟩ := Option.map_eq_some_iff.1 h
    injection hs with hs
    exact ⟨i, hi, hs, fun w' => by simp [isAgg, run_underlying hu]⟩
  · cases h
  · split at h <;> cases h
  · cases h
theorem run_loadCells (b off : Nat) (f : Nat → Value) (w' : World) : ∀ (n i : Nat) (acc : Array Value), (∀ j, i ≤ j → j < i + n → w'.cell? ⟨b, off + j, none⟩ = some (f j)) →
    (loadCellsFrom ⟨b, off, none⟩ i n acc).run P w' = .ok (acc ++ ((List.range' i n).map f).toArray) w'
  | 0, i, acc, _ => by simp [loadCellsFrom]
  | n + 1, i, acc, h => by
    have h0 := h i (Nat.le_refl _) (by omega)
    simp only [loadCellsFrom, Sem.run_bind, add_none, run_load, h0, Result.andThen_ok]
    rw [run_loadCells b off f w' n (i + 1) (acc.push (f i)) (fun j h1 h2 => h j (by omega) (by omega))]
    simp [List.range'_succ]
theorem run_loadVar_many {t : TypeId} {n : Nat} (hc : cellsIn P t = some (some n)) (b off : Nat) (g : Nat → Value) (w' : World) (h : ∀ j, j < n → w'.cell? ⟨b, off + j, none⟩ = some (g j)) :
    (Instr.loadAt t (.pointer (some ⟨b, off, none⟩))).run P w' = .ok (.agg ((List.range n).map g).toArray) w' := by
  obtain ⟨i, hi, hs, hagg⟩ := cellsIn_many hc
  have hl := run_loadCells (P := P) b off g w' n 0 #[] (fun j _ hj => h j (by omega))
  simp only [Instr.loadAt, Instr.sureAddr, loadVar, Sem.run_bind, Sem.run_pure, Result.andThen_ok, hagg, if_true, sizeOf, typeInfo, run_program, hi, hs, loadCells, hl]
  simp [List.range_eq_range']
theorem run_loadVar_one {t : TypeId} (hc : cellsIn P t = some none) (b off : Nat) (x : Value) (w' : World) (h : w'.cell? ⟨b, off, none⟩ = some x) :
    (Instr.loadAt t (.pointer (some ⟨b, off, none⟩))).run P w' = .ok x w' := by
  simp [Instr.loadAt, Instr.sureAddr, loadVar, cellsIn_one hc, h]
theorem rd_agg {S : Nat → Prop} {n : Nat} {f : Nat → V} {g : Nat → Value} (h : ∀ j, j < n → Rd w S (f j) (g j)) : Rd w S (.agg n f) (.agg ((List.range n).map g).toArray) :=
  ⟨_, rfl, by simp, fun i hi => ⟨g i, by simp [hi], h i hi⟩⟩
theorem cell_of_blk {b i : Nat} {cur : Array Value} {e : TypeId} {x : Value} {fr : Nat × Nat} (h : w.heap[b]? = some (.cells cur e fr)) (hx : cur[i]? = some x) : w.cell? ⟨b, i, none⟩ = some x := by
  simp [World.cell?, h, hx]
theorem SimAt.blkAt (sim : SimAt w0 S0 s φ a w) {id b : Nat} {blk : Blk} (h : s.h[id]? = some (some blk)) {z : Nat} (hφ : φ[id]? = some (some (b, z))) :
    ∃ cur : Array Value, cur.size = z ∧ w0.heap.size ≤ b ∧ w.heap[b]? = some (.cells cur blk.elem (0, 0)) ∧ blk.n ≤ cur.size ∧ ∀ i, i < blk.n → ∃ x, cur[i]? = some x ∧ Rd w (Stab w0 S0 s.h φ) (blk.f i) x := by
  rcases sim.heap.blk id blk h with ⟨h1, _⟩ | ⟨b', cur, h1, h2⟩
  · rw [hφ] at h1; cases h1
  · rw [hφ] at h1; injection h1 with h1; injection h1 with h1; injection h1 with h1 h3; subst h1 h3
    exact ⟨cur, rfl, h2⟩
theorem yields_loadOwn {t : TypeId} {c : Option Nat} (hc : cellsIn P t = some c) {id b off : Nat} {K : Slot → Prop} (sim : SimAt w0 S0 s φ a w) {z : Nat} (hφ : φ[id]? = some (some (b, z))) (h : loadOwn s.h id off c K) :
    ∃ r v, K r ∧ RdSlot w (Stab w0 S0 s.h φ) φ r v ∧ ∀ w', Below w.heap.size w w' → (Instr.loadAt t (.pointer (some ⟨b, off, none⟩))).run P w' = .ok v w' := by
  unfold loadOwn at h
  split at h
  · rename_i blk hb
    obtain ⟨cur, _, _, hcur, hn, hx⟩ := sim.blkAt hb hφ
    cases c with
    | none =>
      simp only at h
      obtain ⟨x, hx1, hx2⟩ := hx off h.1
      refine ⟨_, x, h.2, hx2, fun w' hw' => run_loadVar_one hc _ _ _ _ ?_⟩
      rw [World.cell?_of_block (w := w) (a := ⟨b, off, none⟩) (hw'.block b (block_lt hcur))]
      exact cell_of_blk hcur hx1
    | some n =>
      simp only at h
      have hg : ∀ j, j < n → cur[off + j]? = some (cur.getD (off + j) undef) ∧ Rd w (Stab w0 S0 s.h φ) (blk.f (off + j)) (cur.getD (off + j) undef) := fun j hj => by
        obtain ⟨x, hx1, hx2⟩ := hx (off + j) (by omega)
        have : cur.getD (off + j) undef = x := by simp [hx1]
        rw [this]; exact ⟨hx1, hx2⟩
      refine ⟨_, _, h.2, rd_agg (g := fun j => cur.getD (off + j) undef) fun j hj => (hg j hj).2, fun w' hw' => run_loadVar_many hc _ _ _ _ fun j hj => ?_⟩
      rw [World.cell?_of_block (w := w) (a := ⟨b, off + j, none⟩) (hw'.block b (block_lt hcur))]
      exact cell_of_blk hcur (hg j hj).1
  · exact h.elim
theorem fieldIn_some {t : TypeId} {j o : Nat} {c : Option Nat} (h : fieldIn P t j = some (o, c)) :
    ∃ fs f i, P.underlying t = some (.struct fs) ∧ fs[j]? = some f ∧ f.offset = o ∧ P.info? f.type = some i ∧ i.size ≠ 0 ∧ cellsIn P f.type = some c := by
  unfold fieldIn at h
  split at h
  · rename_i fs hu
    split at h
    · rename_i f hf
      split at h
      · cases h
      · rename_i hsz
        obtain ⟨c', hc, he⟩ := Option.map_eq_some_iff.1 h
        injection he with h1 h2
        subst h2
        cases hi : P.info? f.type with
        | none => rw [hi] at hsz; exact absurd rfl hsz
        | some i => exact ⟨fs, f, i, hu, hf, h1, hi, by rw [hi] at hsz; exact hsz, hc⟩
    · cases h
  · cases h
theorem run_fieldAt {t : TypeId} {j o : Nat} {c : Option Nat} (h : fieldIn P t j = some (o, c)) (b off : Nat) (w' : World) :
    (Instr.fieldAt t (.pointer (some ⟨b, off, none⟩)) j).run P w' = .ok (.pointer (some ⟨b, off + o, none⟩)) w' := by
  obtain ⟨fs, f, i, hu, hf, rfl, hi, hsz, _⟩ := fieldIn_some h
  simp [Instr.fieldAt, run_underlying hu, hf, Instr.sureAddr, fieldPlace, sizeOf, typeInfo, hi, hsz, add_none]
theorem run_field_one {t : TypeId} {j o : Nat} (h : fieldIn P t j = some (o, none)) (cs : Array Value) (x : Value) (hx : cs[o]? = some x) (w' : World) :
    (Instr.field t (.agg cs) j).run P w' = .ok x w' := by
  obtain ⟨fs, f, i, hu, hf, rfl, hi, hsz, hc⟩ := fieldIn_some h
  simp [Instr.field, run_underlying hu, hf, asAgg, part, cellsIn_one hc, hx]
theorem run_field_many {t : TypeId} {j o n : Nat} (h : fieldIn P t j = some (o, some n)) (cs : Array Value) (w' : World) :
    (Instr.field t (.agg cs) j).run P w' = .ok (.agg (cs.extract o (o + n))) w' := by
  obtain ⟨fs, f, i, hu, hf, rfl, hi, hsz, hc⟩ := fieldIn_some h
  obtain ⟨i', hi', hs, hagg⟩ := cellsIn_many hc
  simp [Instr.field, run_underlying hu, hf, asAgg, part, hagg, sizeOf, typeInfo, hi', hs]
theorem min_eq (x y : Int) : (if y < x then y else x) = min x y := by rw [Int.min_def]; split <;> split <;> omega
theorem max_eq (x y : Int) : (if y > x then y else x) = max x y := by rw [Int.max_def]; split <;> split <;> omega
theorem elemSz_is {t : TypeId} (h : (elemSz P t).isSome = true) : P.underlying t = some (.slice (P.elem t)) := by
  unfold elemSz at h
  unfold Program.elem
  split at h
  · rename_i e he; rw [he]
  · cases h
theorem run_len_of {t ty : TypeId} (h : (elemSz P t).isSome = true) (A : Option Addr) (n c : Nat) (w' : World) :
    (Builtin.len_ #[t] ty #[.slice A n c]).run P w' = .ok (.int .i64 n) w' := run_len_slice w' t ty A n c (elemSz_is h)
theorem RdSs.get {S : Nat → Prop} : ∀ (vs : List SV) (us : List Value) (i : Nat) {v : SV}, RdSs w S φ vs us → vs[i]? = some v → ∃ u, us[i]? = some u ∧ RdS w S φ v u
  | [], _, _, _, _, h => by simp at h
  | _ :: _, [], _, _, h, _ => h.elim
  | y :: vs, u :: us, 0, v, h, hv => by simp at hv; subst hv; exact ⟨u, by simp, h.1⟩
  | y :: vs, u :: us, i + 1, v, h, hv => by
    obtain ⟨u', h1, h2⟩ := RdSs.get vs us i h.2 (by simpa using hv)
    exact ⟨u', by simpa using h1, h2⟩
theorem boundK_ok {o : Option Operand} {d : Nat} {K : Nat → Prop} (sim : SimAt w0 S0 s φ a w) (h : boundK s o d K) : ∃ n, K n ∧ ((o.map a.eval = none ∧ n = d) ∨ ∃ k, o.map a.eval = some (.int k (n : Int))) := by
  unfold boundK at h
  split at h
  · exact ⟨d, h, .inl ⟨rfl, rfl⟩⟩
  · split at h
    · rename_i k n hx
      have e := val_of sim hx
      exact ⟨n.toNat, h.2, .inr ⟨k, by rw [Int.toNat_of_nonneg h.1]; simp [e]⟩⟩
    · exact h.elim
theorem run_sliceBounds (b : Bool) (len cap l h : Nat) (lo hi : Option Value) (hlo : (lo = none ∧ l = 0) ∨ ∃ k, lo = some (.int k (l : Int))) (hhi : (hi = none ∧ h = len) ∨ ∃ k, hi = some (.int k (h : Int))) (hlh : l ≤ h) (hc : h ≤ cap) (w' : World) :
    (Instr.sliceBounds b len cap lo hi none).run P w' = .ok (l, h, cap) w' := by
  have bound : ∀ (k : IntKind) (n y : Nat) (c : BoundsCode), n ≤ y → (Instr.sliceBound (.int k (n : Int)) y c).run P w' = .ok n w' := fun k n y c hn => by
    simp [Instr.sliceBound, asIntOf, hn]
  rcases hlo with ⟨rfl, rfl⟩ | ⟨k, rfl⟩ <;> rcases hhi with ⟨rfl, rfl⟩ | ⟨k', rfl⟩ <;> simp [Instr.sliceBounds, bound, hlh, hc]
theorem cutK_ok {o : Oper} {t : TypeId} {x : Operand} {lo hi : Option Operand} {K : Slot → Prop} (sim : SimAt w0 S0 s φ a w) (ho : o.op = .slice t x lo hi none) (h : cutK P s t x lo hi K) : Yields P w0 S0 s φ a w o K := by
  unfold cutK at h
  split at h
  · rename_i b hx
    obtain ⟨hu, h⟩ := h
    have ex := val_of sim hx
    obtain ⟨l, h, hlo⟩ := boundK_ok sim h
    obtain ⟨hh, h, hhi⟩ := boundK_ok sim h
    obtain ⟨h1, h2, hK⟩ := h
    have hl : (bytesOf b).length = b.size := Array.length_toList
    refine ⟨_, .string ⟨(((bytesOf b).drop l).take (hh - l)).toArray⟩, hK, rfl, fun w' _ => ?_⟩
    have hr := run_sliceBounds (P := P) false b.size b.size l hh (lo.map a.eval) (hi.map a.eval) hlo (by rw [hl] at hhi; exact hhi) h1 (by omega) w'
    have e : b.extract l hh = ⟨(((bytesOf b).drop l).take (hh - l)).toArray⟩ := by
      have : (b.extract l hh).data.toList = ((bytesOf b).drop l).take (hh - l) := by
        simp [bytesOf]
      cases hb : b.extract l hh with
      | mk d => rw [hb] at this; simp only at this; rw [← this]
    unfold execOp
    simp only [ho, ex, Instr.sliceAt, Instr.slice, Sem.run_bind, run_underlying hu, Result.andThen_ok, Option.isSome_none, Option.map_none, Bool.false_eq_true, if_false, hr, Sem.run_pure, e]
  · rename_i sz n f hx
    obtain ⟨hsz, h⟩ := h
    obtain ⟨e, ii, hu, hii, rfl⟩ := elemSz_some hsz
    obtain ⟨A, c, ex, hc, hr⟩ := sim.opd hx
    obtain ⟨l, h, hlo⟩ := boundK_ok sim h
    obtain ⟨hh, h, hhi⟩ := boundK_ok sim h
    obtain ⟨h1, h2, hK⟩ := h
    have hb := run_sliceBounds (P := P) true n c l hh (lo.map a.eval) (hi.map a.eval) hlo hhi h1 (by omega)
    refine ⟨_, .slice (if c = l then A else A.map (·.add (l * ii.size))) (hh - l) (c - l), hK, ⟨_, _, rfl, by omega, fun hp => ?_⟩, fun w' _ => ?_⟩
    · have hpos : 0 < hh - l := by
        rcases Nat.eq_zero_or_pos (hh - l) with h0 | h0
        · rw [h0] at hp; simp at hp
        · exact h0
      have hle : (l + (hh - l)) * ii.size ≤ n * ii.size := Nat.mul_le_mul_right _ (by omega)
      rw [Nat.add_mul] at hle
      obtain ⟨b, off, rfl, hS, hr⟩ := hr (by omega)
      refine ⟨b, off + l * ii.size, by rw [if_neg (by omega)]; simp [add_none], hS, fun i hi => ?_⟩
      obtain ⟨x, hx1, hx2⟩ := hr (l * ii.size + i) (by omega)
      exact ⟨x, by rw [Nat.add_assoc]; exact hx1, hx2⟩
    · unfold execOp
      simp only [ho, ex, Instr.sliceAt, Instr.slice, Sem.run_bind, run_underlying hu, Result.andThen_ok, Option.map_none, hb w', sizeOf, typeInfo, run_program, hii, Sem.run_pure]
  · rename_i id sz off n hx
    obtain ⟨rfl, hsz, h⟩ := h
    obtain ⟨e, ii, hu, hii, rfl⟩ := elemSz_some hsz
    have hr : RdS w (Stab w0 S0 s.h φ) φ (.own id ii.size off n) (a.eval x) := sim.opd hx
    obtain ⟨hh, h, hhi⟩ := boundK_ok sim h
    obtain ⟨h2, hK⟩ := h
    rcases hr with ⟨q1, rfl, rfl, ex⟩ | ⟨b, c, z, q1, ex, q3, q4, q5⟩
    · have hb := run_sliceBounds (P := P) true 0 0 0 hh none (hi.map a.eval) (.inl ⟨rfl, rfl⟩) hhi (Nat.zero_le _) h2
      obtain rfl : hh = 0 := by omega
      refine ⟨_, .slice none 0 0, hK, .inl ⟨q1, rfl, rfl, rfl⟩, fun w' _ => ?_⟩
      unfold execOp
      simp only [ho, ex, Instr.sliceAt, Instr.slice, Sem.run_bind, run_underlying hu, Result.andThen_ok, Option.map_none, hb w', sizeOf, typeInfo, run_program, hii, Sem.run_pure, ↓reduceIte, Nat.sub_self]
    · have hb := run_sliceBounds (P := P) true n c 0 hh none (hi.map a.eval) (.inl ⟨rfl, rfl⟩) hhi (Nat.zero_le _) (by omega)
      refine ⟨_, .slice (some ⟨b, off, none⟩) hh c, hK, .inr ⟨b, c, z, q1, rfl, by omega, q4, q5⟩, fun w' _ => ?_⟩
      unfold execOp
      simp only [ho, ex, Instr.sliceAt, Instr.slice, Sem.run_bind, run_underlying hu, Result.andThen_ok, Option.map_none, hb w', sizeOf, typeInfo, run_program, hii, Sem.run_pure, Nat.zero_mul, Option.map_some, add_none, Nat.add_zero, ite_self, Nat.sub_zero]
  · exact h.elim
theorem byteSrc_some {t : TypeId} (h : byteSrc P t = true) : ∃ e, P.underlying t = some (.slice e) ∧ P.underlying e = some (.int .u8) := by
  unfold byteSrc at h
  split at h
  · rename_i e he
    refine ⟨e, he, ?_⟩
    split at h
    · assumption
    · cases h
  · cases h
theorem agg_ints {S : Nat → Prop} {n : Nat} {f : Nat → V} {cs : Array Value} (hsz : cs.size = n) (hf : ∀ i, i < n → f i = .val (.int .i64 (vInt (f i)))) (hcs : ∀ i, i < n → ∃ x, cs[i]? = some x ∧ Rd w S (f i) x) :
    Value.agg cs = aggI n fun i => vInt (f i) := by
  unfold aggI
  congr 1
  apply Array.ext_getElem?
  intro i
  by_cases h : i < n
  · obtain ⟨x, hx, hr⟩ := hcs i h
    rw [hf i h] at hr
    have : x = .int .i64 (vInt (f i)) := hr
    rw [hx, this]; simp [h]
  · rw [Array.getElem?_eq_none (by omega), Array.getElem?_eq_none (by simp; omega)]
theorem capsK_ok (sim : SimAt w0 S0 s φ a w) {K : List V → Prop} : ∀ (xs : List Operand) (vs : List V) (us : List Value), capsK s xs vs K → RdL w (Stab w0 S0 s.h φ) vs.reverse us.reverse →
    ∃ vs', K vs' ∧ RdL w (Stab w0 S0 s.h φ) vs' (us.reverse ++ xs.map a.eval)
  | [], vs, us, h, h1 => ⟨vs.reverse, h, by simpa using h1⟩
  | x :: xs, vs, us, h, h1 => by
    unfold capsK at h
    split at h
    · rename_i v hv
      obtain ⟨vs', hK, h3⟩ := capsK_ok sim xs (v :: vs) (a.eval x :: us) h (by rw [List.reverse_cons, List.reverse_cons]; exact RdL.append _ _ _ _ h1 (sim.opd hv))
      exact ⟨vs', hK, by simpa using h3⟩
    · exact h.elim
set_option maxHeartbeats 1000000 in
theorem evQ_ok {o : Oper} {K : Slot → Prop} (h : evQ P s o.op K) (sim : SimAt w0 S0 s φ a w) : Yields P w0 S0 s φ a w o K := by
  obtain ⟨dst, op, ty, pos, after, guard⟩ := o
  change evQ P s op K at h
  unfold evQ at h
  split at h
  case h_1 x => obtain ⟨r, hK, hr⟩ := yields_withS sim h; exact ⟨r, _, hK, hr, fun _ _ => rfl⟩
  case h_2 x => obtain ⟨r, hK, hr⟩ := yields_withS sim h; exact ⟨r, _, hK, hr, fun _ _ => rfl⟩
  case h_3 c x y =>
    split at h
    · rename_i p hp
      have hc := val_of sim hp
      cases p with
      | true =>
        obtain ⟨r, hK, hr⟩ := yields_withS sim (h.1 rfl)
        exact ⟨r, _, hK, hr, fun w' _ => by simp [execOp, hc, asBool]⟩
      | false =>
        obtain ⟨r, hK, hr⟩ := yields_withS sim (h.2 rfl)
        exact ⟨r, _, hK, hr, fun w' _ => by simp [execOp, hc, asBool]⟩
    · exact h.elim
  case h_4 op t x y yt =>
    split at h
    · rename_i va vb hx hy
      obtain ⟨r, hK, hr⟩ := binK_ok h x y
      have ex := val_of sim hx
      have ey := val_of sim hy
      refine ⟨sc r, r, hK, rfl, fun w' _ => ?_⟩
      have := hr w'
      simp only [execOp, ex, ey, Sem.run_bind] at this ⊢
      rw [this]; rfl
    · rename_i n f m g hx hy
      obtain ⟨rfl, hS, hf, hg, hK⟩ := h
      obtain ⟨cs, ex, hsz, hcs⟩ := sim.opd hx
      obtain ⟨ds, ey, hsz', hds⟩ := sim.opd hy
      rw [agg_ints hsz hf hcs] at ex
      rw [agg_ints hsz' hg hds] at ey
      cases op <;> simp only at hK <;> first
        | exact hK.elim
        | skip
      · refine ⟨_, .bool (sameB n f g), hK, rfl, fun w' _ => ?_⟩
        have := (hS (fun i => vInt (f i)) (fun i => vInt (g i)) x y w').1
        simp only [execOp, ex, ey, Sem.run_bind] at this ⊢
        rw [this]; rfl
      · refine ⟨_, .bool (!sameB n f g), hK, rfl, fun w' _ => ?_⟩
        have := (hS (fun i => vInt (f i)) (fun i => vInt (g i)) x y w').2
        simp only [execOp, ex, ey, Sem.run_bind] at this ⊢
        rw [this]; rfl
    · exact h.elim
  case h_5 tt x =>
    split at h
    · rename_i p hp
      have hc := val_of sim hp
      exact ⟨sc (.bool (!p)), .bool (!p), h, rfl, fun w' _ => by simp only [execOp, hc]; simp [go_sem]⟩
    · exact h.elim
  case h_6 tt x =>
    split at h
    · rename_i k n hp
      have hc := val_of sim hp
      exact ⟨sc (.int k (-n)), .int k (-n), h.2, rfl, fun w' _ => by simp only [execOp, hc]; simp [go_sem, wrap_InK h.1]⟩
    · exact h.elim
  case h_7 c =>
    obtain ⟨cal, args, ts⟩ := c
    obtain ⟨args⟩ := args
    obtain ⟨ts⟩ := ts
    simp only at h
    unfold evB at h
    split at h
    · rename_i x
      split at h
      · rename_i sz n f t hp
        obtain ⟨A, c, he, _⟩ := sim.opd hp
        exact ⟨_, .int .i64 n, h.2, rfl, fun w' _ => by simp [execOp, resolve, invoke, builtin, he, run_len_of h.1]⟩
      · rename_i id sz off n t hp
        have := sim.opd hp
        obtain ⟨A, c, he⟩ : ∃ A c, a.eval x = .slice A n c := by
          rcases this with ⟨_, _, rfl, he⟩ | ⟨b, c, _, _, he, _⟩
          · exact ⟨_, _, he⟩
          · exact ⟨_, _, he⟩
        exact ⟨_, .int .i64 n, h.2, rfl, fun w' _ => by simp [execOp, resolve, invoke, builtin, he, run_len_of h.1]⟩
      · rename_i b t hp
        have he := val_of sim hp
        refine ⟨_, .int .i64 (bytesOf b).length, h.2, rfl, fun w' _ => ?_⟩
        have hr : (Builtin.len_ #[t] ty #[.string b]).run P w' = .ok (.int .i64 (bytesOf b).length) w' := by
          rw [run_len_string w' t ty b h.1]
          have hl : (bytesOf b).length = b.size := Array.length_toList
          rw [hl]; rfl
        simp [execOp, resolve, invoke, builtin, he, hr]
      · rename_i t hp
        have he := val_of sim hp
        exact ⟨_, .int .i64 0, h.2, rfl, fun w' _ => by simp [execOp, resolve, invoke, builtin, he, run_len_of h.1]⟩
      · rename_i Z sz n f t hp
        obtain ⟨_, A, c, he, _⟩ := sim.opd hp
        exact ⟨_, .int .i64 n, h.2, rfl, fun w' _ => by simp [execOp, resolve, invoke, builtin, he, run_len_of h.1]⟩
      · rename_i u0 Z sz n f t hp
        obtain ⟨_, _, A, c, he, _⟩ := sim.opd hp
        exact ⟨_, .int .i64 n, h.2, rfl, fun w' _ => by simp [execOp, resolve, invoke, builtin, he, run_len_of h.1]⟩
      · rename_i u0 Z e sz n f t hp
        obtain ⟨A, c, he⟩ : ∃ A c, a.eval x = .slice A n c := by
          obtain ⟨_, _, ⟨he, rfl⟩ | ⟨b, c, cur, he, _⟩⟩ := sim.opd hp
          · exact ⟨_, _, he⟩
          · exact ⟨_, _, he⟩
        exact ⟨_, .int .i64 n, h.2, rfl, fun w' _ => by simp [execOp, resolve, invoke, builtin, he, run_len_of h.1]⟩
      · exact h.elim
    · rename_i x y
      split at h
      · rename_i k m _ n hx hy
        have ex := val_of sim hx
        have ey := val_of sim hy
        exact ⟨_, .int k (min m n), h, rfl, fun w' _ => by simp only [execOp, resolve, invoke, builtin, ex, ey, List.map_toArray, List.map_cons, List.map_nil, Sem.run_bind, Sem.run_pure, Result.andThen_ok, run_min_int2, min_eq]⟩
      · exact h.elim
    · rename_i x y
      split at h
      · rename_i k m _ n hx hy
        have ex := val_of sim hx
        have ey := val_of sim hy
        exact ⟨_, .int k (max m n), h, rfl, fun w' _ => by simp only [execOp, resolve, invoke, builtin, ex, ey, List.map_toArray, List.map_cons, List.map_nil, Sem.run_bind, Sem.run_pure, Result.andThen_ok, run_max_int2, max_eq]⟩
      · exact h.elim
    · exact h.elim
  case h_8 t x i =>
    split at h
    · rename_i sz n f _ k hx hi
      obtain ⟨hsz, hz, h0, h1, hK⟩ := h
      obtain ⟨e, ii, hu, hii, rfl⟩ := elemSz_some hsz
      obtain ⟨A, c, ex, hc, hr⟩ := sim.opd hx
      have ei := val_of sim hi
      have hlt : k.toNat < n := by omega
      · obtain ⟨b, off, rfl, hS, hr⟩ := hr (Nat.mul_pos (by omega) hz)
        refine ⟨_, .pointer (some ⟨b, off + k.toNat * ii.size, none⟩), hK, ⟨b, _, rfl, fun j hj => ⟨hS, ?_⟩⟩, fun w' _ => ?_⟩
        · have hb : k.toNat * ii.size + j < n * ii.size := by
            have : (k.toNat + 1) * ii.size ≤ n * ii.size := Nat.mul_le_mul_right _ hlt
            rw [Nat.add_mul] at this; omega
          obtain ⟨x, hx1, hx2⟩ := hr _ hb
          exact ⟨x, by rw [Nat.add_assoc]; exact hx1, hx2⟩
        · simp only [execOp, ex, ei, Sem.run_bind, run_indexAt hu hii _ _ _ _ _ h0 h1, Result.andThen_ok, add_none]; rfl
    · rename_i id sz off n _ k hx hi
      obtain ⟨hsz, h0, h1, hK⟩ := h
      obtain ⟨e, ii, hu, hii, rfl⟩ := elemSz_some hsz
      have ei := val_of sim hi
      rcases sim.opd hx with ⟨_, _, rfl, _⟩ | ⟨b, c, z, hφ, ex, hc, hm, hsz⟩
      · omega
      · refine ⟨_, .pointer (some ⟨b, off + k.toNat * ii.size, none⟩), hK, ⟨b, z, hφ, rfl⟩, fun w' _ => ?_⟩
        simp only [execOp, ex, ei, Sem.run_bind, run_indexAt hu hii _ _ _ _ _ h0 h1, Result.andThen_ok, add_none]; rfl
    · rename_i Z sz n f _ k hx hi
      obtain ⟨hsz, hz, h0, h1, hK⟩ := h
      obtain ⟨e, ii, hu, hii, rfl⟩ := elemSz_some hsz
      obtain ⟨hZ, A, c, ex, hc, hr⟩ := sim.opd hx
      have ei := val_of sim hi
      have hlt : k.toNat < n := by omega
      obtain ⟨b, off, rfl, hS, hr⟩ := hr (Nat.mul_pos (by omega) hz)
      refine ⟨_, .pointer (some ⟨b, off + k.toNat * ii.size, none⟩), hK, ⟨b, _, rfl, fun j hj => ⟨(hZ b hS).1, ?_⟩⟩, fun w' _ => ?_⟩
      · have hb : k.toNat * ii.size + j < n * ii.size := by
          have : (k.toNat + 1) * ii.size ≤ n * ii.size := Nat.mul_le_mul_right _ hlt
          rw [Nat.add_mul] at this; omega
        obtain ⟨x, hx1, hx2⟩ := hr _ hb
        exact ⟨x, by rw [Nat.add_assoc]; exact hx1, oldZ_rd hZ _ _ hx2⟩
      · simp only [execOp, ex, ei, Sem.run_bind, run_indexAt hu hii _ _ _ _ _ h0 h1, Result.andThen_ok, add_none]; rfl
    · rename_i u0 Z sz n f _ k hx hi
      obtain ⟨hsz, hz, h0, h1, hK⟩ := h
      obtain ⟨e, ii, hu, hii, rfl⟩ := elemSz_some hsz
      obtain ⟨_, hZ, A, c, ex, hc, hr⟩ := sim.opd hx
      have ei := val_of sim hi
      have hlt : k.toNat < n := by omega
      obtain ⟨b, off, rfl, hS, hr⟩ := hr (Nat.mul_pos (by omega) hz)
      refine ⟨_, .pointer (some ⟨b, off + k.toNat * ii.size, none⟩), hK, ⟨b, _, rfl, fun j hj => ⟨(hZ b hS).1, ?_⟩⟩, fun w' _ => ?_⟩
      · have hb : k.toNat * ii.size + j < n * ii.size := by
          have : (k.toNat + 1) * ii.size ≤ n * ii.size := Nat.mul_le_mul_right _ hlt
          rw [Nat.add_mul] at this; omega
        obtain ⟨x, hx1, hx2⟩ := hr _ hb
        exact ⟨x, by rw [Nat.add_assoc]; exact hx1, hx2⟩
      · simp only [execOp, ex, ei, Sem.run_bind, run_indexAt hu hii _ _ _ _ _ h0 h1, Result.andThen_ok, add_none]; rfl
    · rename_i u0 Z e0 sz n f _ k hx hi
      obtain ⟨hsz, hz, h0, h1, hK⟩ := h
      obtain ⟨e, ii, hu, hii, rfl⟩ := elemSz_some hsz
      have ei := val_of sim hi
      have hlt : k.toNat < n := by omega
      obtain ⟨_, hZ, ⟨_, hn⟩ | ⟨b, c, cur, ex, hc, hm, hS, hcur, hsz, hr⟩⟩ := sim.opd hx
      · omega
      refine ⟨_, .pointer (some ⟨b, 0 + k.toNat * ii.size, none⟩), hK, ⟨b, _, rfl, fun j hj => ⟨(hZ b hS).1, ?_⟩⟩, fun w' _ => ?_⟩
      · have hb : k.toNat * ii.size + j < n * ii.size := by
          have : (k.toNat + 1) * ii.size ≤ n * ii.size := Nat.mul_le_mul_right _ hlt
          rw [Nat.add_mul] at this; omega
        obtain ⟨x, hx1, hx2⟩ := hr _ hb
        exact ⟨x, by rw [Nat.zero_add]; exact hcur.cell hx1, hx2⟩
      · simp only [execOp, ex, ei, Sem.run_bind, run_indexAt hu hii _ _ _ _ _ h0 h1, Result.andThen_ok, add_none]; rfl
    · exact h.elim
  case h_9 t x =>
    split at h
    · rename_i n f hx hc
      obtain ⟨b, off, ex, hr⟩ := sim.opd hx
      obtain ⟨hS, v, hv, hr⟩ := hr 0 h.1
      refine ⟨_, v, h.2, hr, fun w' hw' => ?_⟩
      replace hw' := hw'.resolve_left (by simp [noLoad])
      have : w'.cell? ⟨b, off, none⟩ = some v := by
        rw [World.cell?_of_block (w := w) (a := ⟨b, off, none⟩) (hw'.block b (block_of_cell hv))]; exact hv
      simp only [execOp, ex, Sem.run_bind, run_loadVar_one hc _ _ _ _ this, Result.andThen_ok]; rfl
    · rename_i n f m hx hc
      obtain ⟨b, off, ex, hr⟩ := sim.opd hx
      have hg : ∀ j, j < m → w.cell? ⟨b, off + j, none⟩ = some ((w.cell? ⟨b, off + j, none⟩).getD undef) ∧ Rd w (Stab w0 S0 s.h φ) (f j) ((w.cell? ⟨b, off + j, none⟩).getD undef) := fun j hj => by
        obtain ⟨_, v, hv, hr⟩ := hr j (by omega)
        rw [hv]; exact ⟨rfl, hr⟩
      refine ⟨_, _, h.2, rd_agg (g := fun j => (w.cell? ⟨b, off + j, none⟩).getD undef) fun j hj => (hg j hj).2, fun w' hw' => ?_⟩
      replace hw' := hw'.resolve_left (by simp [noLoad])
      have : ∀ j, j < m → w'.cell? ⟨b, off + j, none⟩ = some ((w.cell? ⟨b, off + j, none⟩).getD undef) := fun j hj => by
        have hj' := (hg j hj).1
        rw [World.cell?_of_block (w := w) (a := ⟨b, off + j, none⟩) (hw'.block b (block_of_cell hj'))]; exact hj'
      simp only [execOp, ex, Sem.run_bind, run_loadVar_many hc _ _ _ _ this, Result.andThen_ok]; rfl
    · rename_i n f hx hc
      obtain ⟨b, off, ex, hr⟩ := sim.opd hx
      obtain ⟨hS, v, hv, hr⟩ := hr 0 h.1
      refine ⟨_, v, h.2, hr, fun w' hw' => ?_⟩
      replace hw' := hw'.resolve_left (by simp [noLoad])
      have : w'.cell? ⟨b, off, none⟩ = some v := by
        rw [World.cell?_of_block (w := w) (a := ⟨b, off, none⟩) (hw'.block b (block_of_cell hv))]; exact hv
      simp only [execOp, ex, Sem.run_bind, run_loadVar_one hc _ _ _ _ this, Result.andThen_ok]; rfl
    · rename_i id off c hx hc
      obtain ⟨b, z, hφ, ex⟩ := sim.opd hx
      obtain ⟨r, v, hK, hr, hrun⟩ := yields_loadOwn hc sim hφ h
      refine ⟨r, v, hK, hr, fun w' hw' => ?_⟩
      replace hw' := hw'.resolve_left (by simp [noLoad])
      simp only [execOp, ex, Sem.run_bind, hrun w' hw', Result.andThen_ok]; rfl
    · exact h.elim
  case h_10 t x j =>
    split at h
    · rename_i n f o hx hc
      obtain ⟨cs, ex, hn, hr⟩ := sim.opd hx
      obtain ⟨v, hv, hr⟩ := hr o h.1
      refine ⟨_, v, h.2, hr, fun w' hw' => ?_⟩
      simp only [execOp, ex, Sem.run_bind, run_field_one hc cs v hv, Result.andThen_ok]; rfl
    · rename_i n f o m hx hc
      obtain ⟨cs, ex, hn, hr⟩ := sim.opd hx
      refine ⟨_, _, h.2, ⟨cs.extract o (o + m), rfl, by simp; omega, fun i hi => ?_⟩, fun w' hw' => ?_⟩
      · obtain ⟨v, hv, hr⟩ := hr (o + i) (by omega)
        exact ⟨v, by rw [Array.getElem?_extract, if_pos (by omega)]; exact hv, hr⟩
      · simp only [execOp, ex, Sem.run_bind, run_field_many hc cs, Result.andThen_ok]; rfl
    · exact h.elim
  case h_11 t x j =>
    split at h
    · rename_i n f o c hx hc
      obtain ⟨b, off, ex, hr⟩ := sim.opd hx
      refine ⟨_, .pointer (some ⟨b, off + o, none⟩), h.2, ⟨b, _, rfl, fun i hi => ?_⟩, fun w' hw' => ?_⟩
      · rw [Nat.add_assoc]; exact hr (o + i) (by omega)
      · simp only [execOp, ex, Sem.run_bind, run_fieldAt hc, Result.andThen_ok]; rfl
    · rename_i id off o c hx hc
      obtain ⟨b, z, hφ, ex⟩ := sim.opd hx
      refine ⟨_, .pointer (some ⟨b, off + o, none⟩), h, ⟨b, z, hφ, rfl⟩, fun w' hw' => ?_⟩
      simp only [execOp, ex, Sem.run_bind, run_fieldAt hc, Result.andThen_ok]; rfl
    · exact h.elim
  case h_12 x i =>
    split at h
    · rename_i vs hx
      obtain ⟨us, ex, hr⟩ := sim.opd hx
      split at h
      · rename_i v hv
        obtain ⟨u, hu, hru⟩ := RdSs.get vs us i hr hv
        exact ⟨.one v, u, h, hru, fun w' _ => by simp [execOp, ex, Instr.extract, hu]⟩
      · exact h.elim
    · exact h.elim
  case h_13 x =>
    split at h
    · rename_i n f hx
      obtain ⟨b, off, ex, hr⟩ := sim.opd hx
      exact ⟨_, .pointer (some ⟨b, off, none⟩), h, ⟨b, off, rfl, hr⟩, fun w' _ => by simp [execOp, ex]⟩
    · rename_i id off hx
      obtain ⟨b, z, hφ, ex⟩ := sim.opd hx
      exact ⟨_, .pointer (some ⟨b, off, none⟩), h, ⟨b, z, hφ, rfl⟩, fun w' _ => by simp [execOp, ex]⟩
    · exact h.elim
  case h_14 t x lo hi => exact cutK_ok sim rfl h
  case h_15 src t x =>
    split at h
    · rename_i k n k' hx hu
      have ex := val_of sim hx
      obtain ⟨hs, hk, hK⟩ := h
      obtain ⟨d, hd⟩ := Option.isSome_iff_exists.1 hs
      refine ⟨_, .int k' n, hK, rfl, fun w' _ => ?_⟩
      simp only [execOp, ex, Sem.run_bind, convert, run_underlying hd, run_underlying hu, Result.andThen_ok, Conv.intToInt, wrap_InK hk]
      rfl
    · rename_i id sz off n hx hu
      unfold bytesK at h
      split at h
      · rename_i b hb
        obtain ⟨rfl, hsrc, hle, hall, hK⟩ := h
        obtain ⟨e, he1, he2⟩ := byteSrc_some hsrc
        rcases sim.opd hx with ⟨_, rfl, rfl, ex⟩ | ⟨b', c, z, hφ, ex, hc, _, _⟩
        · refine ⟨_, _, hK, rfl, fun w' _ => ?_⟩
          simp only [execOp, ex, Sem.run_bind, run_convert_bytes_nil w' src e he1 he2 0 0 t hu, Result.andThen_ok]
          rfl
        · obtain ⟨cur, _, _, hcur, hn, hcs⟩ := sim.blkAt hb hφ
          refine ⟨_, _, hK, rfl, fun w' hw' => ?_⟩
          replace hw' := hw'.resolve_left (by simp [noLoad])
          have hcell : ∀ i, i < n → w'.cell? ⟨b', off + i, none⟩ = some (.int .u8 (((List.range n).map fun i => vInt (b.f (off + i))).getD i 0)) := fun i hi => by
            obtain ⟨x, hx1, hx2⟩ := hcs (off + i) (by omega)
            rw [hall i hi] at hx2
            have hx3 : x = .int .u8 (vInt (b.f (off + i))) := hx2
            rw [World.cell?_of_block (w := w) (a := ⟨b', off + i, none⟩) (hw'.block b' (block_lt hcur)), cell_of_blk hcur hx1, hx3]
            simp [List.getD, hi]
          simp only [execOp, ex, Sem.run_bind, run_convert_bytes_arg w' src e he1 he2 b' off n c _ (by simp) hcell t hu, Result.andThen_ok]
          rfl
      · exact h.elim
    · exact h.elim
  case h_16 t x i =>
    split at h
    · rename_i b k n hx hi
      obtain ⟨hu, h0, h1, hK⟩ := h
      have ex := val_of sim hx
      have ei := val_of sim hi
      refine ⟨_, .int .u8 ((bytesOf b).getD n.toNat 0).toNat, hK, rfl, fun w' _ => ?_⟩
      have hl : (bytesOf b).length = b.size := Array.length_toList
      have hs : n < b.size := by omega
      have hn : n.toNat < b.size := by omega
      have hb : (bytesOf b).getD n.toNat 0 = b[n.toNat]'hn := by
        have hn' : n.toNat < (bytesOf b).length := by omega
        simp only [List.getD, List.getElem?_eq_getElem hn', Option.getD_some]; rfl
      simp only [execOp, ex, ei, Sem.run_bind, run_index_string w' t b k n hu, h0, hs, and_self, dite_true, Result.andThen_ok, hb]; rfl
    · exact h.elim
  case h_17 g xs =>
    obtain ⟨vs', hK, hr⟩ := capsK_ok sim xs [] [] h sim.gl
    refine ⟨_, .func (.func g) #[] (xs.map a.eval).toArray, hK, ⟨_, rfl, by have := RdL.len _ _ hr; simpa using this, fun i hi => ?_⟩, fun w' _ => ?_⟩
    · obtain ⟨u, hu, hr⟩ := RdL.get vs' _ i hr (v := vs'.getD i (.val undef)) (by simp [List.getD, hi])
      exact ⟨u, by simpa using hu, hr⟩
    · simp [execOp, Instr.makeFunc]
  case h_18 t m x =>
    obtain ⟨b, κ, D, enc, l, kv, k, z, kt, e, hm, hx, hkv, hk, ht, hz, hK⟩ := h
    obtain ⟨h1, h2, es, c, h3, h4⟩ := sim.opd hm
    have hkx : a.eval x = enc k := hkv _ _ _ (sim.opd hx)
    have hkeys : es.toList.map (·.key) = (l.map (·.1)).map enc := by
      have := congrArg (List.map Prod.fst) h4
      simpa [encA, kvOf, List.map_map, Function.comp_def] using this
    refine ⟨_, (getA l k).getD z, hK, rfl, fun w' hw' => ?_⟩
    replace hw' := hw'.resolve_left (by simp [noLoad])
    have hf := hk.find k es.toList (l.map (·.1)) w' hkeys
    have h3' : w'.heap[b]? = some (.map es c) := by rw [hw'.block b (block_lt h3)]; exact h3
    unfold execOp
    simp only [h1, hkx, Instr.lookup, Sem.run_bind, run_underlying ht, Result.andThen_ok, MapKept.run_getObj_map h3', Sem.run_pure, hk.chk, hf]
    rcases findP_is (enc := enc) k l es.toList 0 h4 with ⟨g1, g2, _⟩ | ⟨j, e', g1, _, _, g2, _⟩
    · rw [g1, g2]; simp [Sem.run_bind, hz, Result.andThen]
    · rw [g1, g2]; simp
  case h_19 => exact h.elim
end
end Go.Proofs.Ytlomkebhopaliaa
