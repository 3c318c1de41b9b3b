/- From a law's contract to the given statement: what a slice that came in reads as. No conditions. -/
import Derived.Test.YteapdildbfimnaaEngE
import Derived.Test.YteapdildbfimnaaRows
import Derived.ProofKit
import Derived.OpenShut
import Derived.ShutString
import Derived.ChangeOld
import Derived.Test.YteapdildbfimnaaPureMx
import Derived.SliceStrings
import Derived.Deep.Matrix
import Derived.Deep.Slices
import Derived.Lib.SmallJoins
namespace Go.Proofs.Yteapdildbfimnaa
set_option linter.unusedSimpArgs false
set_option linter.unusedVariables false
open Go.ChangeShapes Go.WideShapes Go.ChangeAt Go.RowKit

theorem own : ownKnob Try.prog.godebug = none := by kernel_rfl
theorem laidOut : laidOutB Try.prog = true := by kernel_rfl

/-- A slice of integers that came in. -/
def IsRow (k : IntKind) (w : World) (a : Option Addr) (len cap : Nat) (zs : List Int) : Prop :=
  (a = none ∧ len = 0 ∧ cap = 0 ∧ zs = []) ∨
  ∃ x, a = some x ∧ len ≤ cap ∧ cap ≤ maxLen ∧ zs.length = cap ∧ (∀ i, i < zs.length → w.cell? (x.add i) = some (.int k (zs.getD i 0))) ∧ ∀ n ∈ zs, (Lit.int k n).wf = true

theorem IsRow.rd {w : World} {a : Option Addr} {len cap : Nat} {zs : List Int} (h : IsRow .i64 w a len cap zs) : ∃ l : List Int, Rd w (fun _ => True) (ints l) (.slice a len cap) := by
  rcases h with ⟨rfl, rfl, rfl, rfl⟩ | ⟨x, rfl, h1, _, h3, h4, _⟩
  · exact ⟨[], none, 0, rfl, Nat.le_refl _, fun h => by simp at h⟩
  · refine ⟨zs.take len, some x, cap, ?_, ?_, fun hp => ?_⟩
    · simp [h3, h1]
    · simp [h3, h1]
    · have hl : (zs.take len).length = len := by simp [h3, h1]
      rw [hl, Nat.mul_one] at hp ⊢
      have hx := h4 0 (by omega)
      have hs : x.spot = none := by
        have e : x.add 0 = x := rfl
        rw [e] at hx
        unfold World.cell? at hx
        split at hx
        · split at hx
          · cases hx
          · simpa using ‹¬ x.spot.isSome = true›
        · cases hx
      obtain ⟨b, off, spot⟩ := x
      simp only at hs; subst hs
      refine ⟨b, off, rfl, trivial, fun i hi => ⟨_, by rw [← add_none]; exact h4 i (by omega), ?_⟩⟩
      show Value.int .i64 _ = Value.int .i64 _
      congr 1
      simp [List.getD, hi]

theorem Fn.holds_true {P : Program} {f : FuncId} {vs : List V} (h : Fn P f vs (.one (.pv (vb true)))) {w : World} {us : List Value} (hr : RdL w (fun _ => True) vs us) :
    Calls P f us.toArray w fun e w' => e = .returned (.bool true) ∧ Below w.heap.size w w' :=
  (h.runs w (fun _ => True) us hr).mono fun e w' ⟨u, φ, he, hh, hs⟩ => ⟨by rw [he]; exact congrArg _ hs, hh.below⟩

open Go.ChangeShapes Go.WideShapes Go.ChangeAt Go.RowKit
set_option linter.unusedSimpArgs false
set_option linter.unusedVariables false

theorem spot_of_cell {w : World} {x : Addr} {v : Value} (h : w.cell? x = some v) : x.spot = none := by
  unfold World.cell? at h
  split at h
  · split at h
    · cases h
    · simpa using ‹¬ x.spot.isSome = true›
  · cases h

theorem add_zero_addr (x : Addr) : x.add 0 = x := rfl

section
variable {H : Type} {enc : TypeId × Value → H} {P : Program} {w : World} {base : Nat} {held : Bool}

theorem rd_ints {t e : TypeId} {fuel : Nat} {a : Option Addr} {len cap : Nat} {x : DataW H × List MemPlace} (ht : P.underlying t = some (.slice e)) (he : P.underlying e = some (.int .i64)) (hc : P.cellsOf e = 1)
    (h : DataW.trod enc P w base (fun _ => true) held fuel t (Value.slice a len cap).cells.toList = some x) :
    ∃ l : List Int, Rd w (fun _ => True) (ints l) (.slice a len cap) ∧ l.length ≤ 9223372036854775807 := by
  have hM : maxLen ≤ 9223372036854775807 := by decide
  have hrow : ∃ zs, IsRow .i64 w a len cap zs := by
    rcases open_ints ht he hc h with ⟨hcs, _⟩ | ⟨x, l, c, zs, hcs, _, hl, hm, hz, _, hcell, hwz⟩
    · simp [Value.cells] at hcs
      obtain ⟨rfl, rfl, rfl⟩ := hcs
      exact ⟨[], .inl ⟨rfl, rfl, rfl, rfl⟩⟩
    · simp [Value.cells] at hcs
      obtain ⟨rfl, rfl, rfl⟩ := hcs
      exact ⟨zs, .inr ⟨_, rfl, hl, hm, by simpa using hz, hcell, hwz⟩⟩
  obtain ⟨zs, hz⟩ := hrow
  obtain ⟨l, hl⟩ := hz.rd
  refine ⟨l, hl, ?_⟩
  obtain ⟨A, c, e1, _⟩ := hl
  injection e1 with _ e2 _
  rcases hz with ⟨_, h2, _⟩ | ⟨_, _, h2, h3, _⟩
  · omega
  · omega

theorem rd_strs {t e : TypeId} {fuel : Nat} {a : Option Addr} {len cap : Nat} {x : DataW H × List MemPlace} (ht : P.underlying t = some (.slice e)) (he : P.underlying e = some .string) (hc : P.cellsOf e = 1)
    (h : DataW.trod enc P w base (fun _ => true) held fuel t (Value.slice a len cap).cells.toList = some x) :
    ∃ l : List ByteArray, Rd w (fun _ => True) (Yteapdildbfimnaa.strs l) (.slice a len cap) ∧ l.length ≤ 9223372036854775807 ∧ ∀ i, i < l.length → (stAt l i).size ≤ 9223372036854775807 := by
  have hM : maxLen ≤ 9223372036854775807 := by decide
  rcases open_strings ht he hc h with ⟨hcs, _⟩ | ⟨x, l, c, ss, hcs, _, hl, hm, hz, _, hcell, hsz⟩
  · simp [Value.cells] at hcs
    obtain ⟨rfl, rfl, rfl⟩ := hcs
    exact ⟨[], ⟨none, 0, rfl, Nat.le_refl _, fun h => by simp at h⟩, by simp, fun i hi => by simp at hi⟩
  · simp [Value.cells] at hcs
    obtain ⟨rfl, rfl, rfl⟩ := hcs
    simp only [if_true] at hz
    have hlen : (ss.take len).length = len := by simp [hz, hl]
    have hget : ∀ i, i < len → stAt (ss.take len) i = ss.getD i ByteArray.empty := fun i hi => by simp [stAt, List.getD, hi]
    refine ⟨ss.take len, ⟨some x, cap, by rw [hlen], by rw [hlen]; exact hl, fun hp => ?_⟩, by rw [hlen]; omega, fun i hi => ?_⟩
    · rw [hlen, Nat.mul_one] at hp ⊢
      have h0 := hcell 0 (by omega)
      have hs := spot_of_cell h0
      obtain ⟨b, off, spot⟩ := x
      have hs : spot = none := hs
      subst hs
      refine ⟨b, off, rfl, trivial, fun i hi => ⟨_, by rw [← add_none]; exact hcell i (by omega), ?_⟩⟩
      show Value.string _ = Value.string _
      rw [hget i hi]
    · rw [hlen] at hi
      rw [hget i hi]
      have : i < ss.length := by omega
      have e : ss.getD i ByteArray.empty = ss[i] := by simp [List.getD, this]
      rw [e]
      exact Nat.le_trans (hsz _ (List.getElem_mem this)) hM


theorem rd_rows {t e q : TypeId} {fuel : Nat} {a : Option Addr} {len cap : Nat} {x : DataW H × List MemPlace} (ht : P.underlying t = some (.slice e)) (he : P.underlying e = some (.slice q)) (hq : P.underlying q = some (.int .i64)) (ce : P.cellsOf e = 1) (cq : P.cellsOf q = 1)
    (h : DataW.trod enc P w base (fun _ => true) held fuel t (Value.slice a len cap).cells.toList = some x) :
    ∃ m : List (List Int), Rd w (fun _ => True) (rows m) (.slice a len cap) ∧ m.length ≤ 9223372036854775807 ∧ ∀ i, i < m.length → (rowAt m i).length ≤ 9223372036854775807 := by
  have hM : maxLen ≤ 9223372036854775807 := by decide
  rcases Deep.open_int_rows ht he hq ce cq h with ⟨hcs, _⟩ | ⟨x, l, c, A, L, C, Z, hcs, _, hl, hm, _, hr⟩
  · simp [Value.cells] at hcs
    obtain ⟨rfl, rfl, rfl⟩ := hcs
    exact ⟨[], ⟨none, 0, rfl, Nat.le_refl _, fun h => by simp at h⟩, by simp, fun i hi => by simp at hi⟩
  · simp [Value.cells] at hcs
    obtain ⟨rfl, rfl, rfl⟩ := hcs
    have hlen : ((List.range len).map fun r => (Z r).take (L r)).length = len := by simp
    have hget : ∀ i, i < len → rowAt ((List.range len).map fun r => (Z r).take (L r)) i = (Z i).take (L i) := fun i hi => by simp [rowAt, List.getD, hi]
    refine ⟨(List.range len).map fun r => (Z r).take (L r), ⟨some x, cap, by rw [hlen], by rw [hlen]; exact hl, fun hp => ?_⟩, by rw [hlen]; omega, fun i hi => ?_⟩
    · rw [hlen, Nat.mul_one] at hp ⊢
      have hs := spot_of_cell (hr 0 (by omega)).1
      obtain ⟨b, off, spot⟩ := x
      have hs : spot = none := hs
      subst hs
      refine ⟨b, off, rfl, trivial, fun i hi => ⟨_, by rw [← add_none]; exact (hr i (by omega)).1, ?_⟩⟩
      obtain ⟨_, h2, h3, h4, _, h6, h7⟩ := hr i (by omega)
      show Rd w (fun _ => True) (ints (rowAt _ i)) _
      rw [hget i hi]
      have hz : ((Z i).take (L i)).length = L i := by simp [h4, h2]
      refine ⟨A i, C i, by rw [hz], by rw [hz]; exact h2, fun hp' => ?_⟩
      rw [hz, Nat.mul_one] at hp' ⊢
      cases hA : A i with
      | none => have := h6 hA; omega
      | some y =>
        have g := (h7 y hA).2
        have hs := spot_of_cell (g 0 (by omega))
        obtain ⟨b', off', spot⟩ := y
        have hs : spot = none := hs
        subst hs
        refine ⟨b', off', rfl, trivial, fun j hj => ⟨_, by rw [← add_none]; exact g j (by omega), ?_⟩⟩
        show Value.int .i64 _ = Value.int .i64 _
        congr 1
        simp [List.getD, hj]
    · rw [hlen] at hi
      rw [hget i hi]
      have := hr i (by omega)
      simp; omega

end

open Go.ChangeShapes Go.WideShapes Go.ChangeAt Go.RowKit Go.Deep
set_option linter.unusedSimpArgs false
set_option linter.unusedVariables false

section
variable {H : Type} {enc : TypeId × Value → H} {P : Program} {w : World} {base : Nat} {held : Bool}

theorem rd_terms {t e : TypeId} {f0 f1 f2 : Field} {fuel : Nat} {a : Option Addr} {len cap : Nat} {x : DataW H × List MemPlace} (ht : P.underlying t = some (.slice e)) (he : P.underlying e = some (.struct #[f0, f1, f2]))
    (ce : P.cellsOf e = 3) (o0 : f0.offset = 0) (o1 : f1.offset = 1) (o2 : f2.offset = 2) (u0 : P.underlying f0.type = some (.int .i64)) (u1 : P.underlying f1.type = some (.int .i64)) (u2 : P.underlying f2.type = some (.int .i64))
    (c0 : P.cellsOf f0.type = 1) (c1 : P.cellsOf f1.type = 1) (c2 : P.cellsOf f2.type = 1)
    (h : DataW.trod enc P w base (fun _ => true) held fuel t (Value.slice a len cap).cells.toList = some x) :
    ∃ l : List T3, Rd w (fun _ => True) (terms l) (.slice a len cap) ∧ l.length ≤ 9223372036854775807 := by
  have hM : maxLen ≤ 9223372036854775807 := by decide
  rcases open_slice ht h with ⟨hcs, _⟩ | ⟨x, l, c, m, n, D, Pl, hcs, _, hl, hm, hmm, _, hx⟩
  · simp [Value.cells] at hcs
    obtain ⟨rfl, rfl, rfl⟩ := hcs
    exact ⟨[], ⟨none, 0, rfl, Nat.le_refl _, fun h => by simp at h⟩, by simp⟩
  · simp [Value.cells] at hcs
    obtain ⟨rfl, rfl, rfl⟩ := hcs
    simp only [if_true] at hmm
    subst hmm
    have each : ∀ i, i < m → ∃ q : T3, w.cell? (x.add (i * 3)) = some (.int .i64 q.1) ∧ w.cell? (x.add (i * 3 + 1)) = some (.int .i64 q.2.1) ∧ w.cell? (x.add (i * 3 + 2)) = some (.int .i64 q.2.2) := by
      intro i hi
      obtain ⟨cs', h1, h2⟩ := hx i hi
      rw [ce] at h1
      obtain ⟨_, hlen, hcell⟩ := World.cells?_some h1
      obtain ⟨xs, k, hk, hxy, _, hxl, hf⟩ := DataW.trod_struct he h2
      match xs, hxl, cs', hlen with
      | [y0, y1, y2], _, [v0, v1, v2], _ =>
        have g0 := hf 0 f0 rfl
        have g1 := hf 1 f1 rfl
        have g2 := hf 2 f2 rfl
        simp [o0, o1, o2, c0, c1, c2] at g0 g1 g2
        have e0 := hcell 0 (by omega)
        have e1 := hcell 1 (by omega)
        have e2 := hcell 2 (by omega)
        rw [add_add] at e0 e1 e2
        obtain ⟨z0, hz0, _⟩ := DataW.trod_int u0 g0
        obtain ⟨z1, hz1, _⟩ := DataW.trod_int u1 g1
        obtain ⟨z2, hz2, _⟩ := DataW.trod_int u2 g2
        simp at hz0 hz1 hz2
        subst hz0 hz1 hz2
        exact ⟨(z0, z1, z2), by simpa using e0, by simpa using e1, by simpa using e2⟩
    obtain ⟨q, hq⟩ := choose_lt each
    have hlen : ((List.range len).map q).length = len := by simp
    have hget : ∀ i, i < len → tAt ((List.range len).map q) i = q i := fun i hi => by simp [tAt, List.getD, hi]
    refine ⟨(List.range len).map q, ⟨some x, m, by rw [hlen], by rw [hlen]; exact hl, fun hp => ?_⟩, by rw [hlen]; omega⟩
    rw [hlen] at hp ⊢
    have hs := spot_of_cell (hq 0 (by omega)).1
    have hs' : x.spot = none := by rw [Nat.zero_mul] at hs; exact hs
    obtain ⟨b, off, spot⟩ := x
    have hs' : spot = none := hs'
    subst hs'
    refine ⟨b, off, rfl, trivial, fun i hi => ?_⟩
    have hk : i / 3 < len := by omega
    obtain ⟨q0, q1, q2⟩ := hq (i / 3) (by omega)
    rw [add_none] at q0 q1 q2
    have h3 : i % 3 = 0 ∨ i % 3 = 1 ∨ i % 3 = 2 := by omega
    rcases h3 with h3 | h3 | h3
    · refine ⟨_, by rw [show off + i = off + i / 3 * 3 by omega]; exact q0, ?_⟩
      show Value.int .i64 _ = Value.int .i64 _
      unfold tf; rw [if_pos h3, hget _ hk]
    · refine ⟨_, by rw [show off + i = off + (i / 3 * 3 + 1) by omega]; exact q1, ?_⟩
      show Value.int .i64 _ = Value.int .i64 _
      unfold tf; rw [if_neg (by omega), if_pos h3, hget _ hk]
    · refine ⟨_, by rw [show off + i = off + (i / 3 * 3 + 2) by omega]; exact q2, ?_⟩
      show Value.int .i64 _ = Value.int .i64 _
      unfold tf; rw [if_neg (by omega), if_neg (by omega), hget _ hk]

end

open Go.ChangeShapes Go.WideShapes Go.ChangeAt Go.RowKit Go.Deep Go.Joins
set_option linter.unusedSimpArgs false
set_option linter.unusedVariables false

section
variable {H : Type} {enc : TypeId × Value → H} {P : Program} {w : World} {base : Nat} {held : Bool}

theorem slice_of {t e : TypeId} {fuel : Nat} {v : Value} {x : DataW H × List MemPlace} (ht : P.underlying t = some (.slice e)) (h : DataW.trod enc P w base (fun _ => true) held fuel t [v] = some x) : ∃ a len cap, v = .slice a len cap := by
  rcases open_slice ht h with ⟨hcs, _⟩ | ⟨a, len, cap, _, _, _, _, hcs, _⟩
  · simp at hcs; exact ⟨_, _, _, hcs⟩
  · simp at hcs; exact ⟨_, _, _, hcs⟩

theorem rd_intsV {t e : TypeId} {fuel : Nat} {v : Value} {x : DataW H × List MemPlace} (ht : P.underlying t = some (.slice e)) (he : P.underlying e = some (.int .i64)) (hc : P.cellsOf e = 1)
    (h : DataW.trod enc P w base (fun _ => true) held fuel t [v] = some x) : ∃ l : List Int, Rd w (fun _ => True) (ints l) v ∧ l.length ≤ 9223372036854775807 := by
  obtain ⟨a, len, cap, rfl⟩ := slice_of ht h
  exact rd_ints ht he hc h

theorem rd_rowsV {t e q : TypeId} {fuel : Nat} {v : Value} {x : DataW H × List MemPlace} (ht : P.underlying t = some (.slice e)) (he : P.underlying e = some (.slice q)) (hq : P.underlying q = some (.int .i64)) (ce : P.cellsOf e = 1) (cq : P.cellsOf q = 1)
    (h : DataW.trod enc P w base (fun _ => true) held fuel t [v] = some x) :
    ∃ m : List (List Int), Rd w (fun _ => True) (rows m) v ∧ m.length ≤ 9223372036854775807 ∧ ∀ i, i < m.length → (rowAt m i).length ≤ 9223372036854775807 := by
  obtain ⟨a, len, cap, rfl⟩ := slice_of ht h
  exact rd_rows ht he hq ce cq h

theorem rd_matsV {t e q r : TypeId} {fuel : Nat} {v : Value} {x : DataW H × List MemPlace} (ht : P.underlying t = some (.slice e)) (he : P.underlying e = some (.slice q)) (hq : P.underlying q = some (.slice r)) (hr : P.underlying r = some (.int .i64)) (ce : P.cellsOf e = 1) (cq : P.cellsOf q = 1) (cr : P.cellsOf r = 1)
    (h : DataW.trod enc P w base (fun _ => true) held fuel t [v] = some x) :
    ∃ s : List (List (List Int)), Rd w (fun _ => True) (mats s) v ∧ s.length ≤ 9223372036854775807 ∧ ∀ i, i < s.length → (matAt s i).length ≤ 9223372036854775807 ∧ ∀ j, j < (matAt s i).length → (rowAt (matAt s i) j).length ≤ 9223372036854775807 := by
  have hM : maxLen ≤ 9223372036854775807 := by decide
  rcases open_slice1 ht ce h with ⟨hcs, _⟩ | ⟨x, l, c, m, n, V, D, Pl, hcs, _, hl, hm, hmm, _, hx⟩
  · simp at hcs; subst hcs
    exact ⟨[], ⟨none, 0, rfl, Nat.le_refl _, fun h => by simp at h⟩, by simp, fun i hi => by simp at hi⟩
  · simp at hcs; subst hcs
    simp only [if_true] at hmm
    subst hmm
    have each : ∀ i, i < m → ∃ q : List (List Int), Rd w (fun _ => True) (rows q) (V i) ∧ q.length ≤ 9223372036854775807 ∧ ∀ j, j < q.length → (rowAt q j).length ≤ 9223372036854775807 := fun i hi => rd_rowsV he hq hr cq cr (hx i hi).2
    obtain ⟨f, hf⟩ := choose_lt each
    have hlen : ((List.range l).map f).length = l := by simp
    have hget : ∀ i, i < l → matAt ((List.range l).map f) i = f i := fun i hi => by simp [matAt, List.getD, hi]
    refine ⟨(List.range l).map f, ⟨some x, m, by rw [hlen], by rw [hlen]; exact hl, fun hp => ?_⟩, by rw [hlen]; omega, fun i hi => ?_⟩
    · rw [hlen, Nat.mul_one] at hp ⊢
      have hs := spot_of_cell (hx 0 (by omega)).1
      have hs' : x.spot = none := hs
      obtain ⟨b, off, spot⟩ := x
      have hs' : spot = none := hs'
      subst hs'
      refine ⟨b, off, rfl, trivial, fun i hi => ⟨_, by rw [← add_none]; exact (hx i (by omega)).1, ?_⟩⟩
      show Rd w (fun _ => True) (rows (matAt _ i)) _
      rw [hget i hi]
      exact (hf i (by omega)).1
    · rw [hlen] at hi
      rw [hget i hi]
      exact (hf i (by omega)).2

theorem rd_aut {r : Reach} {b0 : Nat} {t t0 t1 t2 i0 m0 : TypeId} {f0 f1 f2 : Field} {v : Value} {d : DataW H} {p : List MemPlace} (hs : P.underlying t = some (.struct #[f0, f1, f2])) (hone : oneCellFields P #[f0, f1, f2] = true) (hC : P.cellsOf t = 3)
    (e0 : f0.type = t0) (e1 : f1.type = t1) (e2 : f2.type = t2) (u0 : P.underlying t0 = some (.slice i0)) (u1 : P.underlying t1 = some (.slice i0)) (u2 : P.underlying t2 = some (.slice m0)) (um : P.underlying m0 = some (.slice t0)) (ui : P.underlying i0 = some (.int .i64))
    (ci : P.cellsOf i0 = 1) (cm : P.cellsOf m0 = 1) (ct : P.cellsOf t0 = 1) (hv : Value.okWide P w r b0 t v) (h : DataW.Trod enc P w base (fun _ => true) held t v d p) :
    ∃ (a e : List Int) (s : List (List (List Int))), Rd w (fun _ => True) (autV a e s) v ∧ a.length ≤ 9223372036854775807 ∧ e.length ≤ 9223372036854775807 ∧ s.length ≤ 9223372036854775807 ∧ ∀ i, i < s.length → (matAt s i).length ≤ 9223372036854775807 ∧ ∀ j, j < (matAt s i).length → (rowAt (matAt s i) j).length ≤ 9223372036854775807 := by
  subst e0 e1 e2
  obtain ⟨v0, v1, v2, y0, y1, y2, n, rfl, _, _, h0, h1, h2⟩ := open_agg3 hs hone hC hv h
  obtain ⟨a, r0, n0⟩ := rd_intsV u0 ui ci h0
  obtain ⟨e, r1, n1⟩ := rd_intsV u1 ui ci h1
  obtain ⟨s, r2, n2, n3⟩ := rd_matsV u2 um u0 ui cm ct ci h2
  refine ⟨a, e, s, ⟨_, rfl, rfl, fun i hi => ?_⟩, n0, n1, n2, n3⟩
  rcases (show i = 0 ∨ i = 1 ∨ i = 2 by omega) with rfl | rfl | rfl
  · exact ⟨v0, rfl, r0⟩
  · exact ⟨v1, rfl, r1⟩
  · exact ⟨v2, rfl, r2⟩

end

end Go.Proofs.Yteapdildbfimnaa
