/- What an automaton that came in reads as. No conditions. -/
import Derived.Test.YtfgpmjboplollaaLawLib2
import Derived.Test.YtfgpmjboplollaaPureAut
import Derived.Lib.SmallJoins
namespace Go.Proofs.Ytfgpmjboplollaa
open Go.ChangeShapes Go.WideShapes Go.ChangeAt Go.RowKit Go.Deep Go.Joins
set_option linter.unusedSimpArgs false
set_option linter.unusedVariables false

section
variable {H : Type} {enc : TypeId × Value → H} {P : Program} {w : World} {base : Nat} {held : Bool}

theorem slice_of {t e : TypeId} {fuel : Nat} {v : Value} {x : DataW H × List MemPlace} (ht : P.underlying t = some (.slice e)) (h : DataW.trod enc P w base (fun _ => true) held fuel t [v] = some x) : ∃ a len cap, v = .slice a len cap := by
  rcases open_slice ht h with ⟨hcs, _⟩ | ⟨a, len, cap, _, _, _, _, hcs, _⟩
  · simp at hcs; exact ⟨_, _, _, hcs⟩
  · simp at hcs; exact ⟨_, _, _, hcs⟩

theorem rd_intsV {t e : TypeId} {fuel : Nat} {v : Value} {x : DataW H × List MemPlace} (ht : P.underlying t = some (.slice e)) (he : P.underlying e = some (.int .i64)) (hc : P.cellsOf e = 1)
    (h : DataW.trod enc P w base (fun _ => true) held fuel t [v] = some x) : ∃ l : List Int, Rd w (fun _ => True) (ints l) v ∧ l.length ≤ 9223372036854775807 := by
  obtain ⟨a, len, cap, rfl⟩ := slice_of ht h
  exact rd_ints ht he hc h

theorem rd_rowsV {t e q : TypeId} {fuel : Nat} {v : Value} {x : DataW H × List MemPlace} (ht : P.underlying t = some (.slice e)) (he : P.underlying e = some (.slice q)) (hq : P.underlying q = some (.int .i64)) (ce : P.cellsOf e = 1) (cq : P.cellsOf q = 1)
    (h : DataW.trod enc P w base (fun _ => true) held fuel t [v] = some x) :
    ∃ m : List (List Int), Rd w (fun _ => True) (rows m) v ∧ m.length ≤ 9223372036854775807 ∧ ∀ i, i < m.length → (rowAt m i).length ≤ 9223372036854775807 := by
  obtain ⟨a, len, cap, rfl⟩ := slice_of ht h
  exact rd_rows ht he hq ce cq h

theorem rd_matsV {t e q r : TypeId} {fuel : Nat} {v : Value} {x : DataW H × List MemPlace} (ht : P.underlying t = some (.slice e)) (he : P.underlying e = some (.slice q)) (hq : P.underlying q = some (.slice r)) (hr : P.underlying r = some (.int .i64)) (ce : P.cellsOf e = 1) (cq : P.cellsOf q = 1) (cr : P.cellsOf r = 1)
    (h : DataW.trod enc P w base (fun _ => true) held fuel t [v] = some x) :
    ∃ s : List (List (List Int)), Rd w (fun _ => True) (mats s) v ∧ s.length ≤ 9223372036854775807 ∧ ∀ i, i < s.length → (matAt s i).length ≤ 9223372036854775807 ∧ ∀ j, j < (matAt s i).length → (rowAt (matAt s i) j).length ≤ 9223372036854775807 := by
  have hM : maxLen ≤ 9223372036854775807 := by decide
  rcases open_slice1 ht ce h with ⟨hcs, _⟩ | ⟨x, l, c, m, n, V, D, Pl, hcs, _, hl, hm, hmm, _, hx⟩
  · simp at hcs; subst hcs
    exact ⟨[], ⟨none, 0, rfl, Nat.le_refl _, fun h => by simp at h⟩, by simp, fun i hi => by simp at hi⟩
  · simp at hcs; subst hcs
    simp only [if_true] at hmm
    subst hmm
    have each : ∀ i, i < m → ∃ q : List (List Int), Rd w (fun _ => True) (rows q) (V i) ∧ q.length ≤ 9223372036854775807 ∧ ∀ j, j < q.length → (rowAt q j).length ≤ 9223372036854775807 := fun i hi => rd_rowsV he hq hr cq cr (hx i hi).2
    obtain ⟨f, hf⟩ := choose_lt each
    have hlen : ((List.range l).map f).length = l := by simp
    have hget : ∀ i, i < l → matAt ((List.range l).map f) i = f i := fun i hi => by simp [matAt, List.getD, hi]
    refine ⟨(List.range l).map f, ⟨some x, m, by rw [hlen], by rw [hlen]; exact hl, fun hp => ?_⟩, by rw [hlen]; omega, fun i hi => ?_⟩
    · rw [hlen, Nat.mul_one] at hp ⊢
      have hs := spot_of_cell (hx 0 (by omega)).1
      have hs' : x.spot = none := hs
      obtain ⟨b, off, spot⟩ := x
      have hs' : spot = none := hs'
      subst hs'
      refine ⟨b, off, rfl, trivial, fun i hi => ⟨_, by rw [← add_none]; exact (hx i (by omega)).1, ?_⟩⟩
      show Rd w (fun _ => True) (rows (matAt _ i)) _
      rw [hget i hi]
      exact (hf i (by omega)).1
    · rw [hlen] at hi
      rw [hget i hi]
      exact (hf i (by omega)).2

theorem rd_aut {r : Reach} {b0 : Nat} {t t0 t1 t2 i0 m0 : TypeId} {f0 f1 f2 : Field} {v : Value} {d : DataW H} {p : List MemPlace} (hs : P.underlying t = some (.struct #[f0, f1, f2])) (hone : oneCellFields P #[f0, f1, f2] = true) (hC : P.cellsOf t = 3)
    (e0 : f0.type = t0) (e1 : f1.type = t1) (e2 : f2.type = t2) (u0 : P.underlying t0 = some (.slice i0)) (u1 : P.underlying t1 = some (.slice i0)) (u2 : P.underlying t2 = some (.slice m0)) (um : P.underlying m0 = some (.slice t0)) (ui : P.underlying i0 = some (.int .i64))
    (ci : P.cellsOf i0 = 1) (cm : P.cellsOf m0 = 1) (ct : P.cellsOf t0 = 1) (hv : Value.okWide P w r b0 t v) (h : DataW.Trod enc P w base (fun _ => true) held t v d p) :
    ∃ (a e : List Int) (s : List (List (List Int))), Rd w (fun _ => True) (autV a e s) v ∧ a.length ≤ 9223372036854775807 ∧ e.length ≤ 9223372036854775807 ∧ s.length ≤ 9223372036854775807 ∧ ∀ i, i < s.length → (matAt s i).length ≤ 9223372036854775807 ∧ ∀ j, j < (matAt s i).length → (rowAt (matAt s i) j).length ≤ 9223372036854775807 := by
  subst e0 e1 e2
  obtain ⟨v0, v1, v2, y0, y1, y2, n, rfl, _, _, h0, h1, h2⟩ := open_agg3 hs hone hC hv h
  obtain ⟨a, r0, n0⟩ := rd_intsV u0 ui ci h0
  obtain ⟨e, r1, n1⟩ := rd_intsV u1 ui ci h1
  obtain ⟨s, r2, n2, n3⟩ := rd_matsV u2 um u0 ui cm ct ci h2
  refine ⟨a, e, s, ⟨_, rfl, rfl, fun i hi => ?_⟩, n0, n1, n2, n3⟩
  rcases (show i = 0 ∨ i = 1 ∨ i = 2 by omega) with rfl | rfl | rfl
  · exact ⟨v0, rfl, r0⟩
  · exact ⟨v1, rfl, r1⟩
  · exact ⟨v2, rfl, r2⟩

end

end Go.Proofs.Ytfgpmjboplollaa
