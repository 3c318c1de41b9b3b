/- What a list of lists of terms that came in reads as. No conditions. -/
import Derived.Test.YtpimjkhfookipaaDoorLawLib
import Derived.Test.YtpimjkhfookipaaDoorTermSS
namespace Go.Proofs.YtpimjkhfookipaaDoor
open Go.ChangeShapes Go.WideShapes Go.ChangeAt Go.RowKit Go.Deep Go.Joins
set_option linter.unusedSimpArgs false
set_option linter.unusedVariables false

section
variable {H : Type} {enc : TypeId × Value → H} {P : Program} {w : World} {base : Nat} {held : Bool}

theorem rd_termsV {t e : TypeId} {f0 f1 f2 : Field} {fuel : Nat} {v : Value} {x : DataW H × List MemPlace} (ht : P.underlying t = some (.slice e)) (he : P.underlying e = some (.struct #[f0, f1, f2]))
    (ce : P.cellsOf e = 3) (o0 : f0.offset = 0) (o1 : f1.offset = 1) (o2 : f2.offset = 2) (u0 : P.underlying f0.type = some (.int .i64)) (u1 : P.underlying f1.type = some (.int .i64)) (u2 : P.underlying f2.type = some (.int .i64))
    (c0 : P.cellsOf f0.type = 1) (c1 : P.cellsOf f1.type = 1) (c2 : P.cellsOf f2.type = 1)
    (h : DataW.trod enc P w base (fun _ => true) held fuel t [v] = some x) :
    ∃ l : List T3, Rd w (fun _ => True) (terms l) v ∧ l.length ≤ 9223372036854775807 := by
  obtain ⟨a, len, cap, rfl⟩ := slice_of ht h
  exact rd_terms ht he ce o0 o1 o2 u0 u1 u2 c0 c1 c2 h

theorem rd_termss {t e q : TypeId} {f0 f1 f2 : Field} {fuel : Nat} {a : Option Addr} {len cap : Nat} {x : DataW H × List MemPlace} (ht : P.underlying t = some (.slice e)) (hq : P.underlying e = some (.slice q)) (he : P.underlying q = some (.struct #[f0, f1, f2]))
    (cq : P.cellsOf e = 1) (ce : P.cellsOf q = 3) (o0 : f0.offset = 0) (o1 : f1.offset = 1) (o2 : f2.offset = 2) (u0 : P.underlying f0.type = some (.int .i64)) (u1 : P.underlying f1.type = some (.int .i64)) (u2 : P.underlying f2.type = some (.int .i64))
    (c0 : P.cellsOf f0.type = 1) (c1 : P.cellsOf f1.type = 1) (c2 : P.cellsOf f2.type = 1)
    (h : DataW.trod enc P w base (fun _ => true) held fuel t (Value.slice a len cap).cells.toList = some x) :
    ∃ s : List (List T3), Rd w (fun _ => True) (termss s) (.slice a len cap) ∧ s.length ≤ 9223372036854775807 ∧ ∀ i, i < s.length → (tsAt s i).length ≤ 9223372036854775807 := by
  have hM : maxLen ≤ 9223372036854775807 := by decide
  rcases open_slice1 ht cq h with ⟨hcs, _⟩ | ⟨x, l, c, m, n, V, D, Pl, hcs, _, hl, hm, hmm, _, hx⟩
  · simp [Value.cells] at hcs
    obtain ⟨rfl, rfl, rfl⟩ := hcs
    exact ⟨[], ⟨none, 0, rfl, Nat.le_refl _, fun h => by simp at h⟩, by simp, fun i hi => by simp at hi⟩
  · simp [Value.cells] at hcs
    obtain ⟨rfl, rfl, rfl⟩ := hcs
    simp only [if_true] at hmm
    subst hmm
    have each : ∀ i, i < m → ∃ q : List T3, Rd w (fun _ => True) (terms q) (V i) ∧ q.length ≤ 9223372036854775807 := fun i hi => rd_termsV hq he ce o0 o1 o2 u0 u1 u2 c0 c1 c2 (hx i hi).2
    obtain ⟨f, hf⟩ := choose_lt each
    have hlen : ((List.range len).map f).length = len := by simp
    have hget : ∀ i, i < len → tsAt ((List.range len).map f) i = f i := fun i hi => by simp [tsAt, List.getD, hi]
    refine ⟨(List.range len).map f, ⟨some x, m, by rw [hlen], by rw [hlen]; exact hl, fun hp => ?_⟩, by rw [hlen]; omega, fun i hi => ?_⟩
    · rw [hlen, Nat.mul_one] at hp ⊢
      have hs := spot_of_cell (hx 0 (by omega)).1
      have hs' : x.spot = none := hs
      obtain ⟨b, off, spot⟩ := x
      have hs' : spot = none := hs'
      subst hs'
      refine ⟨b, off, rfl, trivial, fun i hi => ⟨_, by rw [← add_none]; exact (hx i (by omega)).1, ?_⟩⟩
      show Rd w (fun _ => True) (terms (tsAt _ i)) _
      rw [hget i hi]
      exact (hf i (by omega)).1
    · rw [hlen] at hi
      rw [hget i hi]
      exact (hf i (by omega)).2

end

end Go.Proofs.YtpimjkhfookipaaDoor
