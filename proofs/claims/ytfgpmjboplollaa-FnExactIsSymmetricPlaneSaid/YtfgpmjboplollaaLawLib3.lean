/- What a list of terms that came in reads as. No conditions. -/
import Derived.Test.YtfgpmjboplollaaLawLib2
import Derived.Test.YtfgpmjboplollaaPurePl
namespace Go.Proofs.Ytfgpmjboplollaa
open Go.ChangeShapes Go.WideShapes Go.ChangeAt Go.RowKit Go.Deep
set_option linter.unusedSimpArgs false
set_option linter.unusedVariables false

section
variable {H : Type} {enc : TypeId × Value → H} {P : Program} {w : World} {base : Nat} {held : Bool}

theorem rd_terms {t e : TypeId} {f0 f1 f2 : Field} {fuel : Nat} {a : Option Addr} {len cap : Nat} {x : DataW H × List MemPlace} (ht : P.underlying t = some (.slice e)) (he : P.underlying e = some (.struct #[f0, f1, f2]))
    (ce : P.cellsOf e = 3) (o0 : f0.offset = 0) (o1 : f1.offset = 1) (o2 : f2.offset = 2) (u0 : P.underlying f0.type = some (.int .i64)) (u1 : P.underlying f1.type = some (.int .i64)) (u2 : P.underlying f2.type = some (.int .i64))
    (c0 : P.cellsOf f0.type = 1) (c1 : P.cellsOf f1.type = 1) (c2 : P.cellsOf f2.type = 1)
    (h : DataW.trod enc P w base (fun _ => true) held fuel t (Value.slice a len cap).cells.toList = some x) :
    ∃ l : List T3, Rd w (fun _ => True) (terms l) (.slice a len cap) ∧ l.length ≤ 9223372036854775807 := by
  have hM : maxLen ≤ 9223372036854775807 := by decide
  rcases open_slice ht h with ⟨hcs, _⟩ | ⟨x, l, c, m, n, D, Pl, hcs, _, hl, hm, hmm, _, hx⟩
  · simp [Value.cells] at hcs
    obtain ⟨rfl, rfl, rfl⟩ := hcs
    exact ⟨[], ⟨none, 0, rfl, Nat.le_refl _, fun h => by simp at h⟩, by simp⟩
  · simp [Value.cells] at hcs
    obtain ⟨rfl, rfl, rfl⟩ := hcs
    simp only [if_true] at hmm
    subst hmm
    have each : ∀ i, i < m → ∃ q : T3, w.cell? (x.add (i * 3)) = some (.int .i64 q.1) ∧ w.cell? (x.add (i * 3 + 1)) = some (.int .i64 q.2.1) ∧ w.cell? (x.add (i * 3 + 2)) = some (.int .i64 q.2.2) := by
      intro i hi
      obtain ⟨cs', h1, h2⟩ := hx i hi
      rw [ce] at h1
      obtain ⟨_, hlen, hcell⟩ := World.cells?_some h1
      obtain ⟨xs, k, hk, hxy, _, hxl, hf⟩ := DataW.trod_struct he h2
      match xs, hxl, cs', hlen with
      | [y0, y1, y2], _, [v0, v1, v2], _ =>
        have g0 := hf 0 f0 rfl
        have g1 := hf 1 f1 rfl
        have g2 := hf 2 f2 rfl
        simp [o0, o1, o2, c0, c1, c2] at g0 g1 g2
        have e0 := hcell 0 (by omega)
        have e1 := hcell 1 (by omega)
        have e2 := hcell 2 (by omega)
        rw [add_add] at e0 e1 e2
        obtain ⟨z0, hz0, _⟩ := DataW.trod_int u0 g0
        obtain ⟨z1, hz1, _⟩ := DataW.trod_int u1 g1
        obtain ⟨z2, hz2, _⟩ := DataW.trod_int u2 g2
        simp at hz0 hz1 hz2
        subst hz0 hz1 hz2
        exact ⟨(z0, z1, z2), by simpa using e0, by simpa using e1, by simpa using e2⟩
    obtain ⟨q, hq⟩ := choose_lt each
    have hlen : ((List.range len).map q).length = len := by simp
    have hget : ∀ i, i < len → tAt ((List.range len).map q) i = q i := fun i hi => by simp [tAt, List.getD, hi]
    refine ⟨(List.range len).map q, ⟨some x, m, by rw [hlen], by rw [hlen]; exact hl, fun hp => ?_⟩, by rw [hlen]; omega⟩
    rw [hlen] at hp ⊢
    have hs := spot_of_cell (hq 0 (by omega)).1
    have hs' : x.spot = none := by rw [Nat.zero_mul] at hs; exact hs
    obtain ⟨b, off, spot⟩ := x
    have hs' : spot = none := hs'
    subst hs'
    refine ⟨b, off, rfl, trivial, fun i hi => ?_⟩
    have hk : i / 3 < len := by omega
    obtain ⟨q0, q1, q2⟩ := hq (i / 3) (by omega)
    rw [add_none] at q0 q1 q2
    have h3 : i % 3 = 0 ∨ i % 3 = 1 ∨ i % 3 = 2 := by omega
    rcases h3 with h3 | h3 | h3
    · refine ⟨_, by rw [show off + i = off + i / 3 * 3 by omega]; exact q0, ?_⟩
      show Value.int .i64 _ = Value.int .i64 _
      unfold tf; rw [if_pos h3, hget _ hk]
    · refine ⟨_, by rw [show off + i = off + (i / 3 * 3 + 1) by omega]; exact q1, ?_⟩
      show Value.int .i64 _ = Value.int .i64 _
      unfold tf; rw [if_neg (by omega), if_pos h3, hget _ hk]
    · refine ⟨_, by rw [show off + i = off + (i / 3 * 3 + 2) by omega]; exact q2, ?_⟩
      show Value.int .i64 _ = Value.int .i64 _
      unfold tf; rw [if_neg (by omega), if_neg (by omega), hget _ hk]

end
end Go.Proofs.Ytfgpmjboplollaa
