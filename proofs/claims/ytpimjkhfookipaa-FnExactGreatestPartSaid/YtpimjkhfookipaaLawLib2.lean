/- What arguments of a law read as: lists of strings, of rows of integers, of terms. No conditions. -/
import Derived.Test.YtpimjkhfookipaaLawLib
import Derived.Test.YtpimjkhfookipaaPurePic
import Derived.Test.YtpimjkhfookipaaPureMx
import Derived.SliceStrings
import Derived.Deep.Matrix
import Derived.Deep.Slices
namespace Go.Proofs.Ytpimjkhfookipaa
open Go.ChangeShapes Go.WideShapes Go.ChangeAt Go.RowKit
set_option linter.unusedSimpArgs false
set_option linter.unusedVariables false

theorem spot_of_cell {w : World} {x : Addr} {v : Value} (h : w.cell? x = some v) : x.spot = none := by
  unfold World.cell? at h
  split at h
  · split at h
    · cases h
    · simpa using ‹¬ x.spot.isSome = true›
  · cases h

theorem add_zero_addr (x : Addr) : x.add 0 = x := rfl

section
variable {H : Type} {enc : TypeId × Value → H} {P : Program} {w : World} {base : Nat} {held : Bool}

theorem rd_ints {t e : TypeId} {fuel : Nat} {a : Option Addr} {len cap : Nat} {x : DataW H × List MemPlace} (ht : P.underlying t = some (.slice e)) (he : P.underlying e = some (.int .i64)) (hc : P.cellsOf e = 1)
    (h : DataW.trod enc P w base (fun _ => true) held fuel t (Value.slice a len cap).cells.toList = some x) :
    ∃ l : List Int, Rd w (fun _ => True) (ints l) (.slice a len cap) ∧ l.length ≤ 9223372036854775807 := by
  have hM : maxLen ≤ 9223372036854775807 := by decide
  have hrow : ∃ zs, IsRow .i64 w a len cap zs := by
    rcases open_ints ht he hc h with ⟨hcs, _⟩ | ⟨x, l, c, zs, hcs, _, hl, hm, hz, _, hcell, hwz⟩
    · simp [Value.cells] at hcs
      obtain ⟨rfl, rfl, rfl⟩ := hcs
      exact ⟨[], .inl ⟨rfl, rfl, rfl, rfl⟩⟩
    · simp [Value.cells] at hcs
      obtain ⟨rfl, rfl, rfl⟩ := hcs
      exact ⟨zs, .inr ⟨_, rfl, hl, hm, by simpa using hz, hcell, hwz⟩⟩
  obtain ⟨zs, hz⟩ := hrow
  obtain ⟨l, hl⟩ := hz.rd
  refine ⟨l, hl, ?_⟩
  obtain ⟨A, c, e1, _⟩ := hl
  injection e1 with _ e2 _
  rcases hz with ⟨_, h2, _⟩ | ⟨_, _, h2, h3, _⟩
  · omega
  · omega

theorem rd_strs {t e : TypeId} {fuel : Nat} {a : Option Addr} {len cap : Nat} {x : DataW H × List MemPlace} (ht : P.underlying t = some (.slice e)) (he : P.underlying e = some .string) (hc : P.cellsOf e = 1)
    (h : DataW.trod enc P w base (fun _ => true) held fuel t (Value.slice a len cap).cells.toList = some x) :
    ∃ l : List ByteArray, Rd w (fun _ => True) (Ytpimjkhfookipaa.strs l) (.slice a len cap) ∧ l.length ≤ 9223372036854775807 ∧ ∀ i, i < l.length → (stAt l i).size ≤ 9223372036854775807 := by
  have hM : maxLen ≤ 9223372036854775807 := by decide
  rcases open_strings ht he hc h with ⟨hcs, _⟩ | ⟨x, l, c, ss, hcs, _, hl, hm, hz, _, hcell, hsz⟩
  · simp [Value.cells] at hcs
    obtain ⟨rfl, rfl, rfl⟩ := hcs
    exact ⟨[], ⟨none, 0, rfl, Nat.le_refl _, fun h => by simp at h⟩, by simp, fun i hi => by simp at hi⟩
  · simp [Value.cells] at hcs
    obtain ⟨rfl, rfl, rfl⟩ := hcs
    simp only [if_true] at hz
    have hlen : (ss.take len).length = len := by simp [hz, hl]
    have hget : ∀ i, i < len → stAt (ss.take len) i = ss.getD i ByteArray.empty := fun i hi => by simp [stAt, List.getD, hi]
    refine ⟨ss.take len, ⟨some x, cap, by rw [hlen], by rw [hlen]; exact hl, fun hp => ?_⟩, by rw [hlen]; omega, fun i hi => ?_⟩
    · rw [hlen, Nat.mul_one] at hp ⊢
      have h0 := hcell 0 (by omega)
      have hs := spot_of_cell h0
      obtain ⟨b, off, spot⟩ := x
      have hs : spot = none := hs
      subst hs
      refine ⟨b, off, rfl, trivial, fun i hi => ⟨_, by rw [← add_none]; exact hcell i (by omega), ?_⟩⟩
      show Value.string _ = Value.string _
      rw [hget i hi]
    · rw [hlen] at hi
      rw [hget i hi]
      have : i < ss.length := by omega
      have e : ss.getD i ByteArray.empty = ss[i] := by simp [List.getD, this]
      rw [e]
      exact Nat.le_trans (hsz _ (List.getElem_mem this)) hM


theorem rd_rows {t e q : TypeId} {fuel : Nat} {a : Option Addr} {len cap : Nat} {x : DataW H × List MemPlace} (ht : P.underlying t = some (.slice e)) (he : P.underlying e = some (.slice q)) (hq : P.underlying q = some (.int .i64)) (ce : P.cellsOf e = 1) (cq : P.cellsOf q = 1)
    (h : DataW.trod enc P w base (fun _ => true) held fuel t (Value.slice a len cap).cells.toList = some x) :
    ∃ m : List (List Int), Rd w (fun _ => True) (rows m) (.slice a len cap) ∧ m.length ≤ 9223372036854775807 ∧ ∀ i, i < m.length → (rowAt m i).length ≤ 9223372036854775807 := by
  have hM : maxLen ≤ 9223372036854775807 := by decide
  rcases Deep.open_int_rows ht he hq ce cq h with ⟨hcs, _⟩ | ⟨x, l, c, A, L, C, Z, hcs, _, hl, hm, _, hr⟩
  · simp [Value.cells] at hcs
    obtain ⟨rfl, rfl, rfl⟩ := hcs
    exact ⟨[], ⟨none, 0, rfl, Nat.le_refl _, fun h => by simp at h⟩, by simp, fun i hi => by simp at hi⟩
  · simp [Value.cells] at hcs
    obtain ⟨rfl, rfl, rfl⟩ := hcs
    have hlen : ((List.range len).map fun r => (Z r).take (L r)).length = len := by simp
    have hget : ∀ i, i < len → rowAt ((List.range len).map fun r => (Z r).take (L r)) i = (Z i).take (L i) := fun i hi => by simp [rowAt, List.getD, hi]
    refine ⟨(List.range len).map fun r => (Z r).take (L r), ⟨some x, cap, by rw [hlen], by rw [hlen]; exact hl, fun hp => ?_⟩, by rw [hlen]; omega, fun i hi => ?_⟩
    · rw [hlen, Nat.mul_one] at hp ⊢
      have hs := spot_of_cell (hr 0 (by omega)).1
      obtain ⟨b, off, spot⟩ := x
      have hs : spot = none := hs
      subst hs
      refine ⟨b, off, rfl, trivial, fun i hi => ⟨_, by rw [← add_none]; exact (hr i (by omega)).1, ?_⟩⟩
      obtain ⟨_, h2, h3, h4, _, h6, h7⟩ := hr i (by omega)
      show Rd w (fun _ => True) (ints (rowAt _ i)) _
      rw [hget i hi]
      have hz : ((Z i).take (L i)).length = L i := by simp [h4, h2]
      refine ⟨A i, C i, by rw [hz], by rw [hz]; exact h2, fun hp' => ?_⟩
      rw [hz, Nat.mul_one] at hp' ⊢
      cases hA : A i with
      | none => have := h6 hA; omega
      | some y =>
        have g := (h7 y hA).2
        have hs := spot_of_cell (g 0 (by omega))
        obtain ⟨b', off', spot⟩ := y
        have hs : spot = none := hs
        subst hs
        refine ⟨b', off', rfl, trivial, fun j hj => ⟨_, by rw [← add_none]; exact g j (by omega), ?_⟩⟩
        show Value.int .i64 _ = Value.int .i64 _
        congr 1
        simp [List.getD, hj]
    · rw [hlen] at hi
      rw [hget i hi]
      have := hr i (by omega)
      simp; omega

end
end Go.Proofs.Ytpimjkhfookipaa
