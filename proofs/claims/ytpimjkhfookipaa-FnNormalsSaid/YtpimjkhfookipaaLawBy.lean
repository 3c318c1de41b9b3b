/- What a list of bytes that came in reads as; laws with drawn arguments. No conditions. -/
import Derived.Test.YtpimjkhfookipaaLawLib
import Derived.Test.YtpimjkhfookipaaFnCur4
namespace Go.Proofs.Ytpimjkhfookipaa
open Go.ChangeShapes Go.WideShapes Go.ChangeAt Go.RowKit
set_option linter.unusedSimpArgs false
set_option linter.unusedVariables false

theorem wf_byte {n : Int} (h : (Lit.int .u8 n).wf = true) : 0 ≤ n ∧ n < 256 := by
  simp [Lit.wf, IntKind.wrap, IntKind.bits, IntKind.signed, IntKind.min, IntKind.max] at h
  omega

theorem rd_bytes {H : Type} {enc : TypeId × Value → H} {P : Program} {w : World} {base : Nat} {held : Bool} {t e : TypeId} {fuel : Nat} {a : Option Addr} {len cap : Nat} {x : DataW H × List MemPlace} (ht : P.underlying t = some (.slice e)) (he : P.underlying e = some (.int .u8)) (hc : P.cellsOf e = 1)
    (h : DataW.trod enc P w base (fun _ => true) held fuel t (Value.slice a len cap).cells.toList = some x) :
    ∃ (m : Nat) (g : Nat → Int), Rd w (fun _ => True) (bytV m g) (.slice a len cap) ∧ m ≤ 9223372036854775807 ∧ ∀ i, i < m → 0 ≤ g i ∧ g i < 256 := by
  have hM : maxLen ≤ 9223372036854775807 := by decide
  rcases open_ints ht he hc h with ⟨hcs, _⟩ | ⟨x, l, c, zs, hcs, _, hl, hm, hz, _, hcell, hwz⟩
  · simp [Value.cells] at hcs
    obtain ⟨rfl, rfl, rfl⟩ := hcs
    exact ⟨0, fun _ => 0, ⟨none, 0, rfl, Nat.le_refl _, fun h => by simp at h⟩, by omega, fun i hi => by omega⟩
  · simp [Value.cells] at hcs
    obtain ⟨rfl, rfl, rfl⟩ := hcs
    have hz : zs.length = cap := by simpa using hz
    refine ⟨len, fun i => zs.getD i 0, ⟨some x, cap, rfl, hl, fun hp => ?_⟩, by omega, fun i hi => ?_⟩
    · rw [Nat.mul_one] at hp
      have h0 := hcell 0 (by omega)
      have hs : x.spot = none := spot_of_cell (by rw [← add_zero_addr x]; exact h0)
      obtain ⟨b, off, spot⟩ := x
      have hs : spot = none := hs
      subst hs
      refine ⟨b, off, rfl, trivial, fun i hi => ⟨_, by rw [← add_none]; exact hcell i (by omega), ?_⟩⟩
      rfl
    · have hi' : i < zs.length := by omega
      have e : zs.getD i 0 = zs[i] := by simp [List.getD, hi']
      show 0 ≤ zs.getD i 0 ∧ zs.getD i 0 < 256
      rw [e]
      exact wf_byte (hwz _ (List.getElem_mem hi'))

theorem rd_bytesZ {H : Type} {enc : TypeId × Value → H} {P : Program} {w : World} {base : Nat} {held : Bool} {t e : TypeId} {fuel : Nat} {a : Option Addr} {len cap : Nat} {x : DataW H × List MemPlace} (ht : P.underlying t = some (.slice e)) (he : P.underlying e = some (.int .u8)) (hc : P.cellsOf e = 1)
    (h : DataW.trod enc P w base (fun _ => true) held fuel t (Value.slice a len cap).cells.toList = some x) :
    ∃ (m : Nat) (g : Nat → Int), Rd w (fun _ => True) (bytV m g) (.slice a len cap) ∧ m ≤ 9223372036854775807 ∧ (∀ i, i < m → 0 ≤ g i ∧ g i < 256) ∧ (m = 0 ∨ ∃ el sp : List (DataW H), x.1 = .slice el sp ∧ el.length = m) := by
  obtain ⟨m, g, h1, h2, h3⟩ := rd_bytes ht he hc h
  refine ⟨m, g, h1, h2, h3, ?_⟩
  obtain ⟨A, c, e1, hle, h4⟩ := h1
  injection e1 with e1 e2 e3
  subst e2
  rcases open_ints ht he hc h with ⟨hcs, hx⟩ | ⟨x', l, c', zs, hcs, _, hl, hm, hz, hx, hcell, hwz⟩
  · simp [Value.cells] at hcs
    exact .inl hcs.2.1
  · simp [Value.cells] at hcs
    obtain ⟨_, rfl, rfl⟩ := hcs
    have hz : zs.length = cap := by simpa using hz
    refine .inr ⟨_, _, by rw [hx], ?_⟩
    simp [lits]
    omega

/-- What waits for the next stage of a walk. -/
def HoldR (p : Prop) : Prop := p
theorem AWP.holdR [Cx] {P : Program} {N : Nat} {id : Nat} {ops : Array Oper} {d : Bool} {Q : Exit → ASt → Prop} {s : ASt} (h : HoldR (AWP N P (.region id ops d) Q s)) : AWP N P (.region id ops d) Q s := h
end Go.Proofs.Ytpimjkhfookipaa
