/- Classes of alike things, plainly. No conditions. -/
import Derived.Test.YtpimjkhfookipaaFnNf
namespace Go.Proofs.Ytpimjkhfookipaa
set_option linter.unusedSimpArgs false
set_option linter.unusedVariables false

/-- The least number below n with a property. -/
def findL (p : Nat → Bool) : Nat → Option Nat
  | 0 => none
  | n + 1 => match findL p n with
    | some k => some k
    | none => if p n then some n else none
theorem findL_none {p : Nat → Bool} {n : Nat} (h : ∀ k, k < n → p k = false) : findL p n = none := by
  induction n with
  | zero => rfl
  | succ n ih => unfold findL; rw [ih fun k hk => h k (by omega)]; simp [h n (by omega)]
theorem findL_some {p : Nat → Bool} {n k : Nat} (hk : k < n) (hp : p k = true) (h : ∀ j, j < k → p j = false) : findL p n = some k := by
  induction n with
  | zero => omega
  | succ n ih =>
    unfold findL
    by_cases e : k = n
    · subst e; rw [findL_none h]; simp [hp]
    · rw [ih (by omega)]
/-- The first number of a class. -/
def repI (out : List (List Int)) (k : Nat) : Nat := ((rowAt out k).getD 0 0).toNat
/-- One thing more is put into its class. -/
def clsP (L : List (List T3)) (out : List (List Int)) (i : Nat) : Nat → Bool := fun k => eqTL (nfAt L (repI out k)) (nfAt L i)
def clsStep (L : List (List T3)) (out : List (List Int)) (i : Nat) : List (List Int) := match findL (clsP L out i) out.length with
  | some k => out.set k (rowAt out k ++ [(i : Int)])
  | none => out ++ [[(i : Int)]]
def clsK (L : List (List T3)) : Nat → List (List Int)
  | 0 => []
  | i + 1 => clsStep L (clsK L i) i
def pcR (L : List (List T3)) : List (List Int) × Bool := if nfB L then (clsK L L.length, true) else ([], false)

theorem eqT_iff {a b : T3} : eqT a b = true ↔ a = b := by
  unfold eqT
  simp only [Bool.and_eq_true, beq_iff_eq]
  constructor
  · rintro ⟨⟨h1, h2⟩, h3⟩
    obtain ⟨a1, a2, a3⟩ := a
    obtain ⟨b1, b2, b3⟩ := b
    simp only at h1 h2 h3
    rw [h1, h2, h3]
  · rintro rfl; exact ⟨⟨rfl, rfl⟩, rfl⟩
theorem eqTL_iff {a b : List T3} : eqTL a b = true ↔ a = b := by
  constructor
  · intro h
    unfold eqTL at h
    simp only [Bool.and_eq_true, beq_iff_eq] at h
    obtain ⟨h1, h2⟩ := h
    apply List.ext_getElem h1
    intro i hi hj
    have h3 : eqT (tAt a i) (tAt b i) = true := by
      by_cases e : eqT (tAt a i) (tAt b i) = true
      · exact e
      · rw [allN_false hi (by simpa using e)] at h2; cases h2
    have h4 := eqT_iff.1 h3
    simpa [tAt, List.getD, hi, hj] using h4
  · rintro rfl; exact eqTL_refl _

/-- What holds of the classes of the first i things. -/
structure ClsOk (L : List (List T3)) (i : Nat) (out : List (List Int)) : Prop where
  len : out.length ≤ i
  row : ∀ k, k < out.length → 1 ≤ (rowAt out k).length ∧ (rowAt out k).length ≤ i ∧ 0 ≤ (rowAt out k).getD 0 0 ∧ (rowAt out k).getD 0 0 < i
  apart : ∀ k j, k < out.length → j < out.length → nfAt L (repI out k) = nfAt L (repI out j) → k = j
theorem ClsOk.nil (L : List (List T3)) : ClsOk L 0 [] := ⟨Nat.le_refl _, fun k hk => by simp at hk, fun k j hk => by simp at hk⟩
theorem row_set_eq {out : List (List Int)} {k : Nat} {r : List Int} (hk : k < out.length) : rowAt (out.set k r) k = r := by simp [rowAt, List.getD, hk]
theorem row_set_ne {out : List (List Int)} {k j : Nat} {r : List Int} (h : j ≠ k) : rowAt (out.set k r) j = rowAt out j := by
  simp only [rowAt, List.getD]; rw [List.getElem?_set_ne (fun e => h e.symm)]
theorem row_app_lt {out : List (List Int)} {j : Nat} {r : List Int} (h : j < out.length) : rowAt (out ++ [r]) j = rowAt out j := by simp [rowAt, List.getD, List.getElem?_append_left h]
theorem row_app_eq {out : List (List Int)} {r : List Int} : rowAt (out ++ [r]) out.length = r := by simp [rowAt, List.getD]
theorem head_app {r : List Int} {x : Int} (h : 1 ≤ r.length) : (r ++ [x]).getD 0 0 = r.getD 0 0 := by
  cases r with
  | nil => simp at h
  | cons a r => rfl
theorem ClsOk.hit {L : List (List T3)} {i k : Nat} {out : List (List Int)} (h : ClsOk L i out) (hk : k < out.length) : ClsOk L (i + 1) (out.set k (rowAt out k ++ [(i : Int)])) := by
  have hrep : ∀ j, repI (out.set k (rowAt out k ++ [(i : Int)])) j = repI out j := fun j => by
    unfold repI
    by_cases e : j = k
    · subst e; rw [row_set_eq hk, head_app (h.row j hk).1]
    · rw [row_set_ne e]
  refine ⟨by simp; have := h.len; omega, fun j hj => ?_, fun a b ha hb => ?_⟩
  · rw [List.length_set] at hj
    have hj2 := h.row j hj
    by_cases e : j = k
    · subst e
      rw [row_set_eq hk, head_app hj2.1, List.length_append]
      exact ⟨by omega, by rw [List.length_singleton]; omega, hj2.2.2.1, by omega⟩
    · rw [row_set_ne e]; exact ⟨hj2.1, by omega, hj2.2.2.1, by omega⟩
  · rw [List.length_set] at ha hb
    rw [hrep, hrep]; exact h.apart a b ha hb
theorem ClsOk.miss {L : List (List T3)} {i : Nat} {out : List (List Int)} (h : ClsOk L i out) (hn : ∀ k, k < out.length → nfAt L (repI out k) ≠ nfAt L i) : ClsOk L (i + 1) (out ++ [[(i : Int)]]) := by
  have hlt : ∀ j, j < out.length → repI (out ++ [[(i : Int)]]) j = repI out j := fun j hj => by unfold repI; rw [row_app_lt hj]
  have heq : repI (out ++ [[(i : Int)]]) out.length = i := by unfold repI; rw [row_app_eq]; simp
  refine ⟨by simp; have := h.len; omega, fun j hj => ?_, fun a b ha hb e => ?_⟩
  · rw [List.length_append, List.length_singleton] at hj
    by_cases e : j < out.length
    · have hj2 := h.row j e
      rw [row_app_lt e]; exact ⟨hj2.1, by omega, hj2.2.2.1, by omega⟩
    · obtain rfl : j = out.length := by omega
      rw [row_app_eq]; simp; omega
  · rw [List.length_append, List.length_singleton] at ha hb
    by_cases e1 : a < out.length <;> by_cases e2 : b < out.length
    · rw [hlt a e1, hlt b e2] at e; exact h.apart a b e1 e2 e
    · obtain rfl : b = out.length := by omega
      rw [hlt a e1, heq] at e; exact absurd e (hn a e1)
    · obtain rfl : a = out.length := by omega
      rw [hlt b e2, heq] at e; exact absurd e.symm (hn b e2)
    · omega
theorem clsStep_hit {L : List (List T3)} {out : List (List Int)} {i k : Nat} (hk : k < out.length) (hp : clsP L out i k = true) (h : ∀ j, j < k → clsP L out i j = false) : clsStep L out i = out.set k (rowAt out k ++ [(i : Int)]) := by
  unfold clsStep; rw [findL_some hk hp h]
theorem clsStep_miss {L : List (List T3)} {out : List (List Int)} {i : Nat} (h : ∀ k, k < out.length → clsP L out i k = false) : clsStep L out i = out ++ [[(i : Int)]] := by
  unfold clsStep; rw [findL_none h]
theorem clsP_iff {L : List (List T3)} {out : List (List Int)} {i k : Nat} : clsP L out i k = true ↔ nfAt L (repI out k) = nfAt L i := eqTL_iff
/-- Where one class takes a thing, no other one does. -/
theorem ClsOk.one {L : List (List T3)} {i k j : Nat} {out : List (List Int)} (h : ClsOk L i out) (hk : k < out.length) (hj : j < out.length) (hp : clsP L out i k = true) (hne : j ≠ k) : clsP L out i j = false := by
  cases e : clsP L out i j with
  | false => rfl
  | true => exact absurd (h.apart j k hj hk ((clsP_iff.1 e).trans (clsP_iff.1 hp).symm)) hne
theorem clsK_ok (L : List (List T3)) : ∀ i, ClsOk L i (clsK L i)
  | 0 => ClsOk.nil L
  | i + 1 => by
    have h := clsK_ok L i
    show ClsOk L (i + 1) (clsStep L (clsK L i) i)
    by_cases hx : ∃ k, k < (clsK L i).length ∧ clsP L (clsK L i) i k = true
    · obtain ⟨k, hk, hp⟩ := hx
      rw [clsStep_hit hk hp fun j hj => h.one hk (by omega) hp (by omega)]
      exact h.hit hk
    · have hn : ∀ k, k < (clsK L i).length → clsP L (clsK L i) i k = false := fun k hk => by
        cases e : clsP L (clsK L i) i k with
        | false => rfl
        | true => exact absurd ⟨k, hk, e⟩ hx
      rw [clsStep_miss hn]
      exact h.miss fun k hk e => by have := hn k hk; rw [clsP_iff.2 e] at this; cases this
end Go.Proofs.Ytpimjkhfookipaa
