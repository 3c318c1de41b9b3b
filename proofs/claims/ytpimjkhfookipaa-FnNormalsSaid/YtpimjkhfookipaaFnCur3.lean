/- What the cursor's list makers give: some list. No conditions but that it has not been moved 2^39 times. -/
import Derived.Test.YtpimjkhfookipaaFnCur
namespace Go.Proofs.Ytpimjkhfookipaa
open Go.RowKit Go.Proofs
set_option linter.unusedSimpArgs false
set_option linter.unusedVariables false
set_option maxRecDepth 20000

/-- Some list of which p holds. -/
def someL (p : List Int → Prop) : Res → Prop := fun r => ∃ l : List Int, p l ∧ r = .one (.fr 1 l.length (bints l))
theorem someL.shape {p : List Int → Prop} (r : Res) (h : someL p r) : r.shape 1 = true := by obtain ⟨x, _, rfl⟩ := h; rfl
/-- No longer than q, of machine words. -/
def LP (q : Nat) (l : List Int) : Prop := l.length ≤ q ∧ ∀ i, big64 (l.getD i 0)
theorem LP.len {q : Nat} {l : List Int} (h : LP q l) (hq : q ≤ 1099511627776) : l.length ≤ 1099511627776 := Nat.le_trans h.1 hq
theorem LP.nil (q : Nat) : LP q [] := ⟨Nat.zero_le _, fun i => by simp [big64]⟩
theorem LP.snoc {q : Nat} {l : List Int} {x : Int} (h : LP q l) (hx : big64 x) (hl : l.length < q) : LP q (l ++ [x]) := by
  refine ⟨by simp; omega, fun i => ?_⟩
  rcases Nat.lt_trichotomy i l.length with h1 | h1 | h1
  · have := h.2 i; simpa [List.getD, List.getElem?_append_left h1] using this
  · subst h1; simpa [List.getD] using hx
  · have e : (l ++ [x]).getD i 0 = 0 := by rw [List.getD, List.getElem?_eq_none (by simp; omega)]; rfl
    rw [e]; simp [big64]
theorem LP.set {q : Nat} {l : List Int} {x : Int} {j : Nat} (h : LP q l) (hx : big64 x) : LP q (l.set j x) := by
  refine ⟨by simp; exact h.1, fun i => ?_⟩
  by_cases e : i = j
  · subst e
    by_cases hi : i < l.length
    · simpa [List.getD, hi] using hx
    · have e : (l.set i x).getD i 0 = 0 := by rw [List.getD, List.getElem?_eq_none (by simp; omega)]; rfl
      rw [e]; simp [big64]
  · have := h.2 i; simpa [List.getD, List.getElem?_set_ne (fun h => e h.symm)] using this
theorem LP.mono {q q' : Nat} {l : List Int} (h : LP q l) (hq : q ≤ q') : LP q' l := ⟨Nat.le_trans h.1 hq, h.2⟩
/-- The ways through an if meet again. -/
theorem AWP.condX [Cx] {P : Program} {N t : Nat} {x1 x2 y : Code} {Q Q' : Exit → ASt → Prop} {s : ASt} {ι : Type} (inv : ι → ASt) (G : ι → Prop) (h : AWP N P (.cond (.tmp t) x1 x2) (thenQ (fun s' => ∃ i, G i ∧ ∃ m, EntR m s' (inv i)) Q') s) (h' : Later (∀ i, G i → AWP N P y Q (inv i))) : AWP N P (.cond (.tmp t) x1 x2) (thenQ (AWP N P y Q) Q') s :=
  fun w0 S0 a w hN sim => wp_mono (h w0 S0 a w hN sim) fun e a' w' ⟨s', hq, sim'⟩ => by
    cases e with
    | normal => obtain ⟨i, hG, m, hq⟩ := hq; obtain ⟨w1, hR, sim'⟩ := sim'; exact ⟨inv i, h' i hG, w1, hR, EntR.sim hq sim'⟩
    | _ => exact ⟨s', hq, sim'⟩

theorem AWP.mono [Cx] {P : Program} {N : Nat} {c : Code} {Q Q' : Exit → ASt → Prop} {s : ASt} (h : AWP N P c Q s) (hQ : ∀ e s', Q e s' → Q' e s') : AWP N P c Q' s :=
  fun w0 S0 a w hN sim => wp_mono (h w0 S0 a w hN sim) fun e a' w' ⟨s', hq, sim'⟩ => ⟨s', hQ e s' hq, sim'⟩
section
variable {b m : Nat} {Z : Nat → Prop} {g : Nat → Int}

end
end Go.Proofs.Ytpimjkhfookipaa
