/- Plain laws of drawn automata: a best run's costs sum up to the word's cost, least and cheap words have their costs. No conditions. -/
import Derived.Test.YtpimjkhfookipaaPureRun2
import Derived.Test.YtpimjkhfookipaaFnCw
import Derived.Test.YtpimjkhfookipaaFnCur7
namespace Go.Proofs.Ytpimjkhfookipaa
set_option linter.unusedSimpArgs false
set_option linter.unusedVariables false

theorem AutOk.lens {a e : List Int} {s : List (List (List Int))} (h : AutOk a e s) : a.length ≤ 1099511627776 ∧ e.length ≤ 1099511627776 ∧ s.length ≤ 1099511627776 ∧ ∀ i, i < s.length → lenM (matAt s i) :=
  ⟨by have := h.la; omega, by have := h.le; omega, by have := h.ls; omega, fun i hi => ⟨by have := (h.lm i hi).1; omega, fun j hj => by have := (h.lm i hi).2 j hj; omega⟩⟩

section
variable {a e : List Int} {s : List (List (List Int))} {b : ByteArray}
/-- The cost of step k of the run. -/
def stpK (a e : List Int) (s : List (List (List Int))) (b : ByteArray) (k : Nat) : Int := (rowAt (matAt s (byteI b k - 97).toNat) (runOut a e s b k)).getD (runOut a e s b (k + 1)) 0
def runSum (a e : List Int) (s : List (List (List Int))) (b : ByteArray) : Nat → Int
  | 0 => a.getD (runOut a e s b 0) 0 + e.getD (runOut a e s b (lenB b)) 0
  | k + 1 => runSum a e s b k + stpK a e s b k

theorem askR_get (h : askR a e s b = true) : autB a e s = true ∧ wordB s.length b = true ∧ costW a e s b ≠ 1000000000 := by
  unfold askR at h
  simp only [Bool.and_eq_true, decide_eq_true_eq] at h
  have := askW_get h.1
  exact ⟨this.1, this.2, h.2⟩
theorem rest_end : restK e s b (lenB b) = e := by
  have : (bytesOf b).drop (lenB b) = [] := List.drop_eq_nil_of_le (Nat.le_refl _)
  show fromW e s ((bytesOf b).drop (lenB b)) = e
  rw [this]; rfl
theorem run_fin (h : askR a e s b = true) {k : Nat} (hk : k ≤ lenB b) : runOut a e s b k < a.length ∧ (runSt a e s b k).1.length = a.length ∧ costsB (runSt a e s b k).1 = true ∧
    (runSt a e s b k).1.getD (runOut a e s b k) 0 ≠ 1000000000 ∧ (restK e s b k).getD (runOut a e s b k) 0 ≠ 1000000000 ∧ (runSt a e s b k).1.getD (runOut a e s b k) 0 + (restK e s b k).getD (runOut a e s b k) 0 = (runSt a e s b k).2 := by
  obtain ⟨h1, h2, h3⟩ := askR_get h
  obtain ⟨g1, g2, g3, g4⟩ := run_good h1 h2 h3 k hk
  obtain ⟨i1, i2⟩ := run_idx h1 h2 h3 hk
  obtain ⟨f1, f2, f3⟩ := plusI_fin i2 g4
  exact ⟨i1, g1, g2, f1, f2, f3⟩
theorem runSum_is (h : askR a e s b = true) : ∀ k, k ≤ lenB b → runSum a e s b k + (restK e s b k).getD (runOut a e s b k) 0 = costW a e s b + e.getD (runOut a e s b (lenB b)) 0
  | 0, hk => by
    obtain ⟨_, _, _, _, _, f⟩ := run_fin h hk
    have f : a.getD (runOut a e s b 0) 0 + (restK e s b 0).getD (runOut a e s b 0) 0 = costW a e s b := f
    show a.getD (runOut a e s b 0) 0 + e.getD (runOut a e s b (lenB b)) 0 + _ = _
    omega
  | k + 1, hk => by
    have ih := runSum_is h k (by omega)
    obtain ⟨_, _, _, _, _, f⟩ := run_fin h hk
    rw [runSt_fst (show k < lenB b by omega), runSt_snd] at f
    have f : stpK a e s b k + (restK e s b (k + 1)).getD (runOut a e s b (k + 1)) 0 = (restK e s b k).getD (runOut a e s b k) 0 := f
    show runSum a e s b k + stpK a e s b k + _ = _
    omega
/-- The costs of the best run sum up to the word's cost. -/
theorem runSum_all (h : askR a e s b = true) : runSum a e s b (lenB b) = costW a e s b := by
  have := runSum_is h (lenB b) (Nat.le_refl _)
  rw [rest_end] at this
  omega
theorem run_ends (h : askR a e s b = true) : runOut a e s b 0 < a.length ∧ (-1000 ≤ a.getD (runOut a e s b 0) 0 ∧ a.getD (runOut a e s b 0) 0 ≤ 1000) ∧ runOut a e s b (lenB b) < e.length ∧ (-1000 ≤ e.getD (runOut a e s b (lenB b)) 0 ∧ e.getD (runOut a e s b (lenB b)) 0 ≤ 1000) := by
  obtain ⟨i1, g1, g2, f1, _, _⟩ := run_fin h (Nat.zero_le _)
  obtain ⟨j1, _, _, _, f2, _⟩ := run_fin h (Nat.le_refl (lenB b))
  rw [rest_end] at f2
  obtain ⟨h1, h2, h3⟩ := askR_get h
  obtain ⟨_, c1, c2, c3, _⟩ := autB_get h1
  have p1 := costsB_get (show costsB a = true from g2) i1
  have p2 := costsB_get c2 (show runOut a e s b (lenB b) < e.length by omega)
  have f1 : a.getD (runOut a e s b 0) 0 ≠ 1000000000 := f1
  exact ⟨i1, by omega, by omega, by omega⟩
theorem run_step (h : askR a e s b = true) {k : Nat} (hk : k < lenB b) : 97 ≤ byteI b k ∧ byteI b k ≤ 99 ∧ (byteI b k - 97).toNat < s.length ∧ runOut a e s b k < (matAt s (byteI b k - 97).toNat).length ∧
    runOut a e s b (k + 1) < (rowAt (matAt s (byteI b k - 97).toNat) (runOut a e s b k)).length ∧ (-1000 ≤ stpK a e s b k ∧ stpK a e s b k ≤ 1000) := by
  obtain ⟨h1, h2, h3⟩ := askR_get h
  obtain ⟨w1, w2⟩ := wordB_get h2
  have hl := w2 k hk
  obtain ⟨_, c1, c2, c3, c4, c5⟩ := autB_get h1
  have hi : (byteI b k - 97).toNat < s.length := by omega
  obtain ⟨m1, m2⟩ := c5 _ hi
  obtain ⟨i1, _⟩ := run_fin h (show k ≤ lenB b by omega)
  obtain ⟨j1, g1, g2, f1, _, _⟩ := run_fin h (show k + 1 ≤ lenB b by omega)
  rw [runSt_fst hk] at g1 g2 f1
  have p := costsB_get g2 (show runOut a e s b (k + 1) < _ by rw [g1]; exact j1)
  have f1 : stpK a e s b k ≠ 1000000000 := f1
  have p : stpK a e s b k = 1000000000 ∨ (-1000 ≤ stpK a e s b k ∧ stpK a e s b k ≤ 1000) := p
  exact ⟨hl.1, by omega, hi, by rw [m1]; exact i1, by rw [g1]; exact j1, by omega⟩
theorem runSum_bd (h : askR a e s b = true) : ∀ k, k ≤ lenB b → -(2000 + 1000 * (k : Int)) ≤ runSum a e s b k ∧ runSum a e s b k ≤ 2000 + 1000 * (k : Int)
  | 0, _ => by
    obtain ⟨_, p1, _, p2⟩ := run_ends h
    show _ ≤ a.getD (runOut a e s b 0) 0 + e.getD (runOut a e s b (lenB b)) 0 ∧ a.getD (runOut a e s b 0) 0 + e.getD (runOut a e s b (lenB b)) 0 ≤ _
    omega
  | k + 1, hk => by
    have ih := runSum_bd h k (by omega)
    obtain ⟨_, _, _, _, _, p⟩ := run_step h (show k < lenB b by omega)
    show _ ≤ runSum a e s b k + stpK a e s b k ∧ runSum a e s b k + stpK a e s b k ≤ _
    omega

/-! ### Least and cheap words -/
theorem lwL_in : ∀ (l : List (List UInt8)) (p : ByteArray × Int), (l.foldl (bestStep a e s) p) = p ∨ ∃ x ∈ l, (l.foldl (bestStep a e s) p) = (mkB x, costW a e s (mkB x))
  | [], p => .inl rfl
  | y :: l, p => by
    rw [List.foldl_cons]
    rcases lwL_in l (bestStep a e s p y) with h | ⟨x, hx, h⟩
    · rw [h]
      unfold bestStep
      split
      · exact .inr ⟨y, by simp, rfl⟩
      · exact .inl rfl
    · exact .inr ⟨x, List.mem_cons_of_mem _ hx, h⟩
theorem lenB_mkB (x : List UInt8) : lenB (mkB x) = x.length := by simp [lenB, mkB, bytesOf]
theorem word_cost {x : List UInt8} {n : Int} (ha : autB a e s = true) (hn : inB n 0 6 = true) (hx : x ∈ wordsL s.length n.toNat) : cwR a e s (mkB x) = (costW a e s (mkB x), true) ∧ ((lenB (mkB x) : Nat) : Int) = n := by
  have hn' := inB_true.1 hn
  have hl := wordsL_mem hx
  have hs := (autB_get ha).2.2.2.2.1
  exact ⟨cwR_yes (askW_yes ha (wordB_mkB hs.2 (by omega) (wordsL_ok hx))), by rw [lenB_mkB, hl]; omega⟩
theorem lw_good {n : Int} (h : (lwR a e s n).2.2 = true) : cwR a e s (lwR a e s n).1 = ((lwR a e s n).2.1, true) ∧ ((lenB (lwR a e s n).1 : Nat) : Int) = n ∧ lenB (lwR a e s n).1 ≤ 6 := by
  cases ha : autB a e s with
  | false => rw [lwR_no1 ha] at h; cases h
  | true =>
    cases hn : inB n 0 6 with
    | false => rw [lwR_no2 hn] at h; cases h
    | true =>
      have hn' := inB_true.1 hn
      rw [lwR_yes ha hn] at h ⊢
      by_cases hi : (lwL a e s (wordsL s.length n.toNat)).2 = 1000000000
      · rw [lwOf_no hi] at h; cases h
      · rw [lwOf_yes hi]
        rcases lwL_in (a := a) (e := e) (s := s) (wordsL s.length n.toNat) (ByteArray.empty, 1000000000) with h1 | ⟨x, hx, h1⟩
        · exact absurd (congrArg Prod.snd h1) hi
        · have h1 : lwL a e s (wordsL s.length n.toNat) = (mkB x, costW a e s (mkB x)) := h1
          obtain ⟨q1, q2⟩ := word_cost ha hn hx
          rw [h1]
          exact ⟨q1, q2, by show lenB (mkB x) ≤ 6; omega⟩
theorem cheapL_in {lim : Int} : ∀ (l : List (List UInt8)) (p : List (List UInt8)), ∀ x ∈ l.foldl (cheapStep a e s lim) p, x ∈ p ∨ (x ∈ l ∧ costW a e s (mkB x) ≤ lim)
  | [], p, x, hx => .inl hx
  | y :: l, p, x, hx => by
    rw [List.foldl_cons] at hx
    rcases cheapL_in l _ x hx with h | ⟨h1, h2⟩
    · unfold cheapStep at h
      split at h
      · rename_i hc
        rw [List.mem_append, List.mem_singleton] at h
        rcases h with h | h
        · exact .inl h
        · subst h; exact .inr ⟨by simp, hc.2⟩
      · exact .inl h
    · exact .inr ⟨List.mem_cons_of_mem _ h1, h2⟩
theorem cws_good {n lim : Int} {x : List UInt8} (hx : x ∈ (cwsR a e s n lim).1) : cwR a e s (mkB x) = (costW a e s (mkB x), true) ∧ costW a e s (mkB x) ≤ lim ∧ ((lenB (mkB x) : Nat) : Int) = n ∧ lenB (mkB x) ≤ 6 := by
  unfold cwsR at hx
  split at hx
  · rename_i h
    simp only [Bool.and_eq_true] at h
    rcases cheapL_in _ _ x hx with h1 | ⟨h1, h2⟩
    · cases h1
    · obtain ⟨q1, q2⟩ := word_cost h.1.1 h.1.2 h1
      have := inB_true.1 h.1.2
      exact ⟨q1, h2, q2, by omega⟩
  · cases hx
end
end Go.Proofs.Ytpimjkhfookipaa
