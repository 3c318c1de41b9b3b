/- Best runs of automata, plainly. No conditions. -/
import Derived.Test.YtpimjkhfookipaaPureMx
namespace Go.Proofs.Ytpimjkhfookipaa
set_option linter.unusedSimpArgs false
set_option linter.unusedVariables false

def pIdx (fr rest : List Int) (w : Int) : Nat := (firstN (fun i => plusI (fr.getD i 0) (rest.getD i 0) == w) fr.length).toNat
theorem pIdx_at {fr rest : List Int} {w : Int} {j : Nat} (hj : j < fr.length) (h : plusI (fr.getD j 0) (rest.getD j 0) = w) (hb : ∀ i, i < j → ¬ plusI (fr.getD i 0) (rest.getD i 0) = w) : pIdx fr rest w = j := by
  unfold pIdx
  rw [firstN_at (k := j) (fun i hi => by simpa using hb i hi) (by simpa using h) hj]
  rfl
theorem pIdx_ex {fr rest : List Int} (h : dotV fr rest ≠ 1000000000) : ∃ j, j < fr.length ∧ plusI (fr.getD j 0) (rest.getD j 0) = dotV fr rest := leastN_at _ _ h
theorem least_first {n : Nat} {p : Nat → Prop} : (∃ j, j < n ∧ p j) → ∃ j, j < n ∧ p j ∧ ∀ i, i < j → ¬ p i := by
  induction n with
  | zero => rintro ⟨j, h, _⟩; omega
  | succ n ih =>
    rintro ⟨j, hj, hp⟩
    by_cases h : ∃ j, j < n ∧ p j
    · obtain ⟨j, h1, h2, h3⟩ := ih h
      exact ⟨j, by omega, h2, h3⟩
    · have : j = n := by
        rcases Nat.lt_or_ge j n with h1 | h1
        · exact (h ⟨j, h1, hp⟩).elim
        · omega
      subst this
      exact ⟨j, by omega, hp, fun i hi hpi => h ⟨i, hi, hpi⟩⟩

abbrev restK (e : List Int) (s : List (List (List Int))) (b : ByteArray) (k : Nat) : List Int := fromW e s ((bytesOf b).drop k)
/-- Costs and what is left of the cost, ahead of place k. -/
def runSt (a e : List Int) (s : List (List (List Int))) (b : ByteArray) : Nat → List Int × Int
  | 0 => (a, costW a e s b)
  | k + 1 => (if k < lenB b then rowAt (matAt s (byteI b k - 97).toNat) (pIdx (runSt a e s b k).1 (restK e s b k) (runSt a e s b k).2) else (runSt a e s b k).1,
      (restK e s b k).getD (pIdx (runSt a e s b k).1 (restK e s b k) (runSt a e s b k).2) 0)
def runOut (a e : List Int) (s : List (List (List Int))) (b : ByteArray) (k : Nat) : Nat := pIdx (runSt a e s b k).1 (restK e s b k) (runSt a e s b k).2
def bestL (a e : List Int) (s : List (List (List Int))) (b : ByteArray) : List Int := tab (lenB b + 1) fun k => (runOut a e s b k : Int)
@[simp] theorem bestL_len (a e : List Int) (s : List (List (List Int))) (b : ByteArray) : (bestL a e s b).length = lenB b + 1 := tab_len _ _
theorem bestL_get {a e : List Int} {s : List (List (List Int))} {b : ByteArray} {k : Nat} (h : k < lenB b + 1) : (bestL a e s b).getD k 0 = runOut a e s b k := tab_get h

theorem runSt_fst {a e : List Int} {s : List (List (List Int))} {b : ByteArray} {k : Nat} (h : k < lenB b) : (runSt a e s b (k + 1)).1 = rowAt (matAt s (byteI b k - 97).toNat) (runOut a e s b k) := if_pos h
theorem runSt_fst' {a e : List Int} {s : List (List (List Int))} {b : ByteArray} {k : Nat} (h : ¬ k < lenB b) : (runSt a e s b (k + 1)).1 = (runSt a e s b k).1 := if_neg h
theorem runSt_snd {a e : List Int} {s : List (List (List Int))} {b : ByteArray} {k : Nat} : (runSt a e s b (k + 1)).2 = (restK e s b k).getD (runOut a e s b k) 0 := rfl

theorem plusI_fin {x y w : Int} (h : plusI x y = w) (hw : w ≠ 1000000000) : x ≠ 1000000000 ∧ y ≠ 1000000000 ∧ x + y = w := by
  unfold plusI at h
  split at h
  · exact (hw h.symm).elim
  · omega

theorem run_good {a e : List Int} {s : List (List (List Int))} {b : ByteArray} (h : autB a e s = true) (hw : wordB s.length b = true) (hc : costW a e s b ≠ 1000000000) : ∀ k, k ≤ lenB b →
    (runSt a e s b k).1.length = a.length ∧ costsB (runSt a e s b k).1 = true ∧ (runSt a e s b k).2 = dotV (runSt a e s b k).1 (restK e s b k) ∧ (runSt a e s b k).2 ≠ 1000000000
  | 0, _ => ⟨rfl, (autB_get h).2.1, rfl, hc⟩
  | k + 1, hk => by
    obtain ⟨h1, h2, h3, h4⟩ := run_good h hw hc k (by omega)
    obtain ⟨j, hj, hp, hf⟩ := least_first (pIdx_ex (show dotV (runSt a e s b k).1 (restK e s b k) ≠ 1000000000 by rw [← h3]; exact h4))
    rw [← h3] at hp
    have hidx : runOut a e s b k = j := pIdx_at hj hp fun i hi => by rw [h3]; exact hf i hi
    obtain ⟨_, hr, _⟩ := plusI_fin hp h4
    have hlet := (wordB_get hw).2 k (by omega)
    have hm := (autB_get h).2.2.2.2.2 ((byteI b k).toNat - 97) (by omega)
    have e1 : (byteI b k - 97).toNat = (byteI b k).toNat - 97 := by omega
    have hjm : j < (matAt s ((byteI b k).toNat - 97)).length := by rw [hm.1]; omega
    rw [runSt_fst (by omega), runSt_snd, hidx, e1]
    have hrow := hm.2 j (by omega)
    have hst : (restK e s b k).getD j 0 = dotV (rowAt (matAt s ((byteI b k).toNat - 97)) j) (restK e s b (k + 1)) := by
      show (fromW e s ((bytesOf b).drop k)).getD j 0 = _
      rw [fromW_drop (by omega), stepV_get hjm]
    exact ⟨hrow.1, hrow.2, hst, hr⟩

theorem run_idx {a e : List Int} {s : List (List (List Int))} {b : ByteArray} (h : autB a e s = true) (hw : wordB s.length b = true) (hc : costW a e s b ≠ 1000000000) {k : Nat} (hk : k ≤ lenB b) :
    runOut a e s b k < a.length ∧ plusI ((runSt a e s b k).1.getD (runOut a e s b k) 0) ((restK e s b k).getD (runOut a e s b k) 0) = (runSt a e s b k).2 := by
  obtain ⟨h1, h2, h3, h4⟩ := run_good h hw hc k hk
  obtain ⟨j, hj, hp, hf⟩ := least_first (pIdx_ex (show dotV (runSt a e s b k).1 (restK e s b k) ≠ 1000000000 by rw [← h3]; exact h4))
  rw [← h3] at hp
  have hidx : runOut a e s b k = j := pIdx_at hj hp fun i hi => by rw [h3]; exact hf i hi
  rw [hidx]
  exact ⟨by omega, hp⟩

def askR (a e : List Int) (s : List (List (List Int))) (b : ByteArray) : Bool := askW a e s b && decide (costW a e s b ≠ 1000000000)
def brR (a e : List Int) (s : List (List (List Int))) (b : ByteArray) : List Int × Bool := if askR a e s b then (bestL a e s b, true) else ([], false)
theorem brR_no {a e : List Int} {s : List (List (List Int))} {b : ByteArray} (h : askR a e s b = false) : brR a e s b = ([], false) := by unfold brR; rw [h]; rfl
theorem brR_yes {a e : List Int} {s : List (List (List Int))} {b : ByteArray} (h : askR a e s b = true) : brR a e s b = (bestL a e s b, true) := by unfold brR; rw [h]; rfl
theorem askR_no {a e : List Int} {s : List (List (List Int))} {b : ByteArray} (h : askW a e s b = false) : askR a e s b = false := by unfold askR; rw [h]; rfl
theorem askR_inf {a e : List Int} {s : List (List (List Int))} {b : ByteArray} (h : costW a e s b = 1000000000) : askR a e s b = false := by unfold askR; rw [h]; simp
theorem askR_yes {a e : List Int} {s : List (List (List Int))} {b : ByteArray} (h : askW a e s b = true) (h2 : costW a e s b ≠ 1000000000) : askR a e s b = true := by unfold askR; rw [h]; simpa using h2
theorem askW_get {a e : List Int} {s : List (List (List Int))} {b : ByteArray} (h : askW a e s b = true) : autB a e s = true ∧ wordB s.length b = true := by
  unfold askW at h; simpa using h
theorem brR_len (a e : List Int) (s : List (List (List Int))) (b : ByteArray) : (brR a e s b).1.length ≤ lenB b + 1 := by unfold brR; split <;> simp

end Go.Proofs.Ytpimjkhfookipaa
