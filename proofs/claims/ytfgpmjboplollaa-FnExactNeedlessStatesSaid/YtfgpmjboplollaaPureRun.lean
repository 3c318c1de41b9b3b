/- Plain functions on runs of automata, and laws on them. No conditions. -/
import Derived.Test.YtfgpmjboplollaaPureAut
import Derived.Test.YtfgpmjboplollaaPurePic
import Derived.Test.YtfgpmjboplollaaPure
namespace Go.Proofs.Ytfgpmjboplollaa
set_option linter.unusedSimpArgs false
set_option linter.unusedVariables false

/-- The least sum of elements of two lists. -/
def dotV (a b : List Int) : Int := leastN (fun i => plusI (a.getD i 0) (b.getD i 0)) a.length
def stepV (m : List (List Int)) (v : List Int) : List Int := tab m.length fun i => dotV (rowAt m i) v
@[simp] theorem stepV_len (m : List (List Int)) (v : List Int) : (stepV m v).length = m.length := tab_len _ _
theorem stepV_get {m : List (List Int)} {v : List Int} {i : Nat} (h : i < m.length) : (stepV m v).getD i 0 = dotV (rowAt m i) v := tab_get h
/-- The least costs of the rest of a word from all states on. -/
def fromW (e : List Int) (s : List (List (List Int))) : List UInt8 → List Int
  | [] => e
  | c :: cs => stepV (matAt s (c.toNat - 97)) (fromW e s cs)
def wordB (k : Nat) (b : ByteArray) : Bool := (allN (lenB b) fun i => inB (byteI b i) 97 (97 + k - 1)) && decide ((lenB b : Int) ≤ 6)
theorem wordB_let {k : Nat} {b : ByteArray} {i : Nat} (hi : i < lenB b) (h : ¬ (97 ≤ byteI b i ∧ byteI b i ≤ 97 + (k : Int) - 1)) : wordB k b = false := by
  unfold wordB; rw [allN_false hi (inB_false.2 h)]; rfl
theorem wordB_is {k : Nat} {b : ByteArray} (h : ∀ i, i < lenB b → 97 ≤ byteI b i ∧ byteI b i ≤ 97 + (k : Int) - 1) : wordB k b = decide ((lenB b : Int) ≤ 6) := by
  unfold wordB; rw [allN_true fun i hi => inB_true.2 (h i hi)]; rfl
theorem wordB_get {k : Nat} {b : ByteArray} (h : wordB k b = true) : lenB b ≤ 6 ∧ ∀ i, i < lenB b → 97 ≤ byteI b i ∧ byteI b i ≤ 97 + (k : Int) - 1 := by
  unfold wordB at h
  simp only [Bool.and_eq_true, decide_eq_true_eq] at h
  exact ⟨by omega, fun i hi => inB_true.1 (allN_iff.1 h.1 i hi)⟩

/-- All elements are from -L to 10^9. -/
def loV (L : Int) (v : List Int) : Prop := ∀ i, i < v.length → -L ≤ v.getD i 0 ∧ v.getD i 0 ≤ 1000000000
theorem costB_get {n : Int} (h : costB n = true) : n = 1000000000 ∨ (-1000 ≤ n ∧ n ≤ 1000) := by
  unfold costB at h
  simp only [Bool.or_eq_true, beq_iff_eq] at h
  exact h.imp id inB_true.1
theorem costsB_get {l : List Int} (h : costsB l = true) {i : Nat} (hi : i < l.length) : l.getD i 0 = 1000000000 ∨ (-1000 ≤ l.getD i 0 ∧ l.getD i 0 ≤ 1000) := costB_get (allN_iff.1 h i hi)
theorem costsB_lo {l : List Int} (h : costsB l = true) : loV 1000 l := fun i hi => by have := costsB_get h hi; omega
theorem leastN_ge' {g : Nat → Int} {L : Int} (hL : L ≤ 1000000000) : ∀ n, (∀ i, i < n → L ≤ g i) → L ≤ leastN g n
  | 0, _ => hL
  | n + 1, h => by
    have h1 := leastN_ge' hL n fun i hi => h i (by omega)
    have h2 := h n (by omega)
    show L ≤ (if leastN g n < g n then leastN g n else g n)
    split <;> omega
theorem leastN_at (g : Nat → Int) : ∀ n, leastN g n ≠ 1000000000 → ∃ i, i < n ∧ g i = leastN g n
  | 0, h => absurd rfl h
  | n + 1, h => by
    by_cases hc : leastN g n < g n
    · rw [leastN_lt hc] at h ⊢
      obtain ⟨i, hi, e⟩ := leastN_at g n h
      exact ⟨i, by omega, e⟩
    · rw [leastN_ge (by omega)]
      exact ⟨n, by omega, rfl⟩
theorem plusI_bound {a b L : Int} (hL : 0 ≤ L) (ha : a = 1000000000 ∨ (-1000 ≤ a ∧ a ≤ 1000)) (hb : -L ≤ b ∧ b ≤ 1000000000) : -(L + 1000) ≤ plusI a b := by
  unfold plusI; split <;> omega
theorem dotV_lo {a b : List Int} {L : Int} (hL : 0 ≤ L) (ha : costsB a = true) (hb : loV L b) (hl : a.length ≤ b.length) : -(L + 1000) ≤ dotV a b ∧ dotV a b ≤ 1000000000 :=
  ⟨leastN_ge' (by omega) _ fun i hi => plusI_bound hL (costsB_get ha hi) (hb i (by omega)), leastN_inf _ _⟩
/-- A matrix of n rows of n costs. -/
def goodM (n : Nat) (m : List (List Int)) : Prop := m.length = n ∧ ∀ i, i < n → (rowAt m i).length = n ∧ costsB (rowAt m i) = true
theorem costM_get {m : List (List Int)} {n : Nat} (h : costM m n = true) : goodM n m := by
  unfold costM at h
  simp only [Bool.and_eq_true, beq_iff_eq] at h
  refine ⟨h.1, fun i hi => ?_⟩
  have := allN_iff.1 h.2 i (by omega)
  unfold costV at this
  simp only [Bool.and_eq_true, beq_iff_eq] at this
  exact ⟨this.2, this.1⟩
theorem stepV_lo {n : Nat} {m : List (List Int)} {v : List Int} {L : Int} (hL : 0 ≤ L) (hm : goodM n m) (hv : loV L v) (hl : v.length = n) : loV (L + 1000) (stepV m v) := fun i hi => by
  rw [stepV_len] at hi
  rw [stepV_get hi]
  have := hm.2 i (by rw [← hm.1]; exact hi)
  exact dotV_lo hL this.2 hv (by omega)
theorem autB_get {a e : List Int} {s : List (List (List Int))} (h : autB a e s = true) : (1 ≤ a.length ∧ a.length ≤ 6) ∧ costsB a = true ∧ costsB e = true ∧ e.length = a.length ∧ (1 ≤ s.length ∧ s.length ≤ 3) ∧ ∀ i, i < s.length → goodM a.length (matAt s i) := by
  unfold autB at h
  simp only [Bool.and_eq_true] at h
  obtain ⟨⟨⟨⟨h1, h2⟩, h3⟩, h4⟩, h5⟩ := h
  have h1' := inB_true.1 h1
  have h4' := inB_true.1 h4
  unfold costV at h3
  simp only [Bool.and_eq_true, beq_iff_eq] at h3
  exact ⟨by omega, h2, h3.1, h3.2, by omega, fun i hi => costM_get (allN_iff.1 h5 i hi)⟩
/-- The letters of a list of bytes are letters of the automaton. -/
def okW (k : Nat) (l : List UInt8) : Prop := ∀ c ∈ l, 97 ≤ c.toNat ∧ c.toNat < 97 + k
theorem okW_cons {k : Nat} {c : UInt8} {l : List UInt8} (h : okW k (c :: l)) : (97 ≤ c.toNat ∧ c.toNat < 97 + k) ∧ okW k l := ⟨h c (by simp), fun d hd => h d (by simp [hd])⟩
theorem wordB_ok {k : Nat} {b : ByteArray} (h : wordB k b = true) : okW k (bytesOf b) := fun c hc => by
  obtain ⟨i, hi, rfl⟩ := List.getElem_of_mem hc
  have := (wordB_get h).2 i hi
  unfold byteI at this
  rw [show (bytesOf b).getD i 0 = (bytesOf b)[i] by simp [List.getD, hi]] at this
  omega
theorem okW_drop {k : Nat} {l : List UInt8} (h : okW k l) (n : Nat) : okW k (l.drop n) := fun c hc => h c (List.mem_of_mem_drop hc)
theorem fromW_good {a e : List Int} {s : List (List (List Int))} (h : autB a e s = true) : ∀ l : List UInt8, okW s.length l → (fromW e s l).length = a.length ∧ loV (1000 + 1000 * l.length) (fromW e s l)
  | [], _ => by
    obtain ⟨_, _, h3, h4, _⟩ := autB_get h
    refine ⟨h4, fun i hi => ?_⟩
    have := costsB_lo h3 i hi
    show -(1000 + 1000 * ((0 : Nat) : Int)) ≤ e.getD i 0 ∧ e.getD i 0 ≤ 1000000000
    exact ⟨by omega, this.2⟩
  | c :: cs, hw => by
    obtain ⟨hc, hcs⟩ := okW_cons hw
    obtain ⟨ih1, ih2⟩ := fromW_good h cs hcs
    have hm := (autB_get h).2.2.2.2.2 (c.toNat - 97) (by omega)
    refine ⟨by show (stepV _ _).length = _; rw [stepV_len]; exact hm.1, ?_⟩
    have := stepV_lo (L := 1000 + 1000 * cs.length) (by omega) hm ih2 ih1
    intro i hi
    have h2 := this i hi
    simp only [List.length_cons]
    exact ⟨by have := h2.1; show -(1000 + 1000 * ((cs.length + 1 : Nat) : Int)) ≤ (stepV (matAt s (c.toNat - 97)) (fromW e s cs)).getD i 0; omega, h2.2⟩
theorem fromW_drop {e : List Int} {s : List (List (List Int))} {b : ByteArray} {i : Nat} (hi : i < lenB b) : fromW e s ((bytesOf b).drop i) = stepV (matAt s ((byteI b i).toNat - 97)) (fromW e s ((bytesOf b).drop (i + 1))) := by
  have hi' : i < (bytesOf b).length := hi
  rw [List.drop_eq_getElem_cons hi']
  show stepV (matAt s ((bytesOf b)[i].toNat - 97)) _ = _
  rw [show (byteI b i).toNat = (bytesOf b)[i].toNat by unfold byteI; simp [List.getD, hi']]
theorem fromW_all {e : List Int} {s : List (List (List Int))} {b : ByteArray} {i : Nat} (hi : lenB b ≤ i) : fromW e s ((bytesOf b).drop i) = e := by
  rw [List.drop_eq_nil_of_le hi]; rfl

def askW (a e : List Int) (s : List (List (List Int))) (b : ByteArray) : Bool := autB a e s && wordB s.length b
def costW (a e : List Int) (s : List (List (List Int))) (b : ByteArray) : Int := dotV a (fromW e s (bytesOf b))
def cwR (a e : List Int) (s : List (List (List Int))) (b : ByteArray) : Int × Bool := if askW a e s b then (costW a e s b, true) else (0, false)
theorem cwR_no {a e : List Int} {s : List (List (List Int))} {b : ByteArray} (h : askW a e s b = false) : cwR a e s b = (0, false) := by unfold cwR; rw [h]; rfl
theorem cwR_yes {a e : List Int} {s : List (List (List Int))} {b : ByteArray} (h : askW a e s b = true) : cwR a e s b = (costW a e s b, true) := by unfold cwR; rw [h]; rfl
theorem askW_no1 {a e : List Int} {s : List (List (List Int))} {b : ByteArray} (h : autB a e s = false) : askW a e s b = false := by unfold askW; rw [h]; rfl
theorem askW_no2 {a e : List Int} {s : List (List (List Int))} {b : ByteArray} (h : wordB s.length b = false) : askW a e s b = false := by unfold askW; rw [h, Bool.and_false]
theorem askW_yes {a e : List Int} {s : List (List (List Int))} {b : ByteArray} (h : autB a e s = true) (h2 : wordB s.length b = true) : askW a e s b = true := by unfold askW; rw [h, h2]; rfl

end Go.Proofs.Ytfgpmjboplollaa
