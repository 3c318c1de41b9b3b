/- Plain functions on lists of rows, and laws on them. No conditions. -/
import Derived.Test.YtpimjkhfookipaaPure
import Derived.Test.YtpimjkhfookipaaEngE
import Derived.Lib.Join
import Derived.Lib.Bytealg
namespace Go.Proofs.Ytpimjkhfookipaa
set_option linter.unusedSimpArgs false
set_option linter.unusedVariables false

abbrev rowAt (m : List (List Int)) (i : Nat) : List Int := m.getD i []
abbrev rows (m : List (List Int)) : V := .seq 1 m.length fun i => ints (rowAt m i)

/-- The first number below n at which p holds, or -1. -/
def firstN (p : Nat → Bool) : Nat → Int
  | 0 => -1
  | n + 1 => if 0 ≤ firstN p n then firstN p n else if p n = true then (n : Int) else -1
theorem firstN_none {p : Nat → Bool} : ∀ {n : Nat}, (∀ j, j < n → p j = false) → firstN p n = -1
  | 0, _ => rfl
  | n + 1, h => by
    show (if 0 ≤ firstN p n then firstN p n else if p n = true then (n : Int) else -1) = -1
    rw [firstN_none fun j hj => h j (by omega), h n (by omega)]; simp
theorem firstN_at {p : Nat → Bool} {k : Nat} (h : ∀ j, j < k → p j = false) (hk : p k = true) : ∀ {n : Nat}, k < n → firstN p n = k
  | 0, h0 => by omega
  | n + 1, h0 => by
    show (if 0 ≤ firstN p n then firstN p n else if p n = true then (n : Int) else -1) = k
    rcases Nat.lt_or_ge k n with h1 | h1
    · rw [firstN_at h hk h1, if_pos (by omega)]
    · obtain rfl : k = n := by omega
      rw [firstN_none h, if_neg (by omega), if_pos hk]
def anyN (n : Nat) (p : Nat → Bool) : Bool := !allN n fun i => !p i
theorem anyN_first (p : Nat → Bool) (n : Nat) : decide (firstN p n ≥ 0) = anyN n p := by
  unfold anyN
  cases e : allN n fun i => !p i with
  | true =>
    rw [allN_iff] at e
    rw [firstN_none fun j hj => by simpa using e j hj]; rfl
  | false =>
    have : ∃ k, k < n ∧ p k = true ∧ ∀ j, j < k → p j = false := by
      induction n with
      | zero => simp [allN] at e
      | succ n ih =>
        cases e2 : allN n fun i => !p i with
        | false =>
          obtain ⟨k, h1, h2, h3⟩ := ih e2
          exact ⟨k, by omega, h2, h3⟩
        | true =>
          rw [allN_iff] at e2
          refine ⟨n, by omega, ?_, fun j hj => by simpa using e2 j hj⟩
          cases h : p n with
          | true => rfl
          | false =>
            have : (allN (n + 1) fun i => !p i) = true := allN_true fun j hj => by
              rcases Nat.lt_or_ge j n with h1 | h1
              · exact e2 j h1
              · rw [show j = n by omega, h]; rfl
            rw [this] at e; cases e
    obtain ⟨k, h1, h2, h3⟩ := this
    rw [firstN_at h3 h2 h1]
    simp

def vecB (l : List Int) : Bool := inB l.length 1 6 && numsB l
theorem vecB_in {l : List Int} (h : ¬ (1 ≤ (l.length : Int) ∧ (l.length : Int) ≤ 6)) : vecB l = false := by unfold vecB; rw [inB_false.2 h]; rfl
theorem vecB_is {l : List Int} (h : 1 ≤ (l.length : Int) ∧ (l.length : Int) ≤ 6) : vecB l = numsB l := by unfold vecB; rw [inB_true.2 h]; rfl
/-- A row of a matrix with rows of length w. -/
def mrowB (w : Nat) (l : List Int) : Bool := vecB l && (l.length == w)
theorem mrowB_vec {w : Nat} {l : List Int} (h : vecB l = false) : mrowB w l = false := by unfold mrowB; rw [h]; rfl
theorem mrowB_is {w : Nat} {l : List Int} (h : vecB l = true) : mrowB w l = ((l.length : Int) == (w : Int)) := by
  unfold mrowB; rw [h, Bool.true_and]
  by_cases e : l.length = w
  · rw [e]; simp
  · rw [beq_eq_false_iff_ne.2 e, beq_eq_false_iff_ne.2 (by omega)]
def matB (m : List (List Int)) : Bool := inB m.length 1 6 && allN m.length fun i => mrowB (rowAt m 0).length (rowAt m i)
theorem matB_in {m : List (List Int)} (h : ¬ (1 ≤ (m.length : Int) ∧ (m.length : Int) ≤ 6)) : matB m = false := by unfold matB; rw [inB_false.2 h]; rfl
theorem matB_is {m : List (List Int)} (h : 1 ≤ (m.length : Int) ∧ (m.length : Int) ≤ 6) : matB m = allN m.length fun i => mrowB (rowAt m 0).length (rowAt m i) := by unfold matB; rw [inB_true.2 h]; rfl
theorem matB_len {m : List (List Int)} (h : matB m = true) : (1 ≤ m.length ∧ m.length ≤ 6) ∧ (1 ≤ (rowAt m 0).length ∧ (rowAt m 0).length ≤ 6) := by
  unfold matB at h
  simp only [Bool.and_eq_true] at h
  have h1 := inB_true.1 h.1
  refine ⟨by omega, ?_⟩
  have h2 := allN_iff.1 h.2 0 (by omega)
  unfold mrowB vecB at h2
  simp only [Bool.and_eq_true] at h2
  have := inB_true.1 h2.1.1
  omega
def squB (m : List (List Int)) : Bool := matB m && (m.length == (rowAt m 0).length)
theorem squB_no {m : List (List Int)} (h : matB m = false) : squB m = false := by unfold squB; rw [h]; rfl
theorem squB_is {m : List (List Int)} (h : matB m = true) : squB m = ((m.length : Int) == ((rowAt m 0).length : Int)) := by
  unfold squB; rw [h, Bool.true_and]
  by_cases e : m.length = (rowAt m 0).length
  · rw [e]; simp
  · rw [beq_eq_false_iff_ne.2 e, beq_eq_false_iff_ne.2 (by omega)]
set_option linter.unusedSimpArgs false
set_option linter.unusedVariables false

abbrev vs (b : ByteArray) : V := .val (.string b)
abbrev vu (n : Int) : V := .val (.int .u8 n)
def lenB (b : ByteArray) : Nat := (bytesOf b).length
theorem lenB_is (b : ByteArray) : (bytesOf b).length = lenB b := rfl
theorem lenB_size (b : ByteArray) : lenB b = b.size := Array.length_toList

/-- Byte j of a string, as a number. -/
def byteI (b : ByteArray) (j : Nat) : Int := ((bytesOf b).getD j 0).toNat
theorem byteI_lt (b : ByteArray) (j : Nat) : 0 ≤ byteI b j ∧ byteI b j ≤ 255 := by
  unfold byteI
  have := ((bytesOf b).getD j 0).toNat_lt
  omega
set_option linter.unusedSimpArgs false
set_option linter.unusedVariables false

abbrev T3 := Int × Int × Int
abbrev tAt (l : List T3) (k : Nat) : T3 := l.getD k (0, 0, 0)
/-- One term's cells. -/
def t3 (t : T3) (j : Nat) : Int := if j = 0 then t.1 else if j = 1 then t.2.1 else t.2.2
/-- The least of b and the first k numbers. -/
def lowN (g : Nat → Int) (b : Int) : Nat → Int
  | 0 => b
  | k + 1 => min (lowN g b k) (g k)
def lowI (l : List T3) (b : Int) (k : Nat) : Int := lowN (fun j => (tAt l j).1) b k
def lowJ (l : List T3) (b : Int) (k : Nat) : Int := lowN (fun j => (tAt l j).2.1) b k
def normT (l : List T3) (i j : Int) (t : T3) : T3 := (t.1 - i, t.2.1 - j, t.2.2 - (tAt l 0).2.2)
def normL (l : List T3) : List T3 := l.map (normT l (lowI l 6 l.length) (lowJ l 6 l.length))
@[simp] theorem normL_len (l : List T3) : (normL l).length = l.length := by simp [normL]
set_option linter.unusedSimpArgs false
set_option linter.unusedVariables false
open Go.Proofs

set_option linter.unusedSimpArgs false
set_option linter.unusedVariables false

abbrev matAt (s : List (List (List Int))) (i : Nat) : List (List Int) := s.getD i []
abbrev mats (s : List (List (List Int))) : V := .seq 1 s.length fun i => rows (matAt s i)
def autF (a e : List Int) (s : List (List (List Int))) : Nat → V
  | 0 => ints a
  | 1 => ints e
  | _ => mats s
theorem autF_0 (a e : List Int) (s : List (List (List Int))) : autF a e s 0 = ints a := rfl
theorem autF_1 (a e : List Int) (s : List (List (List Int))) : autF a e s 1 = ints e := rfl
theorem autF_2 (a e : List Int) (s : List (List (List Int))) : autF a e s 2 = mats s := rfl
abbrev autV (a e : List Int) (s : List (List (List Int))) : V := .agg 3 (autF a e s)

def costB (n : Int) : Bool := n == 1000000000 || inB n (-1000) 1000
theorem costB_num {n : Int} (h : costB n = true) : numB n = true := by
  unfold costB at h
  simp only [Bool.or_eq_true, beq_iff_eq] at h
  rcases h with h | h
  · exact numB_inf h
  · have := inB_true.1 h
    exact numB_fin (by omega)
def costsB (l : List Int) : Bool := allN l.length fun i => costB (l.getD i 0)
theorem costsB_nums {l : List Int} (h : costsB l = true) : numsB l = true := allN_true fun j hj => costB_num (allN_iff.1 h j hj)
def costV (l : List Int) (n : Nat) : Bool := costsB l && (l.length == n)
/-- All rows are lists of n costs. -/
def costM (m : List (List Int)) (n : Nat) : Bool := (m.length == n) && allN m.length fun i => costV (rowAt m i) n
theorem costM_len {m : List (List Int)} {n : Nat} (h : ¬ (m.length : Int) = n) : costM m n = false := by
  have : (m.length == n) = false := by simp; omega
  unfold costM; rw [this]; rfl
theorem costM_no {m : List (List Int)} {n k : Nat} (hk : k < m.length) (h : costV (rowAt m k) n = false) : costM m n = false := by unfold costM; rw [allN_false hk h, Bool.and_false]
theorem costM_yes {m : List (List Int)} {n : Nat} (h : (m.length : Int) = n) (h2 : ∀ k, k < m.length → costV (rowAt m k) n = true) : costM m n = true := by
  have : (m.length == n) = true := by simp; omega
  unfold costM; rw [this, allN_true h2]; rfl
/-- The program's words: a square matrix of n rows, all rows costs. -/
theorem costM_sq {m : List (List Int)} {n : Nat} (hn : 1 ≤ n ∧ n ≤ 6) : costM m n = (squB m && ((m.length : Int) == (n : Int)) && !anyN m.length fun i => !costsB (rowAt m i)) := by
  have key : costM m n = true ↔ (squB m && ((m.length : Int) == (n : Int)) && !anyN m.length fun i => !costsB (rowAt m i)) = true := by
    unfold anyN
    simp only [Bool.and_eq_true, Bool.not_not, beq_iff_eq, allN_iff, Bool.not_eq_true', Bool.not_eq_false']
    constructor
    · intro h
      unfold costM at h
      simp only [Bool.and_eq_true, beq_iff_eq, allN_iff] at h
      obtain ⟨hl, hr⟩ := h
      have hrow : ∀ k, k < m.length → costsB (rowAt m k) = true ∧ (rowAt m k).length = n := fun k hk => by
        have := hr k hk
        unfold costV at this
        simpa using this
      have h0 := hrow 0 (by omega)
      refine ⟨⟨?_, by omega⟩, fun k hk => (hrow k hk).1⟩
      unfold squB matB mrowB vecB
      simp only [Bool.and_eq_true, beq_iff_eq, allN_iff, inB_true]
      refine ⟨⟨by omega, fun k hk => ⟨⟨by have := (hrow k hk).2; omega, costsB_nums (hrow k hk).1⟩, by rw [(hrow k hk).2, h0.2]⟩⟩, by omega⟩
    · rintro ⟨⟨hsq, hl⟩, hr⟩
      unfold squB matB mrowB at hsq
      simp only [Bool.and_eq_true, beq_iff_eq, allN_iff] at hsq
      obtain ⟨⟨_, hm⟩, h0⟩ := hsq
      exact costM_yes hl fun k hk => by
        unfold costV
        rw [hr k hk, (hm k hk).2, ← h0]
        simp; omega
  cases e1 : costM m n <;> cases e2 : (squB m && ((m.length : Int) == (n : Int)) && !anyN m.length fun i => !costsB (rowAt m i)) <;> simp_all
def autB (a e : List Int) (s : List (List (List Int))) : Bool := inB a.length 1 6 && costsB a && costV e a.length && inB s.length 1 3 && allN s.length fun i => costM (matAt s i) a.length
theorem autB_1 {a e : List Int} {s : List (List (List Int))} (h : inB a.length 1 6 = false) : autB a e s = false := by unfold autB; rw [h]; rfl
theorem autB_2 {a e : List Int} {s : List (List (List Int))} (h : costsB a = false) : autB a e s = false := by unfold autB; rw [h, Bool.and_false]; rfl
theorem autB_3 {a e : List Int} {s : List (List (List Int))} (h : costV e a.length = false) : autB a e s = false := by unfold autB; rw [h, Bool.and_false]; rfl
theorem autB_4 {a e : List Int} {s : List (List (List Int))} (h : inB s.length 1 3 = false) : autB a e s = false := by unfold autB; rw [h, Bool.and_false]; rfl
theorem autB_5 {a e : List Int} {s : List (List (List Int))} {k : Nat} (hk : k < s.length) (h : costM (matAt s k) a.length = false) : autB a e s = false := by unfold autB; rw [allN_false hk h, Bool.and_false]
theorem autB_yes {a e : List Int} {s : List (List (List Int))} (h1 : inB a.length 1 6 = true) (h2 : costsB a = true) (h3 : costV e a.length = true) (h4 : inB s.length 1 3 = true) (h5 : ∀ k, k < s.length → costM (matAt s k) a.length = true) : autB a e s = true := by
  unfold autB; rw [h1, h2, h3, h4, allN_true h5]; rfl
theorem costV_len {l : List Int} {n : Nat} (h : ¬ (l.length : Int) = n) : costV l n = false := by
  have : (l.length == n) = false := by simp; omega
  unfold costV; rw [this, Bool.and_false]
theorem costV_no {l : List Int} {n : Nat} (h : costsB l = false) : costV l n = false := by unfold costV; rw [h]; rfl
theorem costV_yes {l : List Int} {n : Nat} (h : costsB l = true) (h2 : (l.length : Int) = n) : costV l n = true := by
  have : (l.length == n) = true := by simp; omega
  unfold costV; rw [h, this]; rfl
theorem costV_is {l : List Int} {n : Nat} (h : costsB l = true) : costV l n = ((l.length : Int) == (n : Int)) := by
  unfold costV; rw [h, Bool.true_and]
  by_cases e : l.length = n
  · rw [e]; simp
  · rw [beq_eq_false_iff_ne.2 e, beq_eq_false_iff_ne.2 (by omega)]

theorem costV_self (l : List Int) : costV l l.length = costsB l := by unfold costV; simp

set_option linter.unusedSimpArgs false
set_option linter.unusedVariables false

/-- The least sum of elements of two lists. -/
def dotV (a b : List Int) : Int := leastN (fun i => plusI (a.getD i 0) (b.getD i 0)) a.length
def stepV (m : List (List Int)) (v : List Int) : List Int := tab m.length fun i => dotV (rowAt m i) v
@[simp] theorem stepV_len (m : List (List Int)) (v : List Int) : (stepV m v).length = m.length := tab_len _ _
theorem stepV_get {m : List (List Int)} {v : List Int} {i : Nat} (h : i < m.length) : (stepV m v).getD i 0 = dotV (rowAt m i) v := tab_get h
/-- The least costs of the rest of a word from all states on. -/
def fromW (e : List Int) (s : List (List (List Int))) : List UInt8 → List Int
  | [] => e
  | c :: cs => stepV (matAt s (c.toNat - 97)) (fromW e s cs)
def wordB (k : Nat) (b : ByteArray) : Bool := (allN (lenB b) fun i => inB (byteI b i) 97 (97 + k - 1)) && decide ((lenB b : Int) ≤ 6)
theorem wordB_let {k : Nat} {b : ByteArray} {i : Nat} (hi : i < lenB b) (h : ¬ (97 ≤ byteI b i ∧ byteI b i ≤ 97 + (k : Int) - 1)) : wordB k b = false := by
  unfold wordB; rw [allN_false hi (inB_false.2 h)]; rfl
theorem wordB_is {k : Nat} {b : ByteArray} (h : ∀ i, i < lenB b → 97 ≤ byteI b i ∧ byteI b i ≤ 97 + (k : Int) - 1) : wordB k b = decide ((lenB b : Int) ≤ 6) := by
  unfold wordB; rw [allN_true fun i hi => inB_true.2 (h i hi)]; rfl
theorem wordB_get {k : Nat} {b : ByteArray} (h : wordB k b = true) : lenB b ≤ 6 ∧ ∀ i, i < lenB b → 97 ≤ byteI b i ∧ byteI b i ≤ 97 + (k : Int) - 1 := by
  unfold wordB at h
  simp only [Bool.and_eq_true, decide_eq_true_eq] at h
  exact ⟨by omega, fun i hi => inB_true.1 (allN_iff.1 h.1 i hi)⟩

/-- All elements are from -L to 10^9. -/
def loV (L : Int) (v : List Int) : Prop := ∀ i, i < v.length → -L ≤ v.getD i 0 ∧ v.getD i 0 ≤ 1000000000
theorem costB_get {n : Int} (h : costB n = true) : n = 1000000000 ∨ (-1000 ≤ n ∧ n ≤ 1000) := by
  unfold costB at h
  simp only [Bool.or_eq_true, beq_iff_eq] at h
  exact h.imp id inB_true.1
theorem costsB_get {l : List Int} (h : costsB l = true) {i : Nat} (hi : i < l.length) : l.getD i 0 = 1000000000 ∨ (-1000 ≤ l.getD i 0 ∧ l.getD i 0 ≤ 1000) := costB_get (allN_iff.1 h i hi)
theorem costsB_lo {l : List Int} (h : costsB l = true) : loV 1000 l := fun i hi => by have := costsB_get h hi; omega
theorem leastN_ge' {g : Nat → Int} {L : Int} (hL : L ≤ 1000000000) : ∀ n, (∀ i, i < n → L ≤ g i) → L ≤ leastN g n
  | 0, _ => hL
  | n + 1, h => by
    have h1 := leastN_ge' hL n fun i hi => h i (by omega)
    have h2 := h n (by omega)
    show L ≤ (if leastN g n < g n then leastN g n else g n)
    split <;> omega
theorem leastN_at (g : Nat → Int) : ∀ n, leastN g n ≠ 1000000000 → ∃ i, i < n ∧ g i = leastN g n
  | 0, h => absurd rfl h
  | n + 1, h => by
    by_cases hc : leastN g n < g n
    · rw [leastN_lt hc] at h ⊢
      obtain ⟨i, hi, e⟩ := leastN_at g n h
      exact ⟨i, by omega, e⟩
    · rw [leastN_ge (by omega)]
      exact ⟨n, by omega, rfl⟩
theorem plusI_bound {a b L : Int} (hL : 0 ≤ L) (ha : a = 1000000000 ∨ (-1000 ≤ a ∧ a ≤ 1000)) (hb : -L ≤ b ∧ b ≤ 1000000000) : -(L + 1000) ≤ plusI a b := by
  unfold plusI; split <;> omega
theorem dotV_lo {a b : List Int} {L : Int} (hL : 0 ≤ L) (ha : costsB a = true) (hb : loV L b) (hl : a.length ≤ b.length) : -(L + 1000) ≤ dotV a b ∧ dotV a b ≤ 1000000000 :=
  ⟨leastN_ge' (by omega) _ fun i hi => plusI_bound hL (costsB_get ha hi) (hb i (by omega)), leastN_inf _ _⟩
/-- A matrix of n rows of n costs. -/
def goodM (n : Nat) (m : List (List Int)) : Prop := m.length = n ∧ ∀ i, i < n → (rowAt m i).length = n ∧ costsB (rowAt m i) = true
theorem costM_get {m : List (List Int)} {n : Nat} (h : costM m n = true) : goodM n m := by
  unfold costM at h
  simp only [Bool.and_eq_true, beq_iff_eq] at h
  refine ⟨h.1, fun i hi => ?_⟩
  have := allN_iff.1 h.2 i (by omega)
  unfold costV at this
  simp only [Bool.and_eq_true, beq_iff_eq] at this
  exact ⟨this.2, this.1⟩
theorem stepV_lo {n : Nat} {m : List (List Int)} {v : List Int} {L : Int} (hL : 0 ≤ L) (hm : goodM n m) (hv : loV L v) (hl : v.length = n) : loV (L + 1000) (stepV m v) := fun i hi => by
  rw [stepV_len] at hi
  rw [stepV_get hi]
  have := hm.2 i (by rw [← hm.1]; exact hi)
  exact dotV_lo hL this.2 hv (by omega)
theorem autB_get {a e : List Int} {s : List (List (List Int))} (h : autB a e s = true) : (1 ≤ a.length ∧ a.length ≤ 6) ∧ costsB a = true ∧ costsB e = true ∧ e.length = a.length ∧ (1 ≤ s.length ∧ s.length ≤ 3) ∧ ∀ i, i < s.length → goodM a.length (matAt s i) := by
  unfold autB at h
  simp only [Bool.and_eq_true] at h
  obtain ⟨⟨⟨⟨h1, h2⟩, h3⟩, h4⟩, h5⟩ := h
  have h1' := inB_true.1 h1
  have h4' := inB_true.1 h4
  unfold costV at h3
  simp only [Bool.and_eq_true, beq_iff_eq] at h3
  exact ⟨by omega, h2, h3.1, h3.2, by omega, fun i hi => costM_get (allN_iff.1 h5 i hi)⟩
/-- The letters of a list of bytes are letters of the automaton. -/
def okW (k : Nat) (l : List UInt8) : Prop := ∀ c ∈ l, 97 ≤ c.toNat ∧ c.toNat < 97 + k
theorem okW_cons {k : Nat} {c : UInt8} {l : List UInt8} (h : okW k (c :: l)) : (97 ≤ c.toNat ∧ c.toNat < 97 + k) ∧ okW k l := ⟨h c (by simp), fun d hd => h d (by simp [hd])⟩
theorem wordB_ok {k : Nat} {b : ByteArray} (h : wordB k b = true) : okW k (bytesOf b) := fun c hc => by
  obtain ⟨i, hi, rfl⟩ := List.getElem_of_mem hc
  have := (wordB_get h).2 i hi
  unfold byteI at this
  rw [show (bytesOf b).getD i 0 = (bytesOf b)[i] by simp [List.getD, hi]] at this
  omega
theorem okW_drop {k : Nat} {l : List UInt8} (h : okW k l) (n : Nat) : okW k (l.drop n) := fun c hc => h c (List.mem_of_mem_drop hc)
theorem fromW_good {a e : List Int} {s : List (List (List Int))} (h : autB a e s = true) : ∀ l : List UInt8, okW s.length l → (fromW e s l).length = a.length ∧ loV (1000 + 1000 * l.length) (fromW e s l)
  | [], _ => by
    obtain ⟨_, _, h3, h4, _⟩ := autB_get h
    refine ⟨h4, fun i hi => ?_⟩
    have := costsB_lo h3 i hi
    show -(1000 + 1000 * ((0 : Nat) : Int)) ≤ e.getD i 0 ∧ e.getD i 0 ≤ 1000000000
    exact ⟨by omega, this.2⟩
  | c :: cs, hw => by
    obtain ⟨hc, hcs⟩ := okW_cons hw
    obtain ⟨ih1, ih2⟩ := fromW_good h cs hcs
    have hm := (autB_get h).2.2.2.2.2 (c.toNat - 97) (by omega)
    refine ⟨by show (stepV _ _).length = _; rw [stepV_len]; exact hm.1, ?_⟩
    have := stepV_lo (L := 1000 + 1000 * cs.length) (by omega) hm ih2 ih1
    intro i hi
    have h2 := this i hi
    simp only [List.length_cons]
    exact ⟨by have := h2.1; show -(1000 + 1000 * ((cs.length + 1 : Nat) : Int)) ≤ (stepV (matAt s (c.toNat - 97)) (fromW e s cs)).getD i 0; omega, h2.2⟩
theorem fromW_drop {e : List Int} {s : List (List (List Int))} {b : ByteArray} {i : Nat} (hi : i < lenB b) : fromW e s ((bytesOf b).drop i) = stepV (matAt s ((byteI b i).toNat - 97)) (fromW e s ((bytesOf b).drop (i + 1))) := by
  have hi' : i < (bytesOf b).length := hi
  rw [List.drop_eq_getElem_cons hi']
  show stepV (matAt s ((bytesOf b)[i].toNat - 97)) _ = _
  rw [show (byteI b i).toNat = (bytesOf b)[i].toNat by unfold byteI; simp [List.getD, hi']]
theorem fromW_all {e : List Int} {s : List (List (List Int))} {b : ByteArray} {i : Nat} (hi : lenB b ≤ i) : fromW e s ((bytesOf b).drop i) = e := by
  rw [List.drop_eq_nil_of_le hi]; rfl

def askW (a e : List Int) (s : List (List (List Int))) (b : ByteArray) : Bool := autB a e s && wordB s.length b
def costW (a e : List Int) (s : List (List (List Int))) (b : ByteArray) : Int := dotV a (fromW e s (bytesOf b))
def cwR (a e : List Int) (s : List (List (List Int))) (b : ByteArray) : Int × Bool := if askW a e s b then (costW a e s b, true) else (0, false)
theorem cwR_no {a e : List Int} {s : List (List (List Int))} {b : ByteArray} (h : askW a e s b = false) : cwR a e s b = (0, false) := by unfold cwR; rw [h]; rfl
theorem cwR_yes {a e : List Int} {s : List (List (List Int))} {b : ByteArray} (h : askW a e s b = true) : cwR a e s b = (costW a e s b, true) := by unfold cwR; rw [h]; rfl
theorem askW_no1 {a e : List Int} {s : List (List (List Int))} {b : ByteArray} (h : autB a e s = false) : askW a e s b = false := by unfold askW; rw [h]; rfl
theorem askW_no2 {a e : List Int} {s : List (List (List Int))} {b : ByteArray} (h : wordB s.length b = false) : askW a e s b = false := by unfold askW; rw [h, Bool.and_false]
theorem askW_yes {a e : List Int} {s : List (List (List Int))} {b : ByteArray} (h : autB a e s = true) (h2 : wordB s.length b = true) : askW a e s b = true := by unfold askW; rw [h, h2]; rfl

end Go.Proofs.Ytpimjkhfookipaa
