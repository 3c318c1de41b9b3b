/- Plain functions on automata, and laws on them. No conditions. -/
import Derived.Test.YtfgpmjboplollaaPureMx
namespace Go.Proofs.Ytfgpmjboplollaa
set_option linter.unusedSimpArgs false
set_option linter.unusedVariables false

abbrev matAt (s : List (List (List Int))) (i : Nat) : List (List Int) := s.getD i []
abbrev mats (s : List (List (List Int))) : V := .seq 1 s.length fun i => rows (matAt s i)
def autF (a e : List Int) (s : List (List (List Int))) : Nat → V
  | 0 => ints a
  | 1 => ints e
  | _ => mats s
theorem autF_0 (a e : List Int) (s : List (List (List Int))) : autF a e s 0 = ints a := rfl
theorem autF_1 (a e : List Int) (s : List (List (List Int))) : autF a e s 1 = ints e := rfl
theorem autF_2 (a e : List Int) (s : List (List (List Int))) : autF a e s 2 = mats s := rfl
abbrev autV (a e : List Int) (s : List (List (List Int))) : V := .agg 3 (autF a e s)

def costB (n : Int) : Bool := n == 1000000000 || inB n (-1000) 1000
theorem costB_num {n : Int} (h : costB n = true) : numB n = true := by
  unfold costB at h
  simp only [Bool.or_eq_true, beq_iff_eq] at h
  rcases h with h | h
  · exact numB_inf h
  · have := inB_true.1 h
    exact numB_fin (by omega)
def costsB (l : List Int) : Bool := allN l.length fun i => costB (l.getD i 0)
theorem costsB_nums {l : List Int} (h : costsB l = true) : numsB l = true := allN_true fun j hj => costB_num (allN_iff.1 h j hj)
def costV (l : List Int) (n : Nat) : Bool := costsB l && (l.length == n)
/-- All rows are lists of n costs. -/
def costM (m : List (List Int)) (n : Nat) : Bool := (m.length == n) && allN m.length fun i => costV (rowAt m i) n
theorem costM_len {m : List (List Int)} {n : Nat} (h : ¬ (m.length : Int) = n) : costM m n = false := by
  have : (m.length == n) = false := by simp; omega
  unfold costM; rw [this]; rfl
theorem costM_no {m : List (List Int)} {n k : Nat} (hk : k < m.length) (h : costV (rowAt m k) n = false) : costM m n = false := by unfold costM; rw [allN_false hk h, Bool.and_false]
theorem costM_yes {m : List (List Int)} {n : Nat} (h : (m.length : Int) = n) (h2 : ∀ k, k < m.length → costV (rowAt m k) n = true) : costM m n = true := by
  have : (m.length == n) = true := by simp; omega
  unfold costM; rw [this, allN_true h2]; rfl
/-- The program's words: a square matrix of n rows, all rows costs. -/
theorem costM_sq {m : List (List Int)} {n : Nat} (hn : 1 ≤ n ∧ n ≤ 6) : costM m n = (squB m && ((m.length : Int) == (n : Int)) && !anyN m.length fun i => !costsB (rowAt m i)) := by
  have key : costM m n = true ↔ (squB m && ((m.length : Int) == (n : Int)) && !anyN m.length fun i => !costsB (rowAt m i)) = true := by
    unfold anyN
    simp only [Bool.and_eq_true, Bool.not_not, beq_iff_eq, allN_iff, Bool.not_eq_true', Bool.not_eq_false']
    constructor
    · intro h
      unfold costM at h
      simp only [Bool.and_eq_true, beq_iff_eq, allN_iff] at h
      obtain ⟨hl, hr⟩ := h
      have hrow : ∀ k, k < m.length → costsB (rowAt m k) = true ∧ (rowAt m k).length = n := fun k hk => by
        have := hr k hk
        unfold costV at this
        simpa using this
      have h0 := hrow 0 (by omega)
      refine ⟨⟨?_, by omega⟩, fun k hk => (hrow k hk).1⟩
      unfold squB matB mrowB vecB
      simp only [Bool.and_eq_true, beq_iff_eq, allN_iff, inB_true]
      refine ⟨⟨by omega, fun k hk => ⟨⟨by have := (hrow k hk).2; omega, costsB_nums (hrow k hk).1⟩, by rw [(hrow k hk).2, h0.2]⟩⟩, by omega⟩
    · rintro ⟨⟨hsq, hl⟩, hr⟩
      unfold squB matB mrowB at hsq
      simp only [Bool.and_eq_true, beq_iff_eq, allN_iff] at hsq
      obtain ⟨⟨_, hm⟩, h0⟩ := hsq
      exact costM_yes hl fun k hk => by
        unfold costV
        rw [hr k hk, (hm k hk).2, ← h0]
        simp; omega
  cases e1 : costM m n <;> cases e2 : (squB m && ((m.length : Int) == (n : Int)) && !anyN m.length fun i => !costsB (rowAt m i)) <;> simp_all
def autB (a e : List Int) (s : List (List (List Int))) : Bool := inB a.length 1 6 && costsB a && costV e a.length && inB s.length 1 3 && allN s.length fun i => costM (matAt s i) a.length
theorem autB_1 {a e : List Int} {s : List (List (List Int))} (h : inB a.length 1 6 = false) : autB a e s = false := by unfold autB; rw [h]; rfl
theorem autB_2 {a e : List Int} {s : List (List (List Int))} (h : costsB a = false) : autB a e s = false := by unfold autB; rw [h, Bool.and_false]; rfl
theorem autB_3 {a e : List Int} {s : List (List (List Int))} (h : costV e a.length = false) : autB a e s = false := by unfold autB; rw [h, Bool.and_false]; rfl
theorem autB_4 {a e : List Int} {s : List (List (List Int))} (h : inB s.length 1 3 = false) : autB a e s = false := by unfold autB; rw [h, Bool.and_false]; rfl
theorem autB_5 {a e : List Int} {s : List (List (List Int))} {k : Nat} (hk : k < s.length) (h : costM (matAt s k) a.length = false) : autB a e s = false := by unfold autB; rw [allN_false hk h, Bool.and_false]
theorem autB_yes {a e : List Int} {s : List (List (List Int))} (h1 : inB a.length 1 6 = true) (h2 : costsB a = true) (h3 : costV e a.length = true) (h4 : inB s.length 1 3 = true) (h5 : ∀ k, k < s.length → costM (matAt s k) a.length = true) : autB a e s = true := by
  unfold autB; rw [h1, h2, h3, h4, allN_true h5]; rfl
theorem costV_len {l : List Int} {n : Nat} (h : ¬ (l.length : Int) = n) : costV l n = false := by
  have : (l.length == n) = false := by simp; omega
  unfold costV; rw [this, Bool.and_false]
theorem costV_no {l : List Int} {n : Nat} (h : costsB l = false) : costV l n = false := by unfold costV; rw [h]; rfl
theorem costV_yes {l : List Int} {n : Nat} (h : costsB l = true) (h2 : (l.length : Int) = n) : costV l n = true := by
  have : (l.length == n) = true := by simp; omega
  unfold costV; rw [h, this]; rfl
theorem costV_is {l : List Int} {n : Nat} (h : costsB l = true) : costV l n = ((l.length : Int) == (n : Int)) := by
  unfold costV; rw [h, Bool.true_and]
  by_cases e : l.length = n
  · rw [e]; simp
  · rw [beq_eq_false_iff_ne.2 e, beq_eq_false_iff_ne.2 (by omega)]

theorem costV_self (l : List Int) : costV l l.length = costsB l := by unfold costV; simp

end Go.Proofs.Ytfgpmjboplollaa
