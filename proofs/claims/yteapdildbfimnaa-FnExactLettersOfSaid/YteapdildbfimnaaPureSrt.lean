/- Rows of numbers put into another order; sorted ones. No conditions. -/
import Derived.Test.YteapdildbfimnaaEngRw
import Derived.Test.YteapdildbfimnaaPureMx
namespace Go.Proofs.Yteapdildbfimnaa
set_option linter.unusedSimpArgs false
set_option linter.unusedVariables false

/-- How often x stands among the first n. -/
def cntF (d : Nat → Int) (x : Int) : Nat → Nat
  | 0 => 0
  | n + 1 => cntF d x n + if d n = x then 1 else 0
def upF (d : Nat → Int) (i : Nat) (v : Int) : Nat → Int := fun k => if k = i then v else d k
theorem cntF_congr {d d' : Nat → Int} {x : Int} : ∀ {n : Nat}, (∀ i, i < n → d i = d' i) → cntF d x n = cntF d' x n
  | 0, _ => rfl
  | n + 1, h => by rw [cntF, cntF, cntF_congr (n := n) fun i hi => h i (by omega), h n (by omega)]
theorem cntF_up {d : Nat → Int} {x v : Int} {i : Nat} : ∀ {n : Nat}, i < n → cntF (upF d i v) x n + (if d i = x then 1 else 0) = cntF d x n + (if v = x then 1 else 0)
  | 0, h => by omega
  | n + 1, h => by
    by_cases e : i = n
    · subst e
      have : cntF (upF d i v) x i = cntF d x i := cntF_congr fun k hk => by unfold upF; rw [if_neg (by omega)]
      have e2 : upF d i v i = v := if_pos rfl
      rw [cntF, cntF, this, e2]; omega
    · have := cntF_up (d := d) (x := x) (v := v) (i := i) (n := n) (by omega)
      have e2 : upF d i v n = d n := if_neg (by omega)
      rw [cntF, cntF, e2]; omega
/-- Two exchanged. -/
def swF (d : Nat → Int) (i j : Nat) : Nat → Int := fun k => if k = i then d j else if k = j then d i else d k
theorem swF_cnt {d : Nat → Int} {x : Int} {i j n : Nat} (hi : i < n) (hj : j < n) : cntF (swF d i j) x n = cntF d x n := by
  by_cases e : i = j
  · subst e
    exact cntF_congr fun k _ => by
      unfold swF
      by_cases h : k = i
      · subst h; simp
      · simp [h]
  · have e1 : swF d i j = upF (upF d j (d i)) i (d j) := rfl
    have h1 := cntF_up (d := upF d j (d i)) (x := x) (v := d j) hi
    have h2 := cntF_up (d := d) (x := x) (v := d i) hj
    have e2 : upF d j (d i) i = d i := if_neg e
    rw [e1]
    rw [e2] at h1
    omega
/-- d' is d with the numbers from a to b in another order. -/
structure Pm (a b : Nat) (d d' : Nat → Int) : Prop where
  out : ∀ i, ¬ (a ≤ i ∧ i < b) → d' i = d i
  cnt : ∀ x n, b ≤ n → cntF d' x n = cntF d x n
  mem : ∀ i, a ≤ i → i < b → ∃ j, a ≤ j ∧ j < b ∧ d' i = d j
theorem Pm.refl (a b : Nat) (d : Nat → Int) : Pm a b d d := ⟨fun _ _ => rfl, fun _ _ _ => rfl, fun i h1 h2 => ⟨i, h1, h2, rfl⟩⟩
theorem Pm.trans {a b : Nat} {d e f : Nat → Int} (h : Pm a b d e) (k : Pm a b e f) : Pm a b d f :=
  ⟨fun i hi => (k.out i hi).trans (h.out i hi), fun x n hn => (k.cnt x n hn).trans (h.cnt x n hn), fun i h1 h2 => by
    obtain ⟨j, j1, j2, e1⟩ := k.mem i h1 h2
    obtain ⟨l, l1, l2, e2⟩ := h.mem j j1 j2
    exact ⟨l, l1, l2, e1.trans e2⟩⟩
theorem Pm.widen {a b a' b' : Nat} {d e : Nat → Int} (h : Pm a b d e) (ha : a' ≤ a) (hb : b ≤ b') : Pm a' b' d e :=
  ⟨fun i hi => h.out i (by omega), fun x n hn => h.cnt x n (by omega), fun i h1 h2 => by
    by_cases hi : a ≤ i ∧ i < b
    · obtain ⟨j, j1, j2, e1⟩ := h.mem i hi.1 hi.2
      exact ⟨j, by omega, by omega, e1⟩
    · exact ⟨i, h1, h2, h.out i hi⟩⟩
theorem Pm.sw {a b i j : Nat} (d : Nat → Int) (hi : a ≤ i ∧ i < b) (hj : a ≤ j ∧ j < b) : Pm a b d (swF d i j) :=
  ⟨fun k hk => by unfold swF; rw [if_neg (by omega), if_neg (by omega)], fun x n hn => swF_cnt (by omega) (by omega), fun k h1 h2 => by
    unfold swF
    split
    · exact ⟨j, hj.1, hj.2, rfl⟩
    · split
      · exact ⟨i, hi.1, hi.2, rfl⟩
      · exact ⟨k, h1, h2, rfl⟩⟩
/-- From a to b in order. -/
def Srt (a b : Nat) (d : Nat → Int) : Prop := ∀ i j, a ≤ i → i < j → j < b → d i ≤ d j
theorem Srt.short {a b : Nat} {d : Nat → Int} (h : b ≤ a + 1) : Srt a b d := fun i j h1 h2 h3 => by omega
theorem Srt.congr {a b : Nat} {d e : Nat → Int} (h : Srt a b d) (hd : ∀ i, a ≤ i → i < b → e i = d i) : Srt a b e := fun i j h1 h2 h3 => by
  rw [hd i h1 (by omega), hd j (by omega) h3]; exact h i j h1 h2 h3
/-- All from a to b are p: so they are in another order. -/
theorem Pm.all {a b : Nat} {d e : Nat → Int} {p : Int → Prop} (h : Pm a b d e) (hp : ∀ i, a ≤ i → i < b → p (d i)) : ∀ i, a ≤ i → i < b → p (e i) := fun i h1 h2 => by
  obtain ⟨j, j1, j2, e1⟩ := h.mem i h1 h2
  rw [e1]; exact hp j j1 j2
/-- Left of m what is less, at m and right of it what is not: the parts sorted, all is sorted. -/
theorem Srt.glue {a b m : Nat} {d : Nat → Int} (h1 : Srt a m d) (h2 : Srt (m + 1) b d) (hl : ∀ i, a ≤ i → i < m → d i ≤ d m) (hr : ∀ i, m < i → i < b → d m ≤ d i) : Srt a b d := fun i j hi hij hj => by
  by_cases h3 : j < m
  · exact h1 i j hi hij h3
  · by_cases h4 : i < m
    · have := hl i hi h4
      by_cases h5 : j = m
      · rw [h5]; exact this
      · exact Int.le_trans this (hr j (by omega) hj)
    · by_cases h5 : i = m
      · rw [h5]; exact hr j (by omega) hj
      · exact h2 i j (by omega) hij hj
/-- Inserting: all but j in order, those behind j are not less. -/
structure Ins (a i j : Nat) (d : Nat → Int) : Prop where
  srt : ∀ p q, a ≤ p → p < q → q ≤ i → p ≠ j → q ≠ j → d p ≤ d q
  up : ∀ q, j < q → q ≤ i → d j ≤ d q
theorem Ins.start {a i : Nat} {d : Nat → Int} (h : Srt a i d) : Ins a i i d := ⟨fun p q h1 h2 h3 h4 h5 => h p q h1 h2 (by omega), fun q h1 h2 => by omega⟩
theorem Ins.step {a i j : Nat} {d : Nat → Int} (h : Ins a i j d) (hj : a < j) (hji : j ≤ i) (hlt : d j < d (j - 1)) : Ins a i (j - 1) (swF d j (j - 1)) := by
  have sj : swF d j (j - 1) j = d (j - 1) := if_pos rfl
  have sj1 : swF d j (j - 1) (j - 1) = d j := by unfold swF; rw [if_neg (by omega), if_pos rfl]
  have so : ∀ k, k ≠ j → k ≠ j - 1 → swF d j (j - 1) k = d k := fun k h1 h2 => by unfold swF; rw [if_neg h1, if_neg h2]
  refine ⟨fun p q h1 h2 h3 h4 h5 => ?_, fun q h1 h2 => ?_⟩
  · by_cases hp : p = j
    · subst hp
      rw [sj, so q (by omega) h5]
      exact h.srt (p - 1) q (by omega) (by omega) h3 (by omega) (by omega)
    · by_cases hq : q = j
      · subst hq
        rw [sj, so p hp h4]
        exact h.srt p (q - 1) h1 (by omega) (by omega) hp (by omega)
      · rw [so p hp h4, so q hq h5]
        exact h.srt p q h1 h2 h3 hp hq
  · rw [sj1]
    by_cases hq : q = j
    · subst hq; rw [sj]; omega
    · rw [so q hq (by omega)]
      exact h.up q (by omega) h2
theorem Ins.done {a i j : Nat} {d : Nat → Int} (h : Ins a i j d) (hd : j = a ∨ d (j - 1) ≤ d j) (hja : a ≤ j) (hji : j ≤ i) : Srt a (i + 1) d := fun p q h1 h2 h3 => by
  by_cases hp : p = j
  · subst hp; exact h.up q h2 (by omega)
  · by_cases hq : q = j
    · subst hq
      rcases hd with hd | hd
      · omega
      · by_cases e : p = q - 1
        · rw [e]; exact hd
        · exact Int.le_trans (h.srt p (q - 1) h1 (by omega) (by omega) hp (by omega)) hd
    · exact h.srt p q h1 h2 (by omega) hp hq

abbrev vuF (d : Nat → Int) : Nat → V := fun i => vu (d i)
/-- The cells hold some d' of which p holds; nothing comes back. -/
def unitR (p : (Nat → Int) → Prop) (D' : Nat → V) (v : Value) : Prop := ∃ d', D' = vuF d' ∧ p d' ∧ v = .tuple #[]
end Go.Proofs.Yteapdildbfimnaa
