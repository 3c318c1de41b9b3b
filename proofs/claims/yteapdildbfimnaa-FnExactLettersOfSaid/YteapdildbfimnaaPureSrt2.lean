/- Heaps and parts of rows of numbers. No conditions. -/
import Derived.Test.YteapdildbfimnaaPureSrt
namespace Go.Proofs.Yteapdildbfimnaa
set_option linter.unusedSimpArgs false
set_option linter.unusedVariables false

/-- Node k of the heap of hi numbers that begins at f is not less than its children. -/
def HpAt (f hi : Nat) (d : Nat → Int) (k : Nat) : Prop := ∀ c, (c = 2 * k + 1 ∨ c = 2 * k + 2) → c < hi → d (f + c) ≤ d (f + k)
/-- All nodes from lo on are so but r, and what stands under r is not greater than what stands over it. -/
structure HpX (f lo hi r : Nat) (d : Nat → Int) : Prop where
  oth : ∀ k, lo ≤ k → k ≠ r → HpAt f hi d k
  two : ∀ p, lo ≤ p → (r = 2 * p + 1 ∨ r = 2 * p + 2) → ∀ c, (c = 2 * r + 1 ∨ c = 2 * r + 2) → c < hi → d (f + c) ≤ d (f + p)
theorem HpX.start {f lo hi : Nat} {d : Nat → Int} (h : ∀ k, lo < k → HpAt f hi d k) : HpX f lo hi lo d := ⟨fun k h1 h2 => h k (by omega), fun p h1 h2 => by omega⟩
theorem HpX.done {f lo hi r : Nat} {d : Nat → Int} (h : HpX f lo hi r d) (hr : HpAt f hi d r) : ∀ k, lo ≤ k → HpAt f hi d k := fun k hk => by
  by_cases e : k = r
  · rw [e]; exact hr
  · exact h.oth k hk e
theorem HpX.step {f lo hi r c : Nat} {d : Nat → Int} (h : HpX f lo hi r d) (hlo : lo ≤ r) (hc : c = 2 * r + 1 ∨ c = 2 * r + 2) (hch : c < hi) (hlt : d (f + r) ≤ d (f + c)) (hmax : ∀ s, (s = 2 * r + 1 ∨ s = 2 * r + 2) → s < hi → d (f + s) ≤ d (f + c)) : HpX f lo hi c (swF d (f + r) (f + c)) := by
  have sr : swF d (f + r) (f + c) (f + r) = d (f + c) := if_pos rfl
  have sc' : swF d (f + r) (f + c) (f + c) = d (f + r) := by unfold swF; rw [if_neg (by omega), if_pos rfl]
  have so : ∀ k, k ≠ r → k ≠ c → swF d (f + r) (f + c) (f + k) = d (f + k) := fun k h1 h2 => by unfold swF; rw [if_neg (by omega), if_neg (by omega)]
  refine ⟨fun k hk hkc s hs hsh => ?_, fun p hp hcp s hs hsh => ?_⟩
  · by_cases hkr : k = r
    · subst hkr
      rw [sr]
      by_cases hsc : s = c
      · subst hsc; rw [sc']; exact hlt
      · rw [so s (by omega) hsc]; exact hmax s hs hsh
    · rw [so k hkr hkc]
      by_cases hsr : s = r
      · subst hsr
        rw [sr]
        exact h.two k hk hs c hc hch
      · by_cases hsc : s = c
        · subst hsc
          omega
        · rw [so s hsr hsc]
          exact h.oth k hk hkr s hs hsh
  · have hpr : p = r := by omega
    subst hpr
    rw [sr, so s (by omega) (by omega)]
    exact h.oth c (by omega) (by omega) s hs hsh
theorem heap_root {f hi : Nat} {d : Nat → Int} (h : ∀ k, HpAt f hi d k) : ∀ k, k < hi → d (f + k) ≤ d f := by
  intro k
  induction k using Nat.strongRecOn with
  | _ k ih =>
    intro hk
    by_cases e : k = 0
    · subst e; exact Int.le_refl _
    · have h1 := h ((k - 1) / 2) k (by omega) hk
      exact Int.le_trans h1 (ih ((k - 1) / 2) (by omega) (by omega))
/-- The second half of a heap sort. -/
structure HpS (f hi j : Nat) (d : Nat → Int) : Prop where
  hp : ∀ k, HpAt f j d k
  suf : ∀ p q, p < q → q < hi → j ≤ q → d (f + p) ≤ d (f + q)
theorem HpS.start {f hi : Nat} {d : Nat → Int} (h : ∀ k, HpAt f hi d k) : HpS f hi hi d := ⟨h, fun p q h1 h2 h3 => by omega⟩
theorem HpS.swap {f hi j : Nat} {d : Nat → Int} (h : HpS f hi (j + 1) d) : ∀ k, 0 < k → HpAt f j (swF d f (f + j)) k := fun k hk c hc hcj => by
  have so : ∀ k, 0 < k → k < j → swF d f (f + j) (f + k) = d (f + k) := fun k h1 h2 => by unfold swF; rw [if_neg (by omega), if_neg (by omega)]
  rw [so c (by omega) hcj, so k hk (by omega)]
  exact h.hp k c hc (by omega)
theorem HpS.step {f hi j : Nat} {d e : Nat → Int} (h : HpS f hi (j + 1) d) (hj : j < hi) (hpm : Pm f (f + j) (swF d f (f + j)) e) (hp : ∀ k, HpAt f j e k) : HpS f hi j e := by
  refine ⟨hp, fun p q h1 h2 h3 => ?_⟩
  have hroot := heap_root h.hp
  have eq' : ∀ q, j ≤ q → e (f + q) = swF d f (f + j) (f + q) := fun q hq => hpm.out (f + q) (by omega)
  have ej : swF d f (f + j) (f + j) = d f := by
    unfold swF
    by_cases e0 : f + j = f
    · rw [if_pos e0, e0]
    · rw [if_neg e0, if_pos rfl]
  have sq : ∀ q, j < q → swF d f (f + j) (f + q) = d (f + q) := fun q hq => by unfold swF; rw [if_neg (by omega), if_neg (by omega)]
  have bnd : ∀ p, p ≤ j → ∃ r, r ≤ j ∧ swF d f (f + j) (f + p) = d (f + r) := fun p hp => by
    unfold swF
    split
    · exact ⟨j, Nat.le_refl _, rfl⟩
    · split
      · exact ⟨0, by omega, rfl⟩
      · exact ⟨p, hp, rfl⟩
  by_cases hq : q = j
  · subst hq
    rw [eq' q (Nat.le_refl _), ej]
    obtain ⟨r, r1, r2, r3⟩ := hpm.mem (f + p) (by omega) (by omega)
    obtain ⟨s, s1, s2⟩ := bnd (r - f) (by omega)
    rw [r3, show r = f + (r - f) by omega, s2]
    exact hroot s (by omega)
  · rw [eq' q h3, sq q (by omega)]
    by_cases hpj : p < j
    · obtain ⟨r, r1, r2, r3⟩ := hpm.mem (f + p) (by omega) (by omega)
      obtain ⟨s, s1, s2⟩ := bnd (r - f) (by omega)
      rw [r3, show r = f + (r - f) by omega, s2]
      exact h.suf s q (by omega) h2 (by omega)
    · rw [eq' p (by omega)]
      by_cases hpe : p = j
      · subst hpe
        rw [ej]
        have := h.suf 0 q (by omega) h2 (by omega)
        simpa using this
      · rw [sq p (by omega)]
        exact h.suf p q h1 h2 (by omega)

/-- Pairs of which one stands left of a' or right of b' are in order. -/
def Sp (a b a' b' : Nat) (d : Nat → Int) : Prop := ∀ i j, a ≤ i → i < j → j < b → (i < a' ∨ b' ≤ j) → d i ≤ d j
theorem Sp.start (a b : Nat) (d : Nat → Int) : Sp a b a b d := fun i j h1 h2 h3 h4 => by omega
theorem Sp.perm {a b a' b' : Nat} {d e : Nat → Int} (h : Sp a b a' b' d) (ha : a ≤ a') (hb : b' ≤ b) (hpm : Pm a' b' d e) : Sp a b a' b' e := fun i j h1 h2 h3 h4 => by
  by_cases hi : a' ≤ i ∧ i < b'
  · obtain ⟨r, r1, r2, r3⟩ := hpm.mem i hi.1 hi.2
    rw [r3, hpm.out j (by omega)]
    exact h r j (by omega) (by omega) h3 (by omega)
  · rw [hpm.out i hi]
    by_cases hj : a' ≤ j ∧ j < b'
    · obtain ⟨r, r1, r2, r3⟩ := hpm.mem j hj.1 hj.2
      rw [r3]
      exact h i r h1 (by omega) (by omega) (by omega)
    · rw [hpm.out j hj]
      exact h i j h1 h2 h3 h4
theorem Sp.done {a b a' b' : Nat} {d : Nat → Int} (h : Sp a b a' b' d) (hs : Srt a' b' d) : Srt a b d := fun i j h1 h2 h3 => by
  by_cases h4 : i < a' ∨ b' ≤ j
  · exact h i j h1 h2 h3 h4
  · exact hs i j (by omega) h2 (by omega)
/-- What stands ahead is not greater. -/
def Ahd (a b : Nat) (d : Nat → Int) : Prop := 0 < a → ∀ i, a ≤ i → i < b → d (a - 1) ≤ d i
theorem Ahd.perm {a b : Nat} {d e : Nat → Int} (h : Ahd a b d) (hpm : Pm a b d e) : Ahd a b e := fun h0 i h1 h2 => by
  rw [hpm.out (a - 1) (by omega)]
  exact hpm.all (p := fun x => d (a - 1) ≤ x) (h h0) i h1 h2
theorem Sp.ahd {a b a' b' : Nat} {d : Nat → Int} (h : Sp a b a' b' d) (h0 : Ahd a b d) (ha : a ≤ a') (hb : b' ≤ b) : Ahd a' b' d := fun hp i h1 h2 => by
  by_cases e : a' = a
  · subst e; exact h0 hp i h1 (by omega)
  · exact h (a' - 1) i (by omega) (by omega) (by omega) (by omega)
/-- A part is put about m. -/
structure Prt (a m b : Nat) (d : Nat → Int) : Prop where
  lo : ∀ i, a ≤ i → i < m → d i ≤ d m
  hi : ∀ i, m < i → i < b → d m ≤ d i
theorem Sp.left {a b a' b' m : Nat} {d e : Nat → Int} (h : Sp a b a' b' d) (ha : a ≤ a') (hb : b' ≤ b) (hm : a' ≤ m ∧ m < b') (hp : Prt a' m b' d) (hpm : Pm a' m d e) (hs : Srt a' m e) : Sp a b (m + 1) b' e := fun i j h1 h2 h3 h4 => by
  have hsp := h.perm ha hb (hpm.widen (Nat.le_refl _) (by omega))
  by_cases h5 : i < a' ∨ b' ≤ j
  · exact hsp i j h1 h2 h3 h5
  · have hi : i < m + 1 := by omega
    by_cases hj : j < m
    · exact hs i j (by omega) h2 hj
    · have ejm : e m = d m := hpm.out m (by omega)
      by_cases hjm : j = m
      · subst hjm
        rw [ejm]
        exact hpm.all (p := fun x => x ≤ d j) hp.lo i (by omega) (by omega)
      · have e2 : e j = d j := hpm.out j (by omega)
        have h6 := hp.hi j (by omega) (by omega)
        by_cases him : i = m
        · subst him; rw [ejm, e2]; exact h6
        · have := hpm.all (p := fun x => x ≤ d m) hp.lo i (by omega) (by omega)
          rw [e2]; exact Int.le_trans this h6
theorem Sp.right {a b a' b' m : Nat} {d e : Nat → Int} (h : Sp a b a' b' d) (ha : a ≤ a') (hb : b' ≤ b) (hm : a' ≤ m ∧ m < b') (hp : Prt a' m b' d) (hpm : Pm (m + 1) b' d e) (hs : Srt (m + 1) b' e) : Sp a b a' m e := fun i j h1 h2 h3 h4 => by
  have hsp := h.perm ha hb (hpm.widen (by omega) (Nat.le_refl _))
  by_cases h5 : i < a' ∨ b' ≤ j
  · exact hsp i j h1 h2 h3 h5
  · have hj : m ≤ j := by omega
    have ejm : e m = d m := hpm.out m (by omega)
    by_cases hi : m < i
    · exact hs i j (by omega) h2 (by omega)
    · by_cases hjm : j = m
      · subst hjm
        rw [ejm, hpm.out i (by omega)]
        exact hp.lo i (by omega) (by omega)
      · have h6 := hpm.all (p := fun x => d m ≤ x) (fun i h1 h2 => hp.hi i (by omega) h2) j (by omega) (by omega)
        by_cases him : i = m
        · subst him; rw [ejm]; exact h6
        · rw [hpm.out i (by omega)]
          exact Int.le_trans (hp.lo i (by omega) (by omega)) h6
theorem Prt.ahd {a m b : Nat} {d : Nat → Int} (hp : Prt a m b d) : Ahd (m + 1) b d := fun _ i h1 h2 => hp.hi i (by omega) h2
theorem Ahd.short {a b c : Nat} {d : Nat → Int} (h : Ahd a b d) (hc : c ≤ b) : Ahd a c d := fun h0 i h1 h2 => h h0 i h1 (by omega)
/-- Equal ones left of m. -/
theorem Sp.equal {a b a' b' m : Nat} {d e : Nat → Int} {p : Int} (h : Sp a b a' b' d) (ha : a ≤ a') (hb : b' ≤ b) (hpm : Pm a' b' d e) (hm : a' ≤ m ∧ m ≤ b') (hlo : ∀ i, a' ≤ i → i < m → e i ≤ p) (hge : ∀ i, a' ≤ i → i < b' → p ≤ e i) : Sp a b m b' e := fun i j h1 h2 h3 h4 => by
  by_cases h5 : i < a' ∨ b' ≤ j
  · exact h.perm ha hb hpm i j h1 h2 h3 h5
  · exact Int.le_trans (hlo i (by omega) (by omega)) (hge j (by omega) (by omega))
/-- Between two marks nothing is known; left of i what is less than the first, from j on what is not. -/
structure Pt (a b i j : Nat) (d : Nat → Int) : Prop where
  lo : ∀ k, a < k → k < i → d k < d a
  hi : ∀ k, j ≤ k → k < b → d a ≤ d k
  h1 : a + 1 ≤ i
  h2 : i ≤ j
  h3 : j ≤ b
theorem Pt.right {a b i j : Nat} {d : Nat → Int} (h : Pt a b i j d) (hij : i < j) (hl : d i < d a) : Pt a b (i + 1) j d :=
  ⟨fun k h1 h2 => by by_cases e : k = i
                     · rw [e]; exact hl
                     · exact h.lo k h1 (by omega), h.hi, by have := h.h1; omega, by omega, h.h3⟩
theorem Pt.left {a b i j : Nat} {d : Nat → Int} (h : Pt a b i j d) (hij : i < j) (hl : d a ≤ d (j - 1)) : Pt a b i (j - 1) d :=
  ⟨h.lo, fun k h1 h2 => by by_cases e : k = j - 1
                           · rw [e]; exact hl
                           · exact h.hi k (by omega) h2, h.h1, by omega, by have := h.h3; omega⟩
theorem Pt.swap {a b i j : Nat} {d : Nat → Int} (h : Pt a b i j d) (hij : i < j) (h1 : d a ≤ d i) (h2 : d (j - 1) < d a) : Pt a b (i + 1) (j - 1) (swF d i (j - 1)) := by
  have hne : i ≠ j - 1 := fun e => by rw [← e] at h2; omega
  have k1 := h.h1
  have k3 := h.h3
  have ea : swF d i (j - 1) a = d a := by unfold swF; rw [if_neg (by omega), if_neg (by omega)]
  refine ⟨fun k k1 k2 => ?_, fun k k1 k2 => ?_, by omega, by omega, by omega⟩
  · rw [ea]
    unfold swF
    split
    · exact h2
    · rw [if_neg (by omega)]; exact h.lo k k1 (by omega)
  · rw [ea]
    unfold swF
    rw [if_neg (by omega)]
    split
    · exact h1
    · exact h.hi k (by omega) k2
theorem Pt.fin {a b i : Nat} {d : Nat → Int} (h : Pt a b i i d) : Prt a (i - 1) b (swF d (i - 1) a) := by
  have k1 := h.h1
  have em : swF d (i - 1) a (i - 1) = d a := if_pos rfl
  refine ⟨fun k h1 h2 => ?_, fun k h1 h2 => ?_⟩
  · rw [em]
    unfold swF
    rw [if_neg (by omega)]
    split
    · exact Int.le_of_lt (h.lo (i - 1) (by omega) (by omega))
    · exact Int.le_of_lt (h.lo k (by omega) (by omega))
  · rw [em]
    unfold swF
    rw [if_neg (by omega), if_neg (by omega)]
    exact h.hi k (by omega) h2
/-- The same, equal ones to the left. -/
structure Pe (a b i j : Nat) (d : Nat → Int) : Prop where
  lo : ∀ k, a ≤ k → k < i → d k ≤ d a
  h1 : a + 1 ≤ i
  h2 : i ≤ j
  h3 : j ≤ b
theorem Pe.right {a b i j : Nat} {d : Nat → Int} (h : Pe a b i j d) (hij : i < j) (hl : d i ≤ d a) : Pe a b (i + 1) j d :=
  ⟨fun k h1 h2 => by by_cases e : k = i
                     · rw [e]; exact hl
                     · exact h.lo k h1 (by omega), by have := h.h1; omega, by omega, h.h3⟩
theorem Pe.swap {a b i j : Nat} {d : Nat → Int} (h : Pe a b i j d) (hij : i < j) (h1 : d a < d i) (h2 : d (j - 1) ≤ d a) : Pe a b (i + 1) (j - 1) (swF d i (j - 1)) := by
  have hne : i ≠ j - 1 := fun e => by rw [← e] at h2; omega
  have k1 := h.h1
  have k3 := h.h3
  have ea : swF d i (j - 1) a = d a := by unfold swF; rw [if_neg (by omega), if_neg (by omega)]
  refine ⟨fun k k1 k2 => ?_, by omega, by omega, by omega⟩
  rw [ea]
  unfold swF
  split
  · exact h2
  · rw [if_neg (by omega)]; exact h.lo k k1 (by omega)
end Go.Proofs.Yteapdildbfimnaa
