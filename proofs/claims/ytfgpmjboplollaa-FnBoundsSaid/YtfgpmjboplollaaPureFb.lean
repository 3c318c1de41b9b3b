/- Laws on bounds, in plain words. No conditions. -/
import Derived.Test.YtfgpmjboplollaaPure
namespace Go.Proofs.Ytfgpmjboplollaa
set_option linter.unusedSimpArgs false
set_option linter.unusedVariables false

/-- Is x in l? -/
def hasL (l : List Int) (x : Int) : Bool := !allN l.length fun j => !(l.getD j 0 == x)
theorem hasL_at {l : List Int} {x : Int} {j : Nat} (hj : j < l.length) (h : l.getD j 0 = x) : hasL l x = true := by
  unfold hasL; rw [allN_false hj (by rw [h]; simp)]; rfl
theorem hasL_no {l : List Int} {x : Int} (h : ∀ j, j < l.length → ¬ l.getD j 0 = x) : hasL l x = false := by
  unfold hasL; rw [allN_true fun j hj => by simpa using h j hj]; rfl
theorem hasL_mem {l : List Int} {x : Int} (h : x ∈ l) : hasL l x = true := by
  obtain ⟨j, hj, e⟩ := List.mem_iff_getElem.1 h
  exact hasL_at hj (by simp [List.getD, hj, e])
theorem getD_mem {l : List Int} {j : Nat} (hj : j < l.length) : l.getD j 0 ∈ l := by
  have : l.getD j 0 = l[j] := by simp [List.getD, hj]
  rw [this]; exact List.getElem_mem hj

theorem mem_selL {n : Nat} {a b : Nat → Int} {x : Int} : ∀ {m : Nat}, x ∈ selL n a b m → ∃ i : Nat, i < m ∧ x = i ∧ selB n a b i = true
  | 0, h => by simp [selL] at h
  | m + 1, h => by
    cases e : selB n a b m with
    | true =>
      rw [selL_yes e] at h
      rcases List.mem_append.1 h with h | h
      · obtain ⟨i, h1, h2⟩ := mem_selL h; exact ⟨i, by omega, h2⟩
      · exact ⟨m, by omega, by simpa using h, e⟩
    | false =>
      rw [selL_no e] at h
      obtain ⟨i, h1, h2⟩ := mem_selL h; exact ⟨i, by omega, h2⟩
theorem selL_mem {n : Nat} {a b : Nat → Int} {i : Nat} : ∀ {m : Nat}, i < m → selB n a b i = true → (i : Int) ∈ selL n a b m
  | 0, h, _ => by omega
  | m + 1, h, hs => by
    by_cases e : i = m
    · subst e; rw [selL_yes hs]; simp
    · have := selL_mem (m := m) (by omega) hs
      cases e2 : selB n a b m with
      | true => rw [selL_yes e2]; exact List.mem_append_left _ this
      | false => rw [selL_no e2]; exact this
theorem selB_iff {n : Nat} {a b : Nat → Int} {i : Nat} : selB n a b i = true ↔ a i ≠ 1000000000 ∧ ∀ k, k < n → k ≠ i → a i ≤ b k := by
  unfold selB
  simp only [Bool.and_eq_true, bne_iff_ne, allN_iff, Bool.or_eq_true, beq_iff_eq, decide_eq_true_eq]
  refine and_congr Iff.rfl ⟨fun h k hk hne => (h k hk).resolve_left hne, fun h k hk => ?_⟩
  by_cases e : k = i
  · exact .inl e
  · exact .inr (h k hk e)

/-- The places below m where g is v. -/
def plcL (g : Nat → Int) (v : Int) : Nat → List Int
  | 0 => []
  | m + 1 => if g m = v then plcL g v m ++ [(m : Int)] else plcL g v m
theorem plcL_yes {g : Nat → Int} {v : Int} {m : Nat} (h : g m = v) : plcL g v (m + 1) = plcL g v m ++ [(m : Int)] := by show (if _ then _ else _) = _; rw [if_pos h]
theorem plcL_no {g : Nat → Int} {v : Int} {m : Nat} (h : ¬ g m = v) : plcL g v (m + 1) = plcL g v m := by show (if _ then _ else _) = _; rw [if_neg h]
theorem plcL_len (g : Nat → Int) (v : Int) : ∀ m, (plcL g v m).length ≤ m
  | 0 => Nat.le_refl _
  | m + 1 => by
    have := plcL_len g v m
    by_cases e : g m = v
    · rw [plcL_yes e]; simp; omega
    · rw [plcL_no e]; omega
theorem mem_plcL {g : Nat → Int} {v x : Int} : ∀ {m : Nat}, x ∈ plcL g v m → ∃ i : Nat, i < m ∧ x = i ∧ g i = v
  | 0, h => by simp [plcL] at h
  | m + 1, h => by
    by_cases e : g m = v
    · rw [plcL_yes e] at h
      rcases List.mem_append.1 h with h | h
      · obtain ⟨i, h1, h2⟩ := mem_plcL h; exact ⟨i, by omega, h2⟩
      · exact ⟨m, by omega, by simpa using h, e⟩
    · rw [plcL_no e] at h
      obtain ⟨i, h1, h2⟩ := mem_plcL h; exact ⟨i, by omega, h2⟩
theorem plcL_mem {g : Nat → Int} {v : Int} {i : Nat} (h : g i = v) : ∀ {m : Nat}, i < m → (i : Int) ∈ plcL g v m
  | 0, hm => by omega
  | m + 1, hm => by
    by_cases e : i = m
    · subst e; rw [plcL_yes h]; simp
    · have := plcL_mem h (m := m) (by omega)
      by_cases e2 : g m = v
      · rw [plcL_yes e2]; exact List.mem_append_left _ this
      · rw [plcL_no e2]; exact this
def ltR (l : List Int) (x : Int) : List Int × Bool := if (valR l x).2 then (plcL (termL l x) (valR l x).1 l.length, true) else ([], false)
theorem ltR_no {l : List Int} {x : Int} (h : (valR l x).2 = false) : ltR l x = ([], false) := by unfold ltR; rw [h]; rfl
theorem ltR_yes {l : List Int} {x : Int} (h : (valR l x).2 = true) : ltR l x = (plcL (termL l x) (valR l x).1 l.length, true) := by unfold ltR; rw [h]; rfl

/-- The least is met. -/
theorem leastN_met (g : Nat → Int) : ∀ n, leastN g n = 1000000000 ∨ ∃ i, i < n ∧ leastN g n = g i
  | 0 => .inl rfl
  | n + 1 => by
    by_cases h : leastN g n < g n
    · rw [leastN_lt h]
      rcases leastN_met g n with h1 | ⟨i, h1, h2⟩
      · exact .inl h1
      · exact .inr ⟨i, by omega, h2⟩
    · rw [leastN_ge (by omega)]; exact .inr ⟨n, by omega, rfl⟩

/-- Terms of bounds. -/
theorem term_le {l h : List Int} {x : Int} (hb : boundsB l h = true) {i : Nat} (hi : i < l.length) : termL l x i ≤ termL h x i ∧ (termL h x i ≠ 1000000000 → l.getD i 0 ≠ 1000000000) := by
  have ok := okP_iff.1 (pairB_at hb hi)
  by_cases e : l.getD i 0 = 1000000000
  · have e2 := ok.2.1 e
    rw [termL_inf e, termL_inf e2]
    exact ⟨Int.le_refl _, fun h => absurd rfl h⟩
  · have e2 : ¬ h.getD i 0 = 1000000000 := fun q => e (ok.2.2 q)
    rw [termL_fin e, termL_fin e2]
    exact ⟨by omega, fun _ => e⟩
theorem term_small {l : List Int} {x : Int} (hp : polyB l = true) (hx : -1000000 ≤ x ∧ x ≤ 1000000) {i : Nat} (hi : i < l.length) (h : l.getD i 0 ≠ 1000000000) : termL l x i < 1000000000 := by
  have h1 := polyB_len hp
  have h3 := mul_bound (k := i) (x := x) (by omega) hx
  have h4 := numsB_get (polyB_nums hp) (j := i) hi
  simp only [numB, finB, Bool.or_eq_true, Bool.and_eq_true, decide_eq_true_eq, beq_iff_eq] at h4
  rw [termL_fin h]; omega

/-- A polynomial within bounds: its terms lie between. -/
structure Wit (l h p : List Int) : Prop where
  b : boundsB l h = true
  pol : polyB p = true
  len : p.length = l.length
  btw : ∀ j, j < l.length → l.getD j 0 ≤ p.getD j 0 ∧ p.getD j 0 ≤ h.getD j 0 ∧ (l.getD j 0 = 1000000000 ↔ p.getD j 0 = 1000000000)
theorem within_wit {l h p : List Int} (hw : withinB l h p = true) : Wit l h p := by
  unfold withinB at hw
  simp only [Bool.and_eq_true, beq_iff_eq] at hw
  obtain ⟨⟨⟨hb, hp⟩, hl⟩, ha⟩ := hw
  refine ⟨hb, hp, hl, fun j hj => ?_⟩
  have h1 := inB_true.1 (allN_iff.1 ha j (by omega))
  have ok := okP_iff.1 (pairB_at hb hj)
  have hn := numsB_get (polyB_nums hp) (j := j) (by omega)
  have hh := boundsB_num hb hj
  simp only [numB, finB, Bool.or_eq_true, Bool.and_eq_true, decide_eq_true_eq, beq_iff_eq] at hn
  have hnl := numsB_get (polyB_nums (boundsB_parts hb).1) (j := j) hj
  have hnh := numsB_get (polyB_nums (boundsB_parts hb).2.1) (j := j) (by have := (boundsB_parts hb).2.2; omega)
  simp only [numB, finB, Bool.or_eq_true, Bool.and_eq_true, decide_eq_true_eq, beq_iff_eq] at hnl hnh
  omega
theorem Wit.term {l h p : List Int} (w : Wit l h p) (x : Int) {i : Nat} (hi : i < l.length) : termL l x i ≤ termL p x i ∧ termL p x i ≤ termL h x i := by
  have h1 := w.btw i hi
  have ok := okP_iff.1 (pairB_at w.b hi)
  by_cases e : l.getD i 0 = 1000000000
  · rw [termL_inf e, termL_inf (ok.2.1 e), termL_inf (h1.2.2.1 e)]; omega
  · rw [termL_fin e, termL_fin (fun q => e (ok.2.2 q)), termL_fin (fun q => e (h1.2.2.2 q))]; omega
theorem Wit.least {l h p : List Int} (w : Wit l h p) (x : Int) : leastN (termL l x) l.length ≤ leastN (termL p x) p.length ∧ leastN (termL p x) p.length ≤ leastN (termL h x) h.length := by
  have hl := (boundsB_parts w.b).2.2
  rw [w.len, ← hl]
  have low : ∀ n, leastN (termL l x) n ≤ 1000000000 := fun n => by
    induction n with
    | zero => exact Int.le_refl _
    | succ n ih => show (if _ then _ else _) ≤ _; split <;> omega
  have lop : ∀ n, leastN (termL p x) n ≤ 1000000000 := fun n => by
    induction n with
    | zero => exact Int.le_refl _
    | succ n ih => show (if _ then _ else _) ≤ _; split <;> omega
  constructor
  · rcases leastN_met (termL p x) l.length with h1 | ⟨i, hi, h1⟩
    · rw [h1]; exact low _
    · rw [h1]; exact Int.le_trans (leastN_le _ _ _ hi) (w.term x hi).1
  · rcases leastN_met (termL h x) l.length with h1 | ⟨i, hi, h1⟩
    · rw [h1]; exact lop _
    · rw [h1]; exact Int.le_trans (leastN_le _ _ _ hi) (w.term x hi).2

theorem joinR_len1 (l h p : List Int) : (joinR l h p).1.length ≤ l.length ∧ (joinR l h p).2.1.length ≤ h.length := by
  unfold joinR
  split
  · simp
  · simp

theorem join_wit {l h p : List Int} (hj : (joinR l h p).2.2 = true) : withinB (joinR l h p).1 (joinR l h p).2.1 p = true ∧ withinB (joinR l h p).1 (joinR l h p).2.1 l = true ∧ withinB (joinR l h p).1 (joinR l h p).2.1 h = true ∧ boundsB (joinR l h p).1 (joinR l h p).2.1 = true ∧ polyB p = true ∧ polyB l = true ∧ polyB h = true := by
  unfold joinR at hj ⊢
  split at hj
  · rename_i hc
    rw [if_pos hc]
    simp only [Bool.and_eq_true, beq_iff_eq] at hc
    obtain ⟨⟨⟨hb, hp⟩, hl⟩, hi⟩ := hc
    have hbj := join_bounds hb hp hl
    rw [hi] at hbj
    have hparts := boundsB_parts hb
    refine ⟨?_, ?_, ?_, hbj, hp, hparts.1, hparts.2.1⟩
    · refine withinB_yes hbj hp (by simp; omega) fun j hj => inB_true.2 ?_
      show (minL l p).getD j 0 ≤ _ ∧ _ ≤ (maxL h p).getD j 0
      rw [minL_get (by omega), maxL_get (by omega)]
      exact ⟨Int.min_le_right _ _, Int.le_max_right _ _⟩
    · refine withinB_yes hbj hparts.1 (by simp) fun j hj => inB_true.2 ?_
      have ok := (okP_iff.1 (pairB_at hb hj)).1
      show (minL l p).getD j 0 ≤ _ ∧ _ ≤ (maxL h p).getD j 0
      rw [minL_get hj, maxL_get (by omega)]
      exact ⟨Int.min_le_left _ _, Int.le_trans ok (Int.le_max_left _ _)⟩
    · refine withinB_yes hbj hparts.2.1 (by simp; omega) fun j hj => inB_true.2 ?_
      have ok := (okP_iff.1 (pairB_at hb (j := j) (by omega))).1
      show (minL l p).getD j 0 ≤ _ ∧ _ ≤ (maxL h p).getD j 0
      rw [minL_get (by omega), maxL_get (by omega)]
      exact ⟨Int.le_trans (Int.min_le_left _ _) ok, Int.le_max_left _ _⟩
  · cases hj

theorem wid_at {l h : List Int} : ∀ k, ((wid l h k).2 = -1 ∧ (wid l h k).1 = 0 ∧ ∀ j, j < k → l.getD j 0 = 1000000000 ∨ h.getD j 0 - l.getD j 0 ≤ -1) ∨ ∃ i : Nat, i < k ∧ (wid l h k).1 = i ∧ (wid l h k).2 = h.getD i 0 - l.getD i 0
  | 0 => .inl ⟨rfl, rfl, fun j hj => by omega⟩
  | k + 1 => by
    by_cases h1 : l.getD k 0 = 1000000000
    · rw [wid_inf h1]
      rcases wid_at (l := l) (h := h) k with ⟨e1, e2, e3⟩ | ⟨i, e1, e2⟩
      · refine .inl ⟨e1, e2, fun j hj => ?_⟩
        by_cases e : j = k
        · subst e; exact .inl h1
        · exact e3 j (by omega)
      · exact .inr ⟨i, by omega, e2⟩
    · by_cases h2 : (wid l h k).2 < h.getD k 0 - l.getD k 0
      · rw [wid_yes h1 h2]; exact .inr ⟨k, by omega, rfl, rfl⟩
      · rw [wid_no (by omega)]
        rcases wid_at (l := l) (h := h) k with ⟨e1, e2, e3⟩ | ⟨i, e1, e2⟩
        · refine .inl ⟨e1, e2, fun j hj => ?_⟩
          by_cases e : j = k
          · subst e; exact .inr (by omega)
          · exact e3 j (by omega)
        · exact .inr ⟨i, by omega, e2⟩
theorem widR_at {l h : List Int} (hw : (widR l h).2.2 = true) : boundsB l h = true ∧ ∃ i : Nat, i < l.length ∧ (widR l h).1 = i ∧ (widR l h).2.1 = h.getD i 0 - l.getD i 0 := by
  unfold widR at hw ⊢
  split at hw
  · rename_i hc
    rw [if_pos hc]
    simp only [Bool.and_eq_true] at hc
    refine ⟨hc.1, ?_⟩
    rcases wid_at (l := l) (h := h) l.length with ⟨_, _, e3⟩ | h2
    · exfalso
      have h1 := boundsB_len hc.1
      have ll := polyB_last (boundsB_parts hc.1).1
      have ok := (okP_iff.1 (pairB_at hc.1 (j := l.length - 1) (by omega))).1
      rcases e3 (l.length - 1) (by omega) with e | e
      · exact ll e
      · omega
    · exact h2
  · cases hw

section
variable {l h : List Int} {x : Int}
theorem tR_mem {ok : Bool} {u v : List Int} {y : Int} (hy : y ∈ (tR ok u v x).1) : ok = true ∧ ∃ i : Nat, i < u.length ∧ y = i ∧ selB u.length (termL u x) (termL v x) i = true := by
  unfold tR at hy
  split at hy
  · rename_i hc; exact ⟨hc, mem_selL hy⟩
  · simp at hy
theorem tR_len (ok : Bool) (u v : List Int) (x : Int) : (tR ok u v x).1.length ≤ u.length := by
  unfold tR
  split
  · exact selL_len _ _ _ _
  · exact Nat.zero_le _
/-- Sure terms are possible. -/
theorem sure_possible {y : Int} (hy : y ∈ (tR (boundsB l h && finB x) h l x).1) : hasL (tR (boundsB l h && finB x) l h x).1 y = true := by
  obtain ⟨hc, i, hi, rfl, hs⟩ := tR_mem hy
  have hb : boundsB l h = true := by simp only [Bool.and_eq_true] at hc; exact hc.1
  have hl := (boundsB_parts hb).2.2
  have hs := selB_iff.1 hs
  unfold tR
  rw [if_pos hc]
  have t := fun (k : Nat) (hk : k < l.length) => term_le (x := x) hb hk
  refine hasL_mem (selL_mem (by omega) (selB_iff.2 ⟨?_, fun k hk hne => ?_⟩))
  · have := (t i (by omega)).2 hs.1
    have hx : -1000000 ≤ x ∧ x ≤ 1000000 := finB_true.1 (by simp only [Bool.and_eq_true] at hc; exact hc.2)
    have := term_small (boundsB_parts hb).1 hx (i := i) (by omega) this
    omega
  · have h1 := hs.2 k (by omega) hne
    have h2 := (t i (by omega)).1
    have h3 := (t k hk).1
    omega
/-- The value lies between. -/
theorem val_between {p : List Int} (w : withinB l h p = true) (hb : (bAtR l h x).2.2 = true) : (valR p x).2 = true ∧ (bAtR l h x).1 ≤ (valR p x).1 ∧ (valR p x).1 ≤ (bAtR l h x).2.1 := by
  have w := within_wit w
  have hb' := hb
  unfold bAtR at hb ⊢
  split at hb
  · rename_i hc
    rw [if_pos hc]
    simp only [Bool.and_eq_true] at hc
    obtain ⟨⟨h1, h2⟩, h3⟩ := hc
    rw [askedB_val] at h2 h3
    have a2 := askedB_poly h2
    have hl := w.least x
    have f2 : finB (leastN (termL l x) l.length) = true := by rw [← askedB_of a2.1 a2.2]; exact h2
    have a3 := askedB_poly h3
    have f3 : finB (leastN (termL h x) h.length) = true := by rw [← askedB_of a3.1 a3.2]; exact h3
    have f2 := finB_true.1 f2
    have f3 := finB_true.1 f3
    have ap : askedB p x = true := by rw [askedB_of w.pol a2.2]; exact finB_true.2 (by omega)
    refine ⟨by rw [askedB_val]; exact ap, ?_, ?_⟩
    · show (valR l x).1 ≤ _; rw [askedB_true h2, askedB_true ap]; exact hl.1
    · show _ ≤ (valR h x).1; rw [askedB_true h3, askedB_true ap]; exact hl.2
  · cases hb
theorem ltR_mem {p : List Int} {y : Int} (hy : y ∈ (ltR p x).1) : (valR p x).2 = true ∧ ∃ i : Nat, i < p.length ∧ y = i ∧ termL p x i = (valR p x).1 := by
  unfold ltR at hy
  split at hy
  · rename_i hc; exact ⟨hc, mem_plcL hy⟩
  · simp at hy
/-- Sure terms are least ones of each polynomial within. -/
theorem sure_least {p : List Int} {y : Int} (w : withinB l h p = true) (hv : (valR p x).2 = true) (hy : y ∈ (tR (boundsB l h && finB x) h l x).1) : hasL (ltR p x).1 y = true := by
  obtain ⟨hc, i, hi, rfl, hs⟩ := tR_mem hy
  have w := within_wit w
  have hl := (boundsB_parts w.b).2.2
  have hs := selB_iff.1 hs
  rw [ltR_yes hv]
  have ap : askedB p x = true := by rw [← askedB_val]; exact hv
  have hlen := w.len
  refine hasL_mem (plcL_mem ?_ (by omega))
  rw [askedB_true ap]
  have h1 := leastN_le (termL p x) p.length i (by omega)
  have h2 := (w.term x (i := i) (by omega)).2
  rcases leastN_met (termL p x) p.length with e | ⟨k, hk, e⟩
  · have h4 := (askedB_poly ap)
    have := least_small w.pol (finB_true.1 h4.2)
    omega
  · by_cases ek : k = i
    · subst ek; exact e.symm
    · have h3 := hs.2 k (by omega) ek
      have h4 := (w.term x (i := k) (by omega)).1
      omega
/-- The least ones of a polynomial within are possible. -/
theorem least_possible {p : List Int} {y : Int} (w : withinB l h p = true) (hx : finB x = true) (hy : y ∈ (ltR p x).1) : hasL (tR (boundsB l h && finB x) l h x).1 y = true := by
  obtain ⟨hv, i, hi, rfl, ht⟩ := ltR_mem hy
  have w := within_wit w
  have hl := (boundsB_parts w.b).2.2
  have hlen := w.len
  have ap : askedB p x = true := by rw [← askedB_val]; exact hv
  rw [askedB_true ap] at ht
  have hsm := least_small w.pol (finB_true.1 hx)
  unfold tR
  rw [if_pos (by rw [w.b, hx]; rfl)]
  refine hasL_mem (selL_mem (by omega) (selB_iff.2 ⟨?_, fun k hk hne => ?_⟩))
  · have := (w.term x (i := i) (by omega)).1
    omega
  · have h1 := (w.term x (i := i) (by omega)).1
    have h2 := leastN_le (termL p x) p.length k (by omega)
    have h3 := (w.term x (i := k) hk).2
    omega
end
end Go.Proofs.Ytfgpmjboplollaa
