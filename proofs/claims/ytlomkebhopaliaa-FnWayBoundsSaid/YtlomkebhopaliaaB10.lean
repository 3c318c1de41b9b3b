/- Parts of the proof of LawFnWayBounds: contracts of functions, laws of an abstract state, plain facts. No conditions. -/
import Derived.Test.YtlomkebhopaliaaB09
namespace Go.Proofs.Ytlomkebhopaliaa
set_option linter.unusedSimpArgs false
set_option linter.unusedVariables false
theorem plusI_zero_l (x : Int) : plusI 0 x = x := by
  by_cases h : x = 1000000000
  · rw [plusI_b h, h]
  · rw [plusI_ab (by decide) h]; omega
theorem plusI_zero_r (x : Int) : plusI x 0 = x := by
  by_cases h : x = 1000000000
  · rw [plusI_a h, h]
  · rw [plusI_ab h (by decide)]; omega
def relx (Y : Mx) (K q r : Nat) : Int := min (Y q r) (plusI (Y q K) (Y K r))
theorem relx_l {Y : Mx} {K r : Nat} (h : Y K K = 0) : relx Y K K r = Y K r := by unfold relx; rw [h, plusI_zero_l]; exact Int.min_self _
theorem relx_r {Y : Mx} {K q : Nat} (h : Y K K = 0) : relx Y K q K = Y q K := by unfold relx; rw [h, plusI_zero_r]; exact Int.min_self _
theorem rnd_row {X Y : Mx} {K i : Nat} (h0 : Y K K = 0) (hK : ∀ r, X K r = Y K r) (hi : ∀ r, X i r = Y i r) : ∀ c q r, rndC (gF K) X i c q r = if q = i ∧ r < c then relx Y K i r else X q r
  | 0, q, r => by rw [if_neg (by omega)]; rfl
  | c + 1, q, r => by
    have ih := rnd_row h0 hK hi c
    show updM (rndC (gF K) X i c) i c (gF K (rndC (gF K) X i c) i c) q r = _
    have e1 : rndC (gF K) X i c i c = Y i c := by rw [ih, if_neg (by omega), hi]
    have e2 : rndC (gF K) X i c i K = Y i K := by
      rw [ih]
      split
      · exact relx_r h0
      · exact hi K
    have e3 : rndC (gF K) X i c K c = Y K c := by rw [ih, if_neg (by omega), hK]
    have e4 : gF K (rndC (gF K) X i c) i c = relx Y K i c := by
      show min (rndC (gF K) X i c i c) (plusI (rndC (gF K) X i c i K) (rndC (gF K) X i c K c)) = _
      rw [e1, e2, e3]; rfl
    rw [e4]
    unfold updM
    by_cases h : q = i ∧ r = c
    · obtain ⟨rfl, rfl⟩ := h
      rw [if_pos ⟨rfl, rfl⟩, if_pos ⟨rfl, by omega⟩]
    · rw [if_neg h, ih]
      by_cases h2 : q = i ∧ r < c
      · rw [if_pos h2, if_pos ⟨h2.1, by omega⟩]
      · rw [if_neg h2, if_neg (by omega)]
theorem rnd_all {Y : Mx} {n K : Nat} (h0 : Y K K = 0) : ∀ i q r, flI n K Y i q r = if q < i ∧ r < n then relx Y K q r else Y q r
  | 0, q, r => by rw [if_neg (by omega)]; rfl
  | i + 1, q, r => by
    have ih := rnd_all (n := n) h0 i
    show rndC (gF K) (flI n K Y i) i n q r = _
    rw [rnd_row (Y := Y) h0 (fun r => by rw [ih]; split; exact relx_l h0; rfl) (fun r => by rw [ih, if_neg (by omega)])]
    by_cases h : q = i ∧ r < n
    · obtain ⟨rfl, h⟩ := h
      rw [if_pos ⟨rfl, h⟩, if_pos ⟨by omega, h⟩]
    · rw [if_neg h, ih]
      by_cases h2 : q < i ∧ r < n
      · rw [if_pos h2, if_pos ⟨by omega, h2.2⟩]
      · rw [if_neg h2, if_neg (by omega)]
/-! ### Entries only fall -/
theorem updM_le {X : Mx} {i c : Nat} {v : Int} (h : v ≤ X i c) (q r : Nat) : updM X i c v q r ≤ X q r := by
  unfold updM
  by_cases e : q = i ∧ r = c
  · obtain ⟨rfl, rfl⟩ := e; rw [if_pos ⟨rfl, rfl⟩]; exact h
  · rw [if_neg e]; exact Int.le_refl _
theorem rndC_le {K : Nat} {X : Mx} {i : Nat} : ∀ c q r, rndC (gF K) X i c q r ≤ X q r
  | 0, q, r => Int.le_refl _
  | c + 1, q, r => Int.le_trans (updM_le (Int.min_le_left _ _) q r) (rndC_le c q r)
theorem foldM_le {h : Mx → Nat → Mx} {X : Mx} (hh : ∀ Y k q r, h Y k q r ≤ Y q r) : ∀ k q r, foldM h X k q r ≤ X q r
  | 0, q, r => Int.le_refl _
  | k + 1, q, r => Int.le_trans (hh _ _ q r) (foldM_le hh k q r)
theorem foldM_mono {h : Mx → Nat → Mx} {X : Mx} (hh : ∀ Y k q r, h Y k q r ≤ Y q r) {j : Nat} (q r : Nat) : ∀ {k}, j ≤ k → foldM h X k q r ≤ foldM h X j q r
  | 0, hj => by rw [show j = 0 by omega]; exact Int.le_refl _
  | k + 1, hj => by
    rcases Nat.lt_or_ge j (k + 1) with h1 | h1
    · exact Int.le_trans (hh _ _ q r) (foldM_mono hh q r (by omega))
    · rw [show j = k + 1 by omega]; exact Int.le_refl _
theorem flI_le {n K : Nat} {Y : Mx} (i q r : Nat) : flI n K Y i q r ≤ Y q r := foldM_le (fun Y i => rndC_le n) i q r
theorem flK_mono {n : Nat} {X : Mx} {j k : Nat} (h : j ≤ k) (q r : Nat) : flK n X k q r ≤ flK n X j q r := foldM_mono (fun Y k => flI_le n) q r h
theorem dgM_diag {X : Mx} : ∀ {k i}, i < k → dgM X k i i ≤ 0
  | 0, i, h => by omega
  | k + 1, i, h => by
    show updM (dgM X k) k k (min (dgM X k k k) 0) i i ≤ 0
    unfold updM
    by_cases e : i = k
    · subst e; rw [if_pos ⟨rfl, rfl⟩]; exact Int.min_le_right _ _
    · rw [if_neg (by omega)]; exact dgM_diag (by omega)
set_option linter.unusedSimpArgs false
set_option linter.unusedVariables false
theorem plusI_cases (a b : Int) : ((a = 1000000000 ∨ b = 1000000000) ∧ plusI a b = 1000000000) ∨ (a ≠ 1000000000 ∧ b ≠ 1000000000 ∧ plusI a b = a + b) := by
  by_cases h : a = 1000000000
  · exact .inl ⟨.inl h, plusI_a h⟩
  · by_cases h2 : b = 1000000000
    · exact .inl ⟨.inr h2, plusI_b h2⟩
    · exact .inr ⟨h, h2, plusI_ab h h2⟩
theorem le_plusI {x a b : Int} (h : x ≤ 1000000000) (h2 : a ≠ 1000000000 → b ≠ 1000000000 → x ≤ a + b) : x ≤ plusI a b := by
  rcases plusI_cases a b with ⟨_, e⟩ | ⟨h3, h4, e⟩
  · rw [e]; exact h
  · rw [e]; exact h2 h3 h4
theorem of_plusI {x a b : Int} (h : x ≤ plusI a b) (ha : a ≠ 1000000000) (hb : b ≠ 1000000000) : x ≤ a + b := by rwa [plusI_ab ha hb] at h
theorem relx_cases {Y : Mx} {K q r : Nat} (h : relx Y K q r ≠ 1000000000) (hi : Y q r ≤ 1000000000) : (Y q r ≠ 1000000000 ∧ relx Y K q r = Y q r) ∨ (Y q K ≠ 1000000000 ∧ Y K r ≠ 1000000000 ∧ relx Y K q r = Y q K + Y K r) := by
  unfold relx at h ⊢
  rcases plusI_cases (Y q K) (Y K r) with ⟨_, e⟩ | ⟨h3, h4, e⟩
  · rw [e] at h ⊢; exact .inl (by omega)
  · rw [e] at h ⊢
    by_cases h5 : Y q r ≤ Y q K + Y K r
    · exact .inl (by omega)
    · exact .inr (by omega)
theorem relx_le {Y : Mx} {K q r : Nat} : relx Y K q r ≤ Y q r := Int.min_le_left _ _
theorem relx_le' {Y : Mx} {K q r : Nat} (h1 : Y q K ≠ 1000000000) (h2 : Y K r ≠ 1000000000) : relx Y K q r ≤ Y q K + Y K r := by unfold relx; rw [plusI_ab h1 h2]; exact Int.min_le_right _ _
theorem closed_step {Y : Mx} {n K : Nat} (h0 : Y K K = 0) (hK : K < n) (hinf : ∀ i c, i < n → c < n → Y i c ≤ 1000000000) (hfin : ∀ i c, i < n → c < n → Y i c = 1000000000 ∨ Y i c ≤ 300000000)
    (hc : ∀ k, k < K → ∀ i c, i < n → c < n → Y i c ≤ plusI (Y i k) (Y k c)) : ∀ k, k < K + 1 → ∀ i c, i < n → c < n → relx Y K i c ≤ plusI (relx Y K i k) (relx Y K k c) := by
  intro k hk i c hi hcn
  by_cases e : k = K
  · subst e
    rw [relx_l h0, relx_r h0]
    exact Int.min_le_right _ _
  have hk : k < K := by omega
  have hkn : k < n := by omega
  refine le_plusI (Int.le_trans relx_le (hinf i c hi hcn)) fun h1 h2 => ?_
  rcases relx_cases h1 (hinf i k hi hkn) with ⟨a1, a2⟩ | ⟨a1, a3, a2⟩ <;> rcases relx_cases h2 (hinf k c hkn hcn) with ⟨b1, b2⟩ | ⟨b1, b3, b2⟩ <;> rw [a2, b2]
  · exact Int.le_trans relx_le (of_plusI (hc k hk i c hi hcn) a1 b1)
  · have e1 := of_plusI (hc k hk i K hi hK) a1 b1
    have f1 := hfin i k hi hkn
    have f2 := hfin k K hkn hK
    have e2 := relx_le' (Y := Y) (K := K) (q := i) (r := c) (by omega) b3
    omega
  · have e1 := of_plusI (hc k hk K c hK hcn) a3 b1
    have f1 := hfin K k hK hkn
    have f2 := hfin k c hkn hcn
    have e2 := relx_le' (Y := Y) (K := K) (q := i) (r := c) a1 (by omega)
    omega
  · have e1 := of_plusI (hc k hk K K hK hK) a3 b1
    have e2 := relx_le' (Y := Y) (K := K) (q := i) (r := c) a1 b3
    omega
set_option linter.unusedSimpArgs false
set_option linter.unusedVariables false
def relK (x : Int) (g : Nat → Int) : Nat → Int
  | 0 => x
  | k + 1 => if relK x g k < g k then relK x g k else g k
theorem relK_le {x : Int} {g : Nat → Int} : ∀ k, relK x g k ≤ x
  | 0 => Int.le_refl _
  | k + 1 => by have := relK_le (x := x) (g := g) k; show (if relK x g k < g k then relK x g k else g k) ≤ x; split <;> omega
theorem relK_le' {x : Int} {g : Nat → Int} : ∀ {k j}, j < k → relK x g k ≤ g j
  | 0, j, h => by omega
  | k + 1, j, h => by
    show (if relK x g k < g k then relK x g k else g k) ≤ g j
    by_cases e : j = k
    · subst e; split <;> omega
    · have := relK_le' (x := x) (g := g) (k := k) (j := j) (by omega); split <;> omega
theorem relK_at {x : Int} {g : Nat → Int} : ∀ k, relK x g k = x ∨ ∃ j, j < k ∧ relK x g k = g j
  | 0 => .inl rfl
  | k + 1 => by
    show (if relK x g k < g k then relK x g k else g k) = x ∨ ∃ j, j < k + 1 ∧ (if relK x g k < g k then relK x g k else g k) = g j
    split
    · rcases relK_at (x := x) (g := g) k with h | ⟨j, hj, h⟩
      · exact .inl h
      · exact .inr ⟨j, by omega, h⟩
    · exact .inr ⟨k, by omega, rfl⟩
theorem wyrow {m D X : Mx} {i j : Nat} : ∀ c q r, rndC (gWy m D j) X i c q r = if q = i ∧ r < c then (if X i r < plusI (D i j) (m j r) then X i r else plusI (D i j) (m j r)) else X q r
  | 0, q, r => by rw [if_neg (by omega)]; rfl
  | c + 1, q, r => by
    have ih := wyrow (m := m) (D := D) (X := X) (i := i) (j := j) c
    show updM (rndC (gWy m D j) X i c) i c (gWy m D j (rndC (gWy m D j) X i c) i c) q r = _
    have e1 : rndC (gWy m D j) X i c i c = X i c := by rw [ih, if_neg (by omega)]
    have e4 : gWy m D j (rndC (gWy m D j) X i c) i c = if X i c < plusI (D i j) (m j c) then X i c else plusI (D i j) (m j c) := by
      show (if rndC (gWy m D j) X i c i c < plusI (D i j) (m j c) then rndC (gWy m D j) X i c i c else plusI (D i j) (m j c)) = _
      rw [e1]
    rw [e4]
    unfold updM
    by_cases h : q = i ∧ r = c
    · obtain ⟨rfl, rfl⟩ := h
      rw [if_pos (c := q = q ∧ r = r) ⟨rfl, rfl⟩, if_pos (c := q = q ∧ r < r + 1) ⟨rfl, by omega⟩]
    · rw [if_neg h, ih]
      by_cases h2 : q = i ∧ r < c
      · rw [if_pos h2, if_pos (c := q = i ∧ r < c + 1) ⟨h2.1, by omega⟩]
      · rw [if_neg h2, if_neg (by omega)]
theorem stJ_at {m D Y : Mx} {n i : Nat} : ∀ j q r, stJ m D n i Y j q r = if q = i ∧ r < n then relK (Y i r) (fun j => plusI (D i j) (m j r)) j else Y q r
  | 0, q, r => by
    show Y q r = _
    by_cases h : q = i ∧ r < n
    · rw [if_pos h, h.1]; rfl
    · rw [if_neg h]
  | j + 1, q, r => by
    have ih := stJ_at (m := m) (D := D) (Y := Y) (n := n) (i := i) j
    show rndC (gWy m D j) (stJ m D n i Y j) i n q r = _
    rw [wyrow]
    by_cases h : q = i ∧ r < n
    · rw [if_pos h, if_pos h, ih, if_pos (c := i = i ∧ r < n) ⟨rfl, h.2⟩]; rfl
    · rw [if_neg h, if_neg h, ih, if_neg h]
theorem stI_at {m D : Mx} {n : Nat} : ∀ i q r, stI m D n D i q r = if q < i ∧ r < n then relK (D q r) (fun j => plusI (D q j) (m j r)) n else D q r
  | 0, q, r => by rw [if_neg (by omega)]; rfl
  | i + 1, q, r => by
    have ih := stI_at (m := m) (D := D) (n := n) i
    show stJ m D n i (stI m D n D i) n q r = _
    rw [stJ_at]
    by_cases h : q = i ∧ r < n
    · rw [if_pos h, if_pos ⟨by omega, h.2⟩, ih, if_neg (by omega), h.1]
    · rw [if_neg h, ih]
      by_cases h2 : q < i ∧ r < n
      · rw [if_pos h2, if_pos ⟨by omega, h2.2⟩]
      · rw [if_neg h2, if_neg (by omega)]
theorem stepM_at {m D : Mx} {n q r : Nat} (hq : q < n) (hr : r < n) : stepM m D n q r = relK (D q r) (fun j => plusI (D q j) (m j r)) n := by
  show stI m D n D n q r = _
  rw [stI_at, if_pos ⟨hq, hr⟩]
set_option linter.unusedSimpArgs false
set_option linter.unusedVariables false
def numM (m : List (List Int)) : Prop := ∀ i c, i < m.length → c < m.length → ent m i c = 1000000000 ∨ (-1000000 ≤ ent m i c ∧ ent m i c ≤ 1000000)
theorem wyD_at {m : List (List Int)} {k i c : Nat} (hi : i < m.length) (hc : c < m.length) : ent (wyD m (k + 1)) i c = relK (ent (wyD m k) i c) (fun j => plusI (ent (wyD m k) i j) (ent m j c)) m.length := by
  show ent (matL m.length (stepM (ent m) (ent (wyD m k)) m.length)) i c = _
  rw [matL_ent hi hc, stepM_at hi hc]
theorem wyD_zero {m : List (List Int)} {i c : Nat} (hi : i < m.length) (hc : c < m.length) : ent (wyD m 0) i c = if i = c then 0 else 1000000000 := matL_ent hi hc
theorem wyD_succ {m : List (List Int)} {k i c : Nat} (hi : i < m.length) (hc : c < m.length) : ent (wyD m (k + 1)) i c ≤ ent (wyD m k) i c := by rw [wyD_at hi hc]; exact relK_le _
theorem wyD_via {m : List (List Int)} {k i c j : Nat} (hi : i < m.length) (hc : c < m.length) (hj : j < m.length) : ent (wyD m (k + 1)) i c ≤ plusI (ent (wyD m k) i j) (ent m j c) := by rw [wyD_at hi hc]; exact relK_le' (g := fun j => plusI (ent (wyD m k) i j) (ent m j c)) hj
theorem wyD_from {m : List (List Int)} {k i c : Nat} (hi : i < m.length) (hc : c < m.length) : ent (wyD m (k + 1)) i c = ent (wyD m k) i c ∨ ∃ j, j < m.length ∧ ent (wyD m (k + 1)) i c = plusI (ent (wyD m k) i j) (ent m j c) := by rw [wyD_at hi hc]; exact relK_at _
theorem wyD_inf {m : List (List Int)} {i c : Nat} (hi : i < m.length) (hc : c < m.length) : ∀ k, ent (wyD m k) i c ≤ 1000000000
  | 0 => by rw [wyD_zero hi hc]; split <;> omega
  | k + 1 => Int.le_trans (wyD_succ hi hc) (wyD_inf hi hc k)
theorem wyD_diag {m : List (List Int)} {i : Nat} (hi : i < m.length) : ∀ k, ent (wyD m k) i i ≤ 0
  | 0 => by rw [wyD_zero hi hi, if_pos rfl]; exact Int.le_refl _
  | k + 1 => Int.le_trans (wyD_succ hi hi) (wyD_diag hi k)
theorem wyD_num {m : List (List Int)} (hm : numM m) : ∀ (k i c : Nat), i < m.length → c < m.length → ent (wyD m k) i c = 1000000000 ∨ (-1000000 * (k : Int) ≤ ent (wyD m k) i c ∧ ent (wyD m k) i c ≤ 1000000 * (k : Int))
  | 0, i, c, hi, hc => by rw [wyD_zero hi hc]; split <;> omega
  | k + 1, i, c, hi, hc => by
    rcases wyD_from (k := k) hi hc with h | ⟨j, hj, h⟩
    · rw [h]; have := wyD_num hm k i c hi hc; omega
    · rw [h]
      have h1 := wyD_num hm k i j hi hj
      have h2 := hm j c hj hc
      rcases plusI_cases (ent (wyD m k) i j) (ent m j c) with ⟨_, e⟩ | ⟨h3, h4, e⟩ <;> rw [e] <;> omega
theorem below_wyD {m : List (List Int)} {F : Mx} (hm : numM m) (hF : ∀ i c, i < m.length → c < m.length → F i c ≤ ent m i c) (hI : ∀ i c, i < m.length → c < m.length → F i c ≤ 1000000000) (hd : ∀ i, i < m.length → F i i ≤ 0)
    (hc : ∀ j i c, j < m.length → i < m.length → c < m.length → F i c ≤ plusI (F i j) (F j c)) : ∀ (k i c : Nat), i < m.length → c < m.length → F i c ≤ ent (wyD m k) i c
  | 0, i, c, hi, hcn => by
    rw [wyD_zero hi hcn]
    split
    · rename_i e; subst e; exact hd i hi
    · exact hI i c hi hcn
  | k + 1, i, c, hi, hcn => by
    rcases wyD_from (k := k) hi hcn with h | ⟨j, hj, h⟩
    · rw [h]; exact below_wyD hm hF hI hd hc k i c hi hcn
    · rw [h]
      refine le_plusI (hI i c hi hcn) fun h1 h2 => ?_
      have b1 := below_wyD hm hF hI hd hc k i j hi hj
      have b2 := hF j c hj hcn
      have i1 := wyD_inf (m := m) hi hj k
      have n2 := hm j c hj hcn
      have := of_plusI (hc j i c hj hi hcn) (by omega) (by omega)
      omega
theorem tri_wyD {m : List (List Int)} (hm : numM m) (hn : m.length ≤ 6) (hfix : ∀ i c, i < m.length → c < m.length → ent (wyD m (m.length + 1)) i c = ent (wyD m m.length) i c) :
    ∀ (k i j c : Nat), k ≤ m.length → i < m.length → j < m.length → c < m.length → ent (wyD m m.length) i c ≤ plusI (ent (wyD m m.length) i j) (ent (wyD m k) j c)
  | 0, i, j, c, _, hi, hj, hc => by
    rw [wyD_zero hj hc]
    split
    · rename_i e; subst e; rw [plusI_zero_r]; exact Int.le_refl _
    · rw [plusI_b rfl]; exact wyD_inf hi hc _
  | k + 1, i, j, c, hk, hi, hj, hc => by
    rcases wyD_from (k := k) hj hc with h | ⟨l, hl, h⟩
    · rw [h]; exact tri_wyD hm hn hfix k i j c (by omega) hi hj hc
    · rw [h]
      refine le_plusI (wyD_inf hi hc _) fun h1 h2 => ?_
      rcases plusI_cases (ent (wyD m k) j l) (ent m l c) with ⟨_, e⟩ | ⟨h3, h4, e⟩
      · exact absurd e h2
      rw [e]
      have t1 := of_plusI (tri_wyD hm hn hfix k i j l (by omega) hi hj hl) h1 h3
      have n1 := wyD_num hm m.length i j hi hj
      have n2 := wyD_num hm k j l hj hl
      have t2 := of_plusI (hfix i c hi hc ▸ wyD_via (k := m.length) hi hc hl) (by omega) h4
      omega
set_option linter.unusedSimpArgs false
set_option linter.unusedVariables false
def Btw (n : Nat) (D Y : Mx) : Prop := ∀ i c, i < n → c < n → D i c ≤ Y i c ∧ Y i c ≤ 1000000000
theorem Btw.upd {n : Nat} {D Y : Mx} {i c : Nat} {v : Int} (h : Btw n D Y) (h1 : D i c ≤ v) (h2 : v ≤ 1000000000) : Btw n D (updM Y i c v) := fun q r hq hr => by
  unfold updM
  by_cases e : q = i ∧ r = c
  · obtain ⟨rfl, rfl⟩ := e; rw [if_pos (c := q = q ∧ r = r) ⟨rfl, rfl⟩]; exact ⟨h1, h2⟩
  · rw [if_neg e]; exact h q r hq hr
theorem Btw.row {n k i : Nat} {D X : Mx} (ht : ∀ j i c, j < n → i < n → c < n → D i c ≤ plusI (D i j) (D j c)) (hk : k < n) (hi : i < n) (h : Btw n D X) : ∀ c, c ≤ n → Btw n D (rndC (gF k) X i c)
  | 0, _ => h
  | c + 1, hc => by
    have ih := Btw.row ht hk hi h c (by omega)
    obtain ⟨a1, a2⟩ := ih i c hi (by omega)
    obtain ⟨b1, b2⟩ := ih i k hi hk
    obtain ⟨d1, d2⟩ := ih k c hk (by omega)
    refine ih.upd ?_ (Int.le_trans (Int.min_le_left _ _) a2)
    refine Int.le_min.2 ⟨a1, le_plusI (by omega) fun h1 h2 => ?_⟩
    have := of_plusI (ht k i c hk hi (by omega)) (by omega) (by omega)
    omega
theorem Btw.fold {n : Nat} {D X : Mx} {h : Mx → Nat → Mx} (hX : Btw n D X) (hh : ∀ Y k, k < n → Btw n D Y → Btw n D (h Y k)) : ∀ k, k ≤ n → Btw n D (foldM h X k)
  | 0, _ => hX
  | k + 1, hk => hh _ k (by omega) (Btw.fold hX hh k (by omega))
theorem Btw.flK {n : Nat} {D X : Mx} (ht : ∀ j i c, j < n → i < n → c < n → D i c ≤ plusI (D i j) (D j c)) (h : Btw n D X) {k : Nat} (hk : k ≤ n) : Btw n D (flK n X k) :=
  h.fold (fun Y k hk hY => hY.fold (fun Y i hi hY => Btw.row ht hk hi hY n (Nat.le_refl _)) n (Nat.le_refl _)) k hk
theorem btw_flM {m : List (List Int)} (hm : numM m) (hn : m.length ≤ 6) (hfix : ∀ i c, i < m.length → c < m.length → ent (wyD m (m.length + 1)) i c = ent (wyD m m.length) i c) : Btw m.length (ent (wyD m m.length)) (flM m) := by
  have ht : ∀ j i c, j < m.length → i < m.length → c < m.length → ent (wyD m m.length) i c ≤ plusI (ent (wyD m m.length) i j) (ent (wyD m m.length) j c) := fun j i c hj hi hc => tri_wyD hm hn hfix m.length i j c (Nat.le_refl _) hi hj hc
  have hd : ∀ i, i < m.length → ent (wyD m m.length) i i = 0 := fun i hi => by
    have h1 := wyD_diag (m := m) hi m.length
    have h2 := of_plusI (ht i i i hi hi hi) (by omega) (by omega)
    omega
  have h0 : Btw m.length (ent (wyD m m.length)) (ent m) := fun i c hi hc => by
    have h1 := hfix i c hi hc ▸ wyD_via (k := m.length) hi hc hi
    rw [hd i hi, plusI_zero_l] at h1
    exact ⟨h1, by have := hm i c hi hc; omega⟩
  have h1 : Btw m.length (ent (wyD m m.length)) (dgM (ent m) m.length) := h0.fold (fun Y k hk hY => hY.upd (by
    have := (hY k k hk hk).1
    rw [hd k hk] at this ⊢
    exact Int.le_min.2 ⟨this, Int.le_refl _⟩) (Int.le_trans (Int.min_le_right _ _) (by decide))) m.length (Nat.le_refl _)
  exact h1.flK ht (Nat.le_refl _)
theorem ok_of_fix {m : List (List Int)} (hm : numM m) (hn : m.length ≤ 6) (hfix : ∀ i c, i < m.length → c < m.length → ent (wyD m (m.length + 1)) i c = ent (wyD m m.length) i c) : flOk m = true := by
  refine allN_true fun i hi => decide_eq_true ?_
  have h1 := (btw_flM hm hn hfix i i hi hi).1
  have h2 := wyD_diag (m := m) hi m.length
  have h3 := of_plusI (tri_wyD hm hn hfix m.length i i i (Nat.le_refl _) hi hi hi) (by omega) (by omega)
  omega
set_option linter.unusedSimpArgs false
set_option linter.unusedVariables false
theorem dgM_le {X : Mx} (k q r : Nat) : dgM X k q r ≤ X q r := foldM_le (fun Y i => updM_le (Int.min_le_left _ _)) k q r
theorem dgM_num {X : Mx} {n : Nat} (h : ∀ i c, i < n → c < n → X i c = 1000000000 ∨ X i c ≤ 1000000) : ∀ k i c, i < n → c < n → dgM X k i c = 1000000000 ∨ dgM X k i c ≤ 1000000
  | 0, i, c, hi, hc => h i c hi hc
  | k + 1, i, c, hi, hc => by
    show updM (dgM X k) k k (min (dgM X k k k) 0) i c = _ ∨ updM (dgM X k) k k (min (dgM X k k k) 0) i c ≤ _
    unfold updM
    by_cases e : i = k ∧ c = k
    · rw [if_pos e]; have := Int.min_le_right (dgM X k k k) 0; omega
    · rw [if_neg e]; exact dgM_num h k i c hi hc
abbrev flY (m : List (List Int)) (K : Nat) : Mx := flK m.length (dgM (ent m) m.length) K
theorem flY_zero {m : List (List Int)} (hok : flOk m = true) {K k : Nat} (hK : K ≤ m.length) (hk : k < m.length) : flY m K k k = 0 := by
  have h1 : flM m k k ≤ flY m K k k := flK_mono hK k k
  have h2 : flY m K k k ≤ flY m 0 k k := flK_mono (Nat.zero_le _) k k
  have h3 : flY m 0 k k ≤ 0 := dgM_diag hk
  have h4 : 0 ≤ flM m k k := by
    by_cases h : 0 ≤ flM m k k
    · exact h
    · have : flOk m = false := allN_false hk (by simpa using h)
      rw [this] at hok; cases hok
  omega
theorem flY_succ {m : List (List Int)} (hok : flOk m = true) {K i c : Nat} (hK : K < m.length) (hi : i < m.length) (hc : c < m.length) : flY m (K + 1) i c = relx (flY m K) K i c := by
  show flI m.length K (flY m K) m.length i c = _
  rw [rnd_all (flY_zero hok (by omega) hK), if_pos ⟨hi, hc⟩]
theorem flY_inf {m : List (List Int)} (hm : numM m) {K i c : Nat} (hi : i < m.length) (hc : c < m.length) : flY m K i c ≤ 1000000000 := by
  have h2 : flY m K i c ≤ flY m 0 i c := flK_mono (Nat.zero_le _) i c
  have h3 : flY m 0 i c ≤ ent m i c := dgM_le _ _ _
  have := hm i c hi hc
  omega
theorem flY_num {m : List (List Int)} (hm : numM m) (hok : flOk m = true) : ∀ (K i c : Nat), K ≤ m.length → i < m.length → c < m.length → flY m K i c = 1000000000 ∨ flY m K i c ≤ 1000000 * ((2 ^ K : Nat) : Int)
  | 0, i, c, _, hi, hc => by
    have := dgM_num (X := ent m) (n := m.length) (fun i c hi hc => by have := hm i c hi hc; omega) m.length i c hi hc
    show dgM (ent m) m.length i c = _ ∨ dgM (ent m) m.length i c ≤ _
    simpa using this
  | K + 1, i, c, hK, hi, hc => by
    rw [flY_succ hok (by omega) hi hc]
    have hp : ((2 ^ (K + 1) : Nat) : Int) = 2 * ((2 ^ K : Nat) : Int) := by rw [Nat.pow_succ]; omega
    rw [hp]
    by_cases h : relx (flY m K) K i c = 1000000000
    · exact .inl h
    · right
      have b1 := flY_num hm hok K i c (by omega) hi hc
      have b2 := flY_num hm hok K i K (by omega) hi (by omega)
      have b3 := flY_num hm hok K K c (by omega) (by omega) hc
      have hp0 : (0 : Int) ≤ ((2 ^ K : Nat) : Int) := Int.natCast_nonneg _
      generalize ((2 ^ K : Nat) : Int) = t at *
      rcases relx_cases h (flY_inf hm hi hc) with ⟨h1, h2⟩ | ⟨h1, h3, h2⟩ <;> rw [h2] <;> omega
theorem flY_closed {m : List (List Int)} (hm : numM m) (hn : m.length ≤ 6) (hok : flOk m = true) : ∀ K, K ≤ m.length → ∀ k, k < K → ∀ i c, i < m.length → c < m.length → flY m K i c ≤ plusI (flY m K i k) (flY m K k c)
  | 0, _, k, hk, _, _, _, _ => by omega
  | K + 1, hK, k, hk, i, c, hi, hc => by
    have ih := flY_closed hm hn hok K (by omega)
    rw [flY_succ hok (by omega) hi hc, flY_succ hok (by omega) hi (by omega), flY_succ hok (by omega) (by omega) hc]
    have hp : (2 ^ K : Nat) ≤ 2 ^ 6 := Nat.pow_le_pow_right (by decide) (by omega)
    exact closed_step (n := m.length) (flY_zero hok (by omega) (by omega)) (by omega) (fun i c hi hc => flY_inf hm hi hc) (fun i c hi hc => by
      have := flY_num hm hok K i c (by omega) hi hc
      generalize (2 ^ K : Nat) = t at *
      omega) ih k hk i c hi hc
theorem flM_below {m : List (List Int)} (hm : numM m) (hn : m.length ≤ 6) (hok : flOk m = true) : ∀ (k i c : Nat), i < m.length → c < m.length → flM m i c ≤ ent (wyD m k) i c :=
  below_wyD hm (fun i c hi hc => Int.le_trans (flK_mono (Nat.zero_le _) i c) (dgM_le _ _ _)) (fun i c hi hc => flY_inf hm hi hc) (fun i hi => Int.le_of_eq (flY_zero hok (Nat.le_refl _) hi)) fun j i c hj hi hc => flY_closed hm hn hok m.length (Nat.le_refl _) j hj i c hi hc
theorem fl_eq {m : List (List Int)} (hm : numM m) (hn : m.length ≤ 6) (hfix : ∀ i c, i < m.length → c < m.length → ent (wyD m (m.length + 1)) i c = ent (wyD m m.length) i c) : ∀ i c, i < m.length → c < m.length → flM m i c = ent (wyD m m.length) i c := fun i c hi hc =>
  Int.le_antisymm (flM_below hm hn (ok_of_fix hm hn hfix) m.length i c hi hc) (btw_flM hm hn hfix i c hi hc).1
set_option linter.unusedSimpArgs false
set_option linter.unusedVariables false
def restM (m : List (List Int)) : Prop := ∀ i c, i < m.length → c < m.length → ent (wyD m (m.length + 1)) i c = ent (wyD m m.length) i c
theorem rest_of_eq {m : List (List Int)} (h : eqM (wyD m m.length) (wyD m (m.length + 1)) = true) : restM m := fun i c hi hc => by
  by_cases e : ent (wyD m (m.length + 1)) i c = ent (wyD m m.length) i c
  · exact e
  · have h1 : eqB (rowAt (wyD m m.length) i) (rowAt (wyD m (m.length + 1)) i) = false := both_no (k := c) (by rw [wyD_row m hi]; exact hc) (beq_eq_false_iff_ne.2 fun e' => e e'.symm)
    have h2 : eqM (wyD m m.length) (wyD m (m.length + 1)) = false := bothM_no (k := i) (by rw [wyD_len]; exact hi) h1
    rw [h2] at h; cases h
theorem eq_of_rest {m : List (List Int)} (h : restM m) : eqM (wyD m m.length) (wyD m (m.length + 1)) = true :=
  bothM_yes (by rw [wyD_len, wyD_len]) fun i hi => by
    rw [wyD_len] at hi
    exact both_yes (by rw [wyD_row m hi, wyD_row m hi]) fun c hc => by
      rw [wyD_row m hi] at hc
      exact beq_iff_eq.2 (h i c hi hc).symm
theorem ext_rows {a b : List (List Int)} {n : Nat} (ha : a.length = n) (hb : b.length = n) (hra : ∀ i, i < n → (rowAt a i).length = n) (hrb : ∀ i, i < n → (rowAt b i).length = n) (h : ∀ i c, i < n → c < n → ent a i c = ent b i c) : a = b := by
  refine List.ext_getElem (by omega) fun i hi hj => ?_
  have e1 : rowAt a i = a[i] := by simp [rowAt, List.getD, hi]
  have e2 : rowAt b i = b[i] := by simp [rowAt, List.getD, hj]
  rw [← e1, ← e2]
  refine List.ext_getElem (by rw [hra i (by omega), hrb i (by omega)]) fun c hc hd => ?_
  have := h i c (by omega) (by rw [hra i (by omega)] at hc; exact hc)
  have e3 : ent a i c = (rowAt a i)[c] := by show (rowAt a i).getD c 0 = _; rw [List.getD, List.getElem?_eq_getElem hc]; rfl
  have e4 : ent b i c = (rowAt b i)[c] := by show (rowAt b i).getD c 0 = _; rw [List.getD, List.getElem?_eq_getElem hd]; rfl
  rw [← e3, ← e4]; exact this
theorem mat_eq {m : List (List Int)} (hm : numM m) (hn : m.length ≤ 6) (h : restM m) : matL m.length (flM m) = wyD m m.length :=
  ext_rows (matL_len _ _) (wyD_len m _) (fun i hi => matL_row_len hi) (fun i hi => wyD_row m hi _) fun i c hi hc => by rw [matL_ent hi hc, fl_eq hm hn h i c hi hc]
set_option linter.unusedSimpArgs false
set_option linter.unusedVariables false
theorem wyD_add {m : List (List Int)} (hm : numM m) {a : Nat} : ∀ (b i k c : Nat), a + b ≤ 400 → i < m.length → k < m.length → c < m.length → ent (wyD m (a + b)) i c ≤ plusI (ent (wyD m a) i k) (ent (wyD m b) k c)
  | 0, i, k, c, _, hi, hk, hc => by
    rw [wyD_zero hk hc]
    split
    · rename_i e; subst e; rw [plusI_zero_r]; exact Int.le_refl _
    · rw [plusI_b rfl]; exact wyD_inf hi hc _
  | b + 1, i, k, c, hb, hi, hk, hc => by
    have s1 : ent (wyD m (a + (b + 1))) i c ≤ ent (wyD m (a + b)) i c := wyD_succ (k := a + b) hi hc
    rcases wyD_from (k := b) hk hc with h | ⟨l, hl, h⟩
    · rw [h]; exact Int.le_trans s1 (wyD_add hm b i k c (by omega) hi hk hc)
    · rw [h]
      refine le_plusI (wyD_inf hi hc _) fun h1 h2 => ?_
      rcases plusI_cases (ent (wyD m b) k l) (ent m l c) with ⟨_, e⟩ | ⟨h3, h4, e⟩
      · exact absurd e h2
      rw [e]
      have t1 := of_plusI (wyD_add hm b i k l (by omega) hi hk hl) h1 h3
      have n1 := wyD_num hm a i k hi hk
      have n2 := wyD_num hm b k l hk hl
      have t2 := of_plusI (wyD_via (k := a + b) hi hc hl) (by omega) h4
      show ent (wyD m (a + b + 1)) i c ≤ _
      omega
theorem wyD_flY {m : List (List Int)} (hm : numM m) (hn : m.length ≤ 6) (hok : flOk m = true) : ∀ (K i c : Nat), K ≤ m.length → i < m.length → c < m.length → ent (wyD m (2 ^ K)) i c ≤ flY m K i c
  | 0, i, c, _, hi, hc => by
    have e : flY m 0 i c = dgM (ent m) m.length i c := rfl
    by_cases h : i = c
    · subst h
      rw [flY_zero hok (Nat.zero_le _) hi]
      exact wyD_diag hi _
    · have h1 : ∀ k, dgM (ent m) k i c = ent m i c := fun k => by
        induction k with
        | zero => rfl
        | succ k ih =>
          show updM (dgM (ent m) k) k k _ i c = _
          unfold updM
          rw [if_neg (by omega), ih]
      rw [e, h1]
      have h2 := wyD_via (k := 0) hi hc hi
      rw [wyD_zero hi hi, if_pos rfl, plusI_zero_l] at h2
      exact h2
  | K + 1, i, c, hK, hi, hc => by
    have hp : (2 ^ K : Nat) ≤ 2 ^ 6 := Nat.pow_le_pow_right (by decide) (by omega)
    have e2 : 2 ^ (K + 1) = 2 ^ K + 2 ^ K := by rw [Nat.pow_succ]; omega
    rw [flY_succ hok (by omega) hi hc, e2]
    have hmono : ∀ b, ent (wyD m (2 ^ K + b)) i c ≤ ent (wyD m (2 ^ K)) i c := fun b => by
      induction b with
      | zero => exact Int.le_refl _
      | succ b ih => exact Int.le_trans (wyD_succ (k := 2 ^ K + b) hi hc) ih
    have b1 := wyD_flY hm hn hok K i c (by omega) hi hc
    have b2 := wyD_flY hm hn hok K i K (by omega) hi (by omega)
    have b3 := wyD_flY hm hn hok K K c (by omega) (by omega) hc
    refine Int.le_min.2 ⟨Int.le_trans (hmono _) b1, le_plusI (wyD_inf hi hc _) fun h1 h2 => ?_⟩
    have i2 := flY_inf hm (K := K) hi (show K < m.length by omega)
    have i3 := flY_inf hm (K := K) (show K < m.length by omega) hc
    have := of_plusI (wyD_add hm (a := 2 ^ K) (2 ^ K) i K c (by omega) hi (by omega) hc) (by omega) (by omega)
    omega
set_option linter.unusedSimpArgs false
set_option linter.unusedVariables false
theorem pigeon : ∀ (n t : Nat) (f : Nat → Nat), (∀ i, i < t → f i < n) → (∀ i j, i < t → j < t → f i = f j → i = j) → t ≤ n
  | 0, 0, _, _, _ => Nat.le_refl _
  | 0, t + 1, f, h, _ => absurd (h 0 (by omega)) (by omega)
  | n + 1, 0, _, _, _ => by omega
  | n + 1, t + 1, f, h, hi => by
    have := pigeon n t (fun i => if f i = n then f t else f i) (fun i hit => by
      show (if f i = n then f t else f i) < n
      have h1 := h i (by omega)
      have h2 := h t (by omega)
      split
      · rename_i e
        have : f t ≠ n := fun e' => by have := hi i t (by omega) (by omega) (by omega); omega
        omega
      · omega) (fun i j hit hjt e => by
      have e : (if f i = n then f t else f i) = if f j = n then f t else f j := e
      have a1 := hi i j (by omega) (by omega)
      have a2 := hi i t (by omega) (by omega)
      have a3 := hi j t (by omega) (by omega)
      split at e <;> split at e <;> first | (exact a1 (by omega)) | (have := a2 (by omega); omega) | (have := a3 (by omega); omega))
    omega
theorem least_of {p : Nat → Prop} : ∀ t, p t → ∃ s, p s ∧ ∀ r, r < s → ¬ p r := fun t => by
  induction t using Nat.strongRecOn with
  | ind t ih =>
    intro h
    by_cases hx : ∃ r, r < t ∧ p r
    · obtain ⟨r, hr, hp⟩ := hx; exact ih r hr hp
    · exact ⟨t, h, fun r hr hp => hx ⟨r, hr, hp⟩⟩
def firstAt (m : List (List Int)) (i c t : Nat) : Prop := ent (wyD m t) i c = flM m i c ∧ ∀ s, s < t → ¬ ent (wyD m s) i c = flM m i c
theorem first_down {m : List (List Int)} (hm : numM m) (hn : m.length ≤ 6) (hok : flOk m = true) {i : Nat} (hi : i < m.length) {t c : Nat} (hc : c < m.length) (h : firstAt m i c (t + 1)) : ∃ j, j < m.length ∧ firstAt m i j t := by
  have hB := flM_below hm hn hok
  have n0 := h.2 t (by omega)
  rcases wyD_from (k := t) hi hc with e | ⟨j, hj, e⟩
  · exact absurd (e ▸ h.1) n0
  have hlt : flM m i c < ent (wyD m t) i c := by have := hB t i c hi hc; omega
  have hI := wyD_inf (m := m) hi hc t
  rcases plusI_cases (ent (wyD m t) i j) (ent m j c) with ⟨_, e2⟩ | ⟨h3, h4, e2⟩
  · rw [h.1, e2] at e; omega
  have e : flM m i c = ent (wyD m t) i j + ent m j c := by rw [← h.1, e, e2]
  have hmj : flM m j c ≤ ent m j c := Int.le_trans (flK_mono (Nat.zero_le _) j c) (dgM_le _ _ _)
  have hmI := hm j c hj hc
  have hij := wyD_inf (m := m) hi hj t
  have key : ∀ s, ent (wyD m s) i j = flM m i j → ent (wyD m s) i j ≠ 1000000000 → ent (wyD m (s + 1)) i c ≤ flM m i j + ent m j c := fun s hs hne => by
    have := of_plusI (wyD_via (k := s) hi hc hj) hne h4; omega
  have hFj : flM m i j ≤ ent (wyD m t) i j := hB t i j hi hj
  have hcl := of_plusI (flY_closed hm hn hok m.length (Nat.le_refl _) j hj i c hi hc) (show flM m i j ≠ 1000000000 by omega) (show flM m j c ≠ 1000000000 by omega)
  have hcl : flM m i c ≤ flM m i j + flM m j c := hcl
  have hj1 : ent (wyD m t) i j = flM m i j := by omega
  refine ⟨j, hj, hj1, fun s hs hs2 => ?_⟩
  have h5 := key s hs2 (by omega)
  have h6 := hB (s + 1) i c hi hc
  exact h.2 (s + 1) (by omega) (by omega)
theorem first_all {m : List (List Int)} (hm : numM m) (hn : m.length ≤ 6) (hok : flOk m = true) {i : Nat} (hi : i < m.length) : ∀ (t c : Nat), c < m.length → firstAt m i c t → ∀ s, s ≤ t → ∃ j, j < m.length ∧ firstAt m i j s
  | 0, c, hc, h, s, hs => ⟨c, hc, by rw [show s = 0 by omega]; exact h⟩
  | t + 1, c, hc, h, s, hs => by
    by_cases e : s = t + 1
    · subst e; exact ⟨c, hc, h⟩
    · obtain ⟨j, hj, h2⟩ := first_down hm hn hok hi hc h
      exact first_all hm hn hok hi t j hj h2 s (by omega)
theorem wyD_mono' {m : List (List Int)} {i c : Nat} (hi : i < m.length) (hc : c < m.length) {j : Nat} : ∀ {k}, j ≤ k → ent (wyD m k) i c ≤ ent (wyD m j) i c
  | 0, h => by rw [show j = 0 by omega]; exact Int.le_refl _
  | k + 1, h => by
    by_cases e : j = k + 1
    · rw [e]; exact Int.le_refl _
    · exact Int.le_trans (wyD_succ hi hc) (wyD_mono' hi hc (by omega))
theorem rest_of_ok {m : List (List Int)} (hm : numM m) (hn : m.length ≤ 6) (hok : flOk m = true) : restM m := fun i c hi hc => by
  have hB := flM_below hm hn hok
  have hT : ent (wyD m (2 ^ m.length)) i c = flM m i c := Int.le_antisymm (wyD_flY hm hn hok m.length i c (Nat.le_refl _) hi hc) (hB _ i c hi hc)
  obtain ⟨t, ht⟩ := least_of (p := fun t => ent (wyD m t) i c = flM m i c) _ hT
  have hall := first_all hm hn hok hi t c hc ht
  have hpk : ∀ s, ∃ j, s < t + 1 → j < m.length ∧ firstAt m i j s := fun s => by
    by_cases hs : s < t + 1
    · obtain ⟨j, hj⟩ := hall s (by omega); exact ⟨j, fun _ => hj⟩
    · exact ⟨0, fun h => absurd h hs⟩
  have hp := pigeon m.length (t + 1) (fun s => (hpk s).choose) (fun s hs => ((hpk s).choose_spec hs).1) fun s r hs hr e => by
    have h1 := ((hpk s).choose_spec hs).2
    have h2 := ((hpk r).choose_spec hr).2
    have e : (hpk s).choose = (hpk r).choose := e
    rw [e] at h1
    rcases Nat.lt_trichotomy s r with h | h | h
    · exact absurd h1.1 (h2.2 s h)
    · exact h
    · exact absurd h2.1 (h1.2 r h)
  have m1 := wyD_mono' (m := m) hi hc (show t ≤ m.length by omega)
  have m2 := wyD_succ (m := m) (k := m.length) hi hc
  have m3 := hB (m.length + 1) i c hi hc
  have m4 : ent (wyD m t) i c = flM m i c := ht.1
  omega
set_option linter.unusedSimpArgs false
set_option linter.unusedVariables false
theorem ok_high {m m' : List (List Int)} (hm : numM m) (hm' : numM m') (hn : m.length ≤ 6) (hl : m'.length = m.length) (hle : ∀ i c, i < m.length → c < m.length → ent m i c ≤ ent m' i c) (hok : flOk m = true) : flOk m' = true := by
  have hfix := rest_of_ok hm hn hok
  have ht : ∀ j i c, j < m.length → i < m.length → c < m.length → ent (wyD m m.length) i c ≤ plusI (ent (wyD m m.length) i j) (ent (wyD m m.length) j c) := fun j i c hj hi hc => tri_wyD hm hn hfix m.length i j c (Nat.le_refl _) hi hj hc
  have hd : ∀ i, i < m.length → ent (wyD m m.length) i i = 0 := fun i hi => by
    have h1 := wyD_diag (m := m) hi m.length
    have h2 := of_plusI (ht i i i hi hi hi) (by omega) (by omega)
    omega
  have h0 : Btw m.length (ent (wyD m m.length)) (ent m') := fun i c hi hc => by
    have h1 := hfix i c hi hc ▸ wyD_via (k := m.length) hi hc hi
    rw [hd i hi, plusI_zero_l] at h1
    exact ⟨Int.le_trans h1 (hle i c hi hc), by have := hm' i c (by omega) (by omega); omega⟩
  have h1 : Btw m.length (ent (wyD m m.length)) (dgM (ent m') m.length) := h0.fold (fun Y k hk hY => hY.upd (by
    have := (hY k k hk hk).1
    rw [hd k hk] at this ⊢
    exact Int.le_min.2 ⟨this, Int.le_refl _⟩) (Int.le_trans (Int.min_le_right _ _) (by decide))) m.length (Nat.le_refl _)
  have h2 : Btw m.length (ent (wyD m m.length)) (flM m') := by
    have := h1.flK ht (Nat.le_refl _)
    unfold flM
    rw [hl]; exact this
  refine allN_true fun i hi => decide_eq_true ?_
  have := (h2 i i (by omega) (by omega)).1
  rw [hd i (by omega)] at this
  exact this
theorem wyD_bd {m : List (List Int)} (hm : numM m) (hn : m.length ≤ 6) {k : Nat} (hk : k ≤ m.length + 1) (i c : Nat) : -1000000000000000 ≤ ent (wyD m k) i c ∧ ent (wyD m k) i c ≤ 1000000000000000 := by
  by_cases hc : c < m.length
  · by_cases hi : i < m.length
    · have := wyD_num hm k i c hi hc; omega
    · have : rowAt (wyD m k) i = [] := by simp [rowAt, List.getD, List.getElem?_eq_none (show (wyD m k).length ≤ i by rw [wyD_len]; omega)]
      show -1000000000000000 ≤ (rowAt (wyD m k) i).getD c 0 ∧ (rowAt (wyD m k) i).getD c 0 ≤ 1000000000000000
      rw [this]; simp
  · rw [wyD_out m (show m.length ≤ c by omega) k]; omega
set_option linter.unusedSimpArgs false
set_option linter.unusedVariables false
def rInv (n k : Nat) (B : Int) (S : Mx) (i c : Nat) : Prop := ∀ p q, p < n → q < n → -6 * B ≤ S p q ∧ (q = k → -3 * B ≤ S p q) ∧ (p = k → -3 * B ≤ S p q) ∧ (p = k ∧ q = k → -2 * B ≤ S p q) ∧ (p > i ∨ p = i ∧ q ≥ c → -B ≤ S p q)
theorem rInv.step {n k i c : Nat} {B : Int} {S : Mx} (hB : 0 ≤ B) (h : rInv n k B S i c) (hk : k < n) (hi : i < n) (hc : c < n) : rInv n k B (updM S i c (gF k S i c)) i (c + 1) := fun p q hp hq => by
  have a := h p q hp hq
  unfold updM
  by_cases e : p = i ∧ q = c
  · obtain ⟨rfl, rfl⟩ := e
    rw [if_pos (c := p = p ∧ q = q) ⟨rfl, rfl⟩]
    have b := h p k hp hk
    have d := h k q hk hq
    show -6 * B ≤ min (S p q) (plusI (S p k) (S k q)) ∧ _
    have hv : ∀ x : Int, x ≤ 1000000000 → x ≤ -B → (x ≤ S p k + S k q) → x ≤ min (S p q) (plusI (S p k) (S k q)) := fun x h0 h1 h2 => Int.le_min.2 ⟨by have := a.2.2.2.2 (.inr ⟨rfl, by omega⟩); omega, le_plusI h0 fun _ _ => h2⟩
    have a1 := a.2.2.2.2 (.inr ⟨rfl, by omega⟩)
    have v6 := hv (-6 * B) (by omega) (by omega) (by have := b.2.1 rfl; have := d.2.2.1 rfl; omega)
    refine ⟨v6, fun e => ?_, fun e => ?_, fun e => ?_, fun e => by omega⟩
    · subst e
      refine hv _ (by omega) (by omega) ?_
      have := d.2.2.2.1 ⟨rfl, rfl⟩
      omega
    · subst e
      refine hv _ (by omega) (by omega) ?_
      have := b.2.2.2.1 ⟨rfl, rfl⟩
      omega
    · obtain ⟨rfl, rfl⟩ := e
      exact hv _ (by omega) (by omega) (by omega)
  · rw [if_neg e]
    exact ⟨a.1, a.2.1, a.2.2.1, a.2.2.2.1, fun e2 => a.2.2.2.2 (by omega)⟩
theorem rInv.row {n k i : Nat} {B : Int} {X : Mx} (hB : 0 ≤ B) (hk : k < n) (hi : i < n) (h : rInv n k B X i 0) : ∀ c, c ≤ n → rInv n k B (rndC (gF k) X i c) i c
  | 0, _ => h
  | c + 1, hc => (rInv.row hB hk hi h c (by omega)).step hB hk hi (by omega)
theorem rInv.all {n k : Nat} {B : Int} {Y : Mx} (hB : 0 ≤ B) (hk : k < n) (h : ∀ p q, p < n → q < n → -B ≤ Y p q) : ∀ i, i ≤ n → rInv n k B (flI n k Y i) i 0
  | 0, _ => fun p q hp hq => by have := h p q hp hq; show _ ≤ Y p q ∧ (_ → _ ≤ Y p q) ∧ (_ → _ ≤ Y p q) ∧ (_ → _ ≤ Y p q) ∧ (_ → _ ≤ Y p q); omega
  | i + 1, hi => fun p q hp hq => by
    have a := (rInv.all hB hk h i (by omega)).row hB hk (by omega) n (Nat.le_refl _) p q hp hq
    exact ⟨a.1, a.2.1, a.2.2.1, a.2.2.2.1, fun e => a.2.2.2.2 (by omega)⟩
theorem flY_low {m : List (List Int)} (hm : numM m) : ∀ (k p q : Nat), k ≤ m.length → p < m.length → q < m.length → -(1000000 * ((6 ^ k : Nat) : Int)) ≤ flY m k p q
  | 0, p, q, _, hp, hq => by
    have : ∀ k, -1000000 ≤ dgM (ent m) k p q := fun k => by
      induction k with
      | zero => have := hm p q hp hq; show -1000000 ≤ ent m p q; omega
      | succ k ih =>
        show -1000000 ≤ updM (dgM (ent m) k) k k (min (dgM (ent m) k k k) 0) p q
        unfold updM
        by_cases e : p = k ∧ q = k
        · rw [if_pos e]
          refine Int.le_min.2 ⟨?_, by decide⟩
          rw [e.1, e.2] at ih
          exact ih
        · rw [if_neg e]; exact ih
    have := this m.length
    show -(1000000 * ((6 ^ 0 : Nat) : Int)) ≤ dgM (ent m) m.length p q
    simpa using this
  | k + 1, p, q, hk, hp, hq => by
    have a := (rInv.all (n := m.length) (k := k) (B := 1000000 * ((6 ^ k : Nat) : Int)) (Y := flY m k) (by have : (0 : Int) ≤ ((6 ^ k : Nat) : Int) := Int.natCast_nonneg _; omega) (by omega) (fun p q hp hq => flY_low hm k p q (by omega) hp hq) m.length (Nat.le_refl _) p q hp hq).1
    have e : ((6 ^ (k + 1) : Nat) : Int) = 6 * ((6 ^ k : Nat) : Int) := by rw [Nat.pow_succ]; omega
    rw [e]
    have a : -6 * (1000000 * ((6 ^ k : Nat) : Int)) ≤ flY m (k + 1) p q := a
    omega
theorem flBd_of {m : List (List Int)} (hm : numM m) (hn : m.length ≤ 6) : flBd m := fun k i c hk hi hc => by
  have hp : (6 ^ k : Nat) ≤ 6 ^ 6 := Nat.pow_le_pow_right (by decide) (by omega)
  have hB : (0 : Int) ≤ 1000000 * ((6 ^ k : Nat) : Int) := by have : (0 : Int) ≤ ((6 ^ k : Nat) : Int) := Int.natCast_nonneg _; omega
  have h1 := (rInv.all (n := m.length) (k := k) hB hk (fun p q hp hq => flY_low hm k p q (by omega) hp hq) i (by omega)).row hB hk hi c (by omega)
  have up : ∀ p q, p < m.length → q < m.length → rndC (gF k) (flI m.length k (flY m k) i) i c p q ≤ 1000000000 := fun p q hp hq => Int.le_trans (rndC_le c p q) (Int.le_trans (flI_le i p q) (flY_inf hm hp hq))
  have b1 := (h1 i k hi hk).1
  have b2 := (h1 k c hk hc).1
  have u1 := up i k hi hk
  have u2 := up k c hk hc
  generalize (6 ^ k : Nat) = t at *
  have r1 : -1000000000000000 ≤ rndC (gF k) (flI m.length k (flY m k) i) i c i k ∧ rndC (gF k) (flI m.length k (flY m k) i) i c i k ≤ 1000000000000000 := by omega
  have r2 : -1000000000000000 ≤ rndC (gF k) (flI m.length k (flY m k) i) i c k c ∧ rndC (gF k) (flI m.length k (flY m k) i) i c k c ≤ 1000000000000000 := by omega
  exact ⟨r1, r2⟩
set_option linter.unusedSimpArgs false
set_option linter.unusedVariables false
theorem squB_parts {m : List (List Int)} (h : squB m = true) : (1 ≤ m.length ∧ m.length ≤ 6) ∧ (∀ i, i < m.length → (rowAt m i).length = m.length) ∧ numM m := by
  have h1 := squB_mat h
  have h2 := matB_len h1
  have e : m.length = (rowAt m 0).length := by
    unfold squB at h; simp only [Bool.and_eq_true, beq_iff_eq] at h; exact h.2
  have hr : ∀ i, i < m.length → (rowAt m i).length = m.length := fun i hi => by
    unfold matB at h1
    simp only [Bool.and_eq_true] at h1
    have := allN_iff.1 h1.2 i hi
    unfold mrowB at this
    simp only [Bool.and_eq_true, beq_iff_eq] at this
    omega
  refine ⟨h2.1, hr, fun i c hi hc => ?_⟩
  have := numsB_get (matB_nums h1 hi) (j := c) (by rw [hr i hi]; exact hc)
  simp only [numB, finB, Bool.or_eq_true, Bool.and_eq_true, decide_eq_true_eq, beq_iff_eq] at this
  show (rowAt m i).getD c 0 = 1000000000 ∨ (-1000000 ≤ (rowAt m i).getD c 0 ∧ (rowAt m i).getD c 0 ≤ 1000000)
  omega
theorem wyD_bd0 {m : List (List Int)} (h : (∀ i, i < m.length → (rowAt m i).length = m.length) ∧ numM m) (i c : Nat) : -1000000000000000 ≤ ent m i c ∧ ent m i c ≤ 1000000000000000 := by
  by_cases hi : i < m.length
  · by_cases hc : c < m.length
    · have := h.2 i c hi hc; omega
    · have : ent m i c = 0 := by show (rowAt m i).getD c 0 = 0; rw [List.getD, List.getElem?_eq_none (by have := h.1 i hi; omega)]; rfl
      omega
  · have : ent m i c = 0 := by
      have e : rowAt m i = [] := by simp [rowAt, List.getD, List.getElem?_eq_none (show m.length ≤ i by omega)]
      show (rowAt m i).getD c 0 = 0
      rw [e]; rfl
    omega
structure WayP (a b : List (List Int)) : Prop where
  sa : squB a = true
  sb : squB b = true
  len : b.length = a.length
  le : ∀ i c, i < a.length → c < a.length → ent a i c ≤ ent b i c
  inf : ∀ i c, i < a.length → c < a.length → (ent a i c = 1000000000 ↔ ent b i c = 1000000000)
theorem wayB_parts {a b : List (List Int)} (h : wayB a b = true) : WayP a b := by
  unfold wayB at h
  simp only [Bool.and_eq_true] at h
  obtain ⟨⟨sa, sb⟩, hb⟩ := h
  unfold bothM at hb
  simp only [Bool.and_eq_true, beq_iff_eq] at hb
  have ra := (squB_parts sa).2.1
  have key : ∀ i c, i < a.length → c < a.length → okP (ent a i c) (ent b i c) = true := fun i c hi hc => by
    have h2 := allN_iff.1 hb.2 i hi
    unfold pairB both at h2
    simp only [Bool.and_eq_true] at h2
    exact allN_iff.1 h2.2 c (by rw [ra i hi]; exact hc)
  refine ⟨sa, sb, hb.1.symm, fun i c hi hc => ?_, fun i c hi hc => ?_⟩
  · have h1 := key i c hi hc
    generalize ent a i c = x at *
    generalize ent b i c = y at *
    simp [okP] at h1; omega
  · have h1 := key i c hi hc
    generalize ent a i c = x at *
    generalize ent b i c = y at *
    clear key
    by_cases e : x = 1000000000 <;> by_cases e2 : y = 1000000000 <;> simp_all [okP]
theorem wyD_fin {a b : List (List Int)} (ha : numM a) (hb : numM b) (hn : a.length ≤ 6) (hl : b.length = a.length) (hi' : ∀ i c, i < a.length → c < a.length → ent b i c = 1000000000 → ent a i c = 1000000000) :
    ∀ (k i c : Nat), k ≤ 7 → i < a.length → c < a.length → ent (wyD b k) i c = 1000000000 → ent (wyD a k) i c = 1000000000
  | 0, i, c, _, hi, hc, h => by
    rw [wyD_zero (by omega) (by omega)] at h
    rw [wyD_zero hi hc]; exact h
  | k + 1, i, c, hk, hi, hc, h => by
    have nb := wyD_num hb k
    have s := wyD_succ (m := b) (k := k) (i := i) (c := c) (by omega) (by omega)
    have nbc := nb i c (by omega) (by omega)
    have h0 := wyD_fin ha hb hn hl hi' k i c (by omega) hi hc (by omega)
    rcases wyD_from (m := a) (k := k) hi hc with e | ⟨j, hj, e⟩
    · rw [e]; exact h0
    · rcases plusI_cases (ent (wyD a k) i j) (ent a j c) with ⟨_, e2⟩ | ⟨h3, h4, e2⟩
      · rw [e, e2]
      · exfalso
        have g1 : ent (wyD b k) i j ≠ 1000000000 := fun q => h3 (wyD_fin ha hb hn hl hi' k i j (by omega) hi hj q)
        have g2 : ent b j c ≠ 1000000000 := fun q => h4 (hi' j c hj hc q)
        have g3 := of_plusI (wyD_via (m := b) (k := k) (i := i) (c := c) (j := j) (by omega) (by omega) (by omega)) g1 g2
        have g4 := nb i j (by omega) (by omega)
        have g5 := hb j c (by omega) (by omega)
        omega
def dOf (m : List (List Int)) : List (List Int) := wyD m m.length
def wbT (a b : List (List Int)) (f t : Int) : Bool := wayB a b && inB f 0 ((a.length : Int) - 1) && inB t 0 ((a.length : Int) - 1) && flOk a && finB (ent (dOf a) f.toNat t.toNat) && finB (ent (dOf b) f.toNat t.toNat)
def wbR (a b : List (List Int)) (f t : Int) : Int × Int × Bool := if wbT a b f t then (ent (dOf a) f.toNat t.toNat, ent (dOf b) f.toNat t.toNat, true) else (0, 0, false)
theorem wbR_no {a b : List (List Int)} {f t : Int} (h : wbT a b f t = false) : wbR a b f t = (0, 0, false) := by unfold wbR; rw [h]; rfl
theorem wbR_yes {a b : List (List Int)} {f t : Int} (h : wbT a b f t = true) : wbR a b f t = (ent (dOf a) f.toNat t.toNat, ent (dOf b) f.toNat t.toNat, true) := by unfold wbR; rw [h]; rfl
theorem wbT_way {a b : List (List Int)} {f t : Int} (h : wayB a b = false) : wbT a b f t = false := by unfold wbT; rw [h]; rfl
theorem wbT_f {a b : List (List Int)} {f t : Int} (h : inB f 0 ((a.length : Int) - 1) = false) : wbT a b f t = false := by unfold wbT; rw [h]; simp
theorem wbT_t {a b : List (List Int)} {f t : Int} (h : inB t 0 ((a.length : Int) - 1) = false) : wbT a b f t = false := by unfold wbT; rw [h]; simp
theorem wbT_ok {a b : List (List Int)} {f t : Int} (h : flOk a = false) : wbT a b f t = false := by unfold wbT; rw [h]; simp
theorem wbT_lo {a b : List (List Int)} {f t : Int} (h : finB (ent (dOf a) f.toNat t.toNat) = false) : wbT a b f t = false := by unfold wbT; rw [h]; simp
theorem wbT_hi {a b : List (List Int)} {f t : Int} (h : finB (ent (dOf b) f.toNat t.toNat) = false) : wbT a b f t = false := by unfold wbT; rw [h]; simp
theorem wbT_all {a b : List (List Int)} {f t : Int} (h1 : wayB a b = true) (h2 : inB f 0 ((a.length : Int) - 1) = true) (h3 : inB t 0 ((a.length : Int) - 1) = true) (h4 : flOk a = true) (h5 : finB (ent (dOf a) f.toNat t.toNat) = true) (h6 : finB (ent (dOf b) f.toNat t.toNat) = true) : wbT a b f t = true := by unfold wbT; rw [h1, h2, h3, h4, h5, h6]; rfl
theorem dOf_inf {a b : List (List Int)} (h : WayP a b) {i c : Nat} (hi : i < a.length) (hc : c < a.length) : ent (dOf a) i c = 1000000000 ↔ ent (dOf b) i c = 1000000000 := by
  have pa := squB_parts h.sa
  have pb := squB_parts h.sb
  have hl := h.len
  unfold dOf
  rw [hl]
  constructor
  · exact wyD_fin (a := b) (b := a) pb.2.2 pa.2.2 (by omega) (by omega) (fun i c hi hc q => (h.inf i c (by omega) (by omega)).1 q) a.length i c (by omega) (by omega) (by omega)
  · exact wyD_fin (a := a) (b := b) pa.2.2 pb.2.2 (by omega) (by omega) (fun i c hi hc q => (h.inf i c hi hc).2 q) a.length i c (by omega) (by omega) (by omega)
theorem numB_finB {x : Int} (h : x ≠ 1000000000) : numB x = finB x := by unfold numB; rw [beq_eq_false_iff_ne.2 h, Bool.or_false]
end Go.Proofs.Ytlomkebhopaliaa
namespace Go.Proofs.Ytlomkebhopaliaa
open Go.RowKit Go.Proofs
set_option linter.unusedSimpArgs false
set_option linter.unusedVariables false
theorem Fn.of_bd {P : Program} {f : FuncId} {vs : List V} {D : List (List Int)} {ok : Bool} (h : FnE P f vs (bdE D ok)) : Fn P f vs (.many [.pv (rows D), .pv (vb ok)]) := by
  refine ⟨h.entry, fun w S0 us hus => (h.runs w us (RdL.mono (fun _ _ _ => ⟨trivial, rfl⟩) _ _ hus)).mono ?_⟩
  rintro e w' ⟨r, u, φ, ⟨F, hF, rfl⟩, hnew, he, hh, us', rfl, hr⟩
  refine ⟨_, [], he, ⟨rfl, hh.below, fun id blk hi => by simp [bring, Res.list] at hi, fun i j bi bj b z z' hi => by simp [bring, Res.list] at hi⟩, us', rfl, ?_⟩
  match us', hr with
  | [u1, u2], ⟨r1, r2, _⟩ =>
    refine ⟨?_, r2, trivial⟩
    show Rd w' (Stab w S0 [] []) (rows D) u1
    have hb : (bring (Res.many [.fr 1 D.length ⟨30, D.length, F⟩, .pv (vb ok)]).list []).2[0]? = some (some ⟨30, D.length, F⟩) := rfl
    have hst : ∀ b, w.heap.size ≤ b → Stab w S0 [] [] b := fun b hb => ⟨.inr hb, fun ⟨i, x, z, h1, _⟩ => by simp at h1⟩
    rcases r1 with ⟨hφ, _, hl0, rfl⟩ | ⟨b', c, z, hφ, rfl, hc, _, _⟩
    · have hl0 : D.length = 0 := hl0
      exact ⟨none, 0, by rw [hl0], by omega, fun hp => by rw [hl0] at hp; omega⟩
    · rcases hh.blk 0 _ hb with ⟨h1, _⟩ | ⟨b'', cur, h1, h2, h3, h4, h5⟩
      · have e1 : φ[0]? = some (some (b', z)) := hφ
        rw [e1] at h1; cases h1
      · have e1 : φ[0]? = some (some (b', z)) := hφ
        rw [e1] at h1; injection h1 with h1; injection h1 with h1; injection h1 with h1 _
        subst h1
        refine ⟨_, c, rfl, hc, fun hp => ⟨b', 0, rfl, hst _ h2, fun i hi => ?_⟩⟩
        obtain ⟨x, hx1, hx2⟩ := h5 i (by show i < D.length; omega)
        have hi : i < D.length := by omega
        refine ⟨x, by rw [Nat.zero_add]; exact cell_of_blk h3 hx1, ?_⟩
        exact Bare.rd _ _ x (hF i hi).1.bare (NewV.rd (S' := Stab w S0 [] []) (fun Z hZ _ b hb => hst b (hZ b hb)) _ _ (hnew.1 i hi) hx2)
theorem implCosts_fn (m : List (List Int)) (h : squB m = true) : Fn Try.prog 25 [rows m] (.many [.pv (rows (if flOk m then dOf m else [])), .pv (vb (flOk m))]) := by
  have hp := squB_parts h
  have hf := Fn.of_bd (wayCosts_E m (by omega) hp.2.1 (flBd_of hp.2.2 (by omega)))
  cases e : flOk m with
  | false => rw [e] at hf; exact hf
  | true =>
    rw [e] at hf
    simp only [if_true] at hf ⊢
    rwa [mat_eq hp.2.2 (by omega) (rest_of_ok hp.2.2 (by omega) e)] at hf
theorem specCosts_fn (m : List (List Int)) (h : squB m = true) : Fn Try.prog 29 [rows m] (.many [.pv (rows (dOf m)), .pv (vb (flOk m))]) := by
  have hp := squB_parts h
  have hb := fun k (hk : k ≤ m.length + 1) => wyD_bd (k := k) hp.2.2 (by omega) hk
  have hf := Fn.of_bd (wyCosts_E m (by omega) hp.2.1 (wyD_bd0 hp.2) fun k hk => hb k (by omega))
  have e : eqM (wyD m m.length) (wyD m (m.length + 1)) = flOk m := by
    cases e : flOk m with
    | true => exact eq_of_rest (rest_of_ok hp.2.2 (by omega) e)
    | false =>
      cases e2 : eqM (wyD m m.length) (wyD m (m.length + 1)) with
      | false => rfl
      | true => rw [ok_of_fix hp.2.2 (by omega) (rest_of_eq e2)] at e; cases e
  rwa [e] at hf
theorem indexFuncC_fn (n : Nat) (f : Nat → V) (c : FuncId) (k : Nat) (cs : Nat → V) (p : Nat → Bool) (hn : n ≤ 1099511627776) (hf : ∀ i, i < n → Fn Try.prog c (f i :: tabV k cs) (.one (.pv (vb (p i))))) :
    Fn Try.prog 83 [.seq 1 n f, .clo c k cs] (.one (.pv (vi (firstN p n)))) := by
  refine Fn.of_body Try.call83 Try.func83 rfl Try.ntmps83 (ts := [4]) rfl (by simp) rfl (fun N => ?_)
  repeat' (first | (with_reducible first | refine then_normal ?_ | refine then_ret ?_ | refine then_exit ?_ | refine block_normal ?_ | refine block_ret ?_) | ((with_reducible show blockQ _ _ _ _); first | refine block_exit ?_ | refine block_exit_ne rfl ?_) | ((with_reducible show AWP _ _ _ _ _); first | (with_reducible first | refine AWP.seq ?_ | refine AWP.block ?_ | refine AWP.region ?_ | refine AWP.ret ?_ | refine AWP.exit ?_ | refine AWP.skip ?_) | refine AWP.drawn rfl (by kernel_rfl) ?_ | refine AWP.cond rfl ?_ ?_) | with_reducible refine ev_nil ?_ | ((first | ((with_reducible show evOps _ _ _ _ _ _); (first | refine ev_step rfl ?_ | refine ev_undef rfl rfl rfl ?_); intro K hK) | ((with_reducible show EvOpen _ _ _ _ _ _ _); refine ev_open ?_; intro K hK) | ((with_reducible show SkOpen _ _ _ _ _ _ _); refine sk_open ?_; intro K hK) | ((with_reducible show callK _ _ _ _ _ _ _ _); first | fail)); simp only [evOp, evQ, evB, withS, opd, kput, putS, upd, lookup, slotsOf, sz_ints, Nat.reduceEqDiff, Nat.reduceLT, Nat.zero_add, ↓reduceIte, eq_self, true_and, Option.isSome_some]) | refine ev_guard rfl rfl rfl ?_ ?_ | ((with_reducible show retQ _ _ _ _); simp only [eq_self]) | (with_reducible refine hK _ ?_; clear hK K) | (with_reducible refine And.intro ?_ ?_) | (with_reducible intro hc; try simp only [eq_self] at hc) | omega)
  refine AWP.loop_ent (fun j : Nat => ⟨[(0, .one (.pv (.seq 1 n f))), (1, .one (.pv (.clo c k cs))), (6, .one (.pv (.seq 1 n f))), (7, sc (.int .i64 n)), (8, sc (.int .i64 j))], [], 19⟩)
    (fun j => j ≤ n ∧ ∀ i, i < j → p i = false) (fun j => n - j) 0 ⟨by omega, by simp⟩ (by simp [Ent, EntS, EntH, SlE, VE.rfl', lookup]) ?_
  rintro j ⟨hj, hall⟩
  repeat' (first | (with_reducible first | refine then_normal ?_ | refine then_ret ?_ | refine then_exit ?_ | refine block_normal ?_ | refine block_ret ?_) | ((with_reducible show blockQ _ _ _ _); first | refine block_exit ?_ | refine block_exit_ne rfl ?_) | ((with_reducible show AWP _ _ _ _ _); first | (with_reducible first | refine AWP.seq ?_ | refine AWP.block ?_ | refine AWP.region ?_ | refine AWP.ret ?_ | refine AWP.exit ?_ | refine AWP.skip ?_) | refine AWP.drawn rfl (by kernel_rfl) ?_ | refine AWP.cond rfl ?_ ?_) | with_reducible refine ev_nil ?_ | ((first | ((with_reducible show evOps _ _ _ _ _ _); (first | refine ev_step rfl ?_ | refine ev_undef rfl rfl rfl ?_); intro K hK) | ((with_reducible show EvOpen _ _ _ _ _ _ _); refine ev_open ?_; intro K hK) | ((with_reducible show SkOpen _ _ _ _ _ _ _); refine sk_open ?_; intro K hK) | ((with_reducible show callK _ _ _ _ _ _ _ _); first  | (refine call_scalar (hf j (by omega)) (Nat.le_of_ble_eq_true rfl) rfl ?_))); simp only [evOp, evQ, dynK, binK, withS, opd, kput, putS, upd, lookup, argsK, bringIn, bring, Res.list, Res.slot, InK_i64, sz_ints, c_int, List.reverse_cons, List.reverse_nil, List.nil_append, List.cons_append, Nat.reduceEqDiff, Nat.reduceLT, Nat.mul_one, Nat.add_zero, ↓reduceIte, eq_self, true_and, Int.toNat_natCast]) | refine ev_guard rfl rfl rfl ?_ ?_ | ((with_reducible show retQ _ _ _ _); simp only [retQ, retOk, getL, lookup, Option.map_some, fitsL, fits, ND, srcs, Res.list, VE, Value.int.injEq, Nat.reduceEqDiff, ↓reduceIte, and_true, true_and]) | (with_reducible refine hK _ ?_; clear hK K) | (with_reducible refine And.intro ?_ ?_) | (with_reducible intro hc; try simp only [decide_eq_true_eq, decide_eq_false_iff_not, Int.not_lt] at hc) | omega)
  all_goals first
    | (rw [firstN_at hall ‹p j = true› (show j < n by omega)]; done)
    | exact ⟨j + 1, ⟨by omega, upto_succ hall ‹_›⟩, by omega, by simp [Ent, EntS, EntH, SlE, VE.rfl', lookup]⟩
    | (rw [firstN_none fun i hi => hall i (by omega)]; done)
    | trace_state
theorem containsFuncC_fn (n : Nat) (f : Nat → V) (c : FuncId) (k : Nat) (cs : Nat → V) (p : Nat → Bool) (hn : n ≤ 1099511627776) (hf : ∀ i, i < n → Fn Try.prog c (f i :: tabV k cs) (.one (.pv (vb (p i))))) :
    Fn Try.prog 57 [.seq 1 n f, .clo c k cs] (.one (.pv (vb (anyN n p)))) := by
  refine Fn.of_body Try.call57 Try.func57 rfl Try.ntmps57 (ts := [4]) rfl (by simp) rfl (fun N => ?_)
  repeat' (first | (with_reducible first | refine then_normal ?_ | refine then_ret ?_ | refine then_exit ?_ | refine block_normal ?_ | refine block_ret ?_) | ((with_reducible show blockQ _ _ _ _); first | refine block_exit ?_ | refine block_exit_ne rfl ?_) | ((with_reducible show AWP _ _ _ _ _); first | (with_reducible first | refine AWP.seq ?_ | refine AWP.block ?_ | refine AWP.region ?_ | refine AWP.ret ?_ | refine AWP.exit ?_ | refine AWP.skip ?_) | refine AWP.drawn rfl (by kernel_rfl) ?_ | refine AWP.cond rfl ?_ ?_) | with_reducible refine ev_nil ?_ | ((first | ((with_reducible show evOps _ _ _ _ _ _); (first | refine ev_step rfl ?_ | refine ev_undef rfl rfl rfl ?_); intro K hK) | ((with_reducible show EvOpen _ _ _ _ _ _ _); refine ev_open ?_; intro K hK) | ((with_reducible show SkOpen _ _ _ _ _ _ _); refine sk_open ?_; intro K hK) | ((with_reducible show callK _ _ _ _ _ _ _ _); first  | (refine call_scalar (indexFuncC_fn n f c k cs p hn hf) (Nat.le_of_ble_eq_true rfl) rfl ?_))); simp only [evOp, evQ, binK, withS, opd, kput, putS, upd, lookup, argsK, bringIn, bring, Res.list, Res.slot, slotsOf, List.reverse_cons, List.reverse_nil, List.nil_append, List.cons_append, Nat.reduceEqDiff, Nat.reduceLT, Nat.zero_add, ↓reduceIte, eq_self, true_and]) | refine ev_guard rfl rfl rfl ?_ ?_ | ((with_reducible show retQ _ _ _ _); simp only [retQ, retOk, getL, lookup, Option.map_some, fitsL, fits, ND, srcs, Res.list, VE, Value.bool.injEq, Nat.reduceEqDiff, ↓reduceIte, and_true]) | (with_reducible refine hK _ ?_; clear hK K) | (with_reducible refine And.intro ?_ ?_) | (with_reducible intro hc; try simp only [eq_self] at hc) | omega)
  all_goals first
    | exact anyN_first p n
    | trace_state
theorem areVertices1_fn (i : Int) (m : List (List Int)) (hm : m.length ≤ 1099511627776) : Fn Try.prog 58 [vi i, .pin 1 fun _ => rows m] (.one (.pv (vb (!inB i 0 ((m.length : Int) - 1))))) := by
  refine Fn.of_body Try.call58 Try.func58 rfl Try.ntmps58 (ts := [3]) rfl (by simp) rfl (fun N => ?_)
  repeat' (first | (with_reducible first | refine then_normal ?_ | refine then_ret ?_ | refine then_exit ?_ | refine block_normal ?_ | refine block_ret ?_) | ((with_reducible show blockQ _ _ _ _); first | refine block_exit ?_ | refine block_exit_ne rfl ?_) | ((with_reducible show AWP _ _ _ _ _); first | (with_reducible first | refine AWP.seq ?_ | refine AWP.block ?_ | refine AWP.region ?_ | refine AWP.ret ?_ | refine AWP.exit ?_ | refine AWP.skip ?_) | refine AWP.drawn rfl (by kernel_rfl) ?_ | refine AWP.cond rfl ?_ ?_) | with_reducible refine ev_nil ?_ | ((first | ((with_reducible show evOps _ _ _ _ _ _); (first | refine ev_step rfl ?_ | refine ev_undef rfl rfl rfl ?_); intro K hK) | ((with_reducible show EvOpen _ _ _ _ _ _ _); refine ev_open ?_; intro K hK) | ((with_reducible show SkOpen _ _ _ _ _ _ _); refine sk_open ?_; intro K hK) | ((with_reducible show callK _ _ _ _ _ _ _ _); first  | (refine call_scalar (within_fn _ _ _) (Nat.le_of_ble_eq_true rfl) rfl ?_))); simp only [evOp, evQ, evB, binK, withS, opd, kput, putS, upd, lookup, argsK, bringIn, bring, Res.list, Res.slot, slotsOf, InK_i64, sz_rows, c_rows, List.reverse_cons, List.reverse_nil, List.nil_append, List.cons_append, Nat.reduceEqDiff, Nat.reduceLT, Nat.zero_add, ↓reduceIte, eq_self, true_and, Option.isSome_some]) | refine ev_guard rfl rfl rfl ?_ ?_ | ((with_reducible show retQ _ _ _ _); simp only [retQ, retOk, getL, lookup, Option.map_some, fitsL, fits, ND, srcs, Res.list, VE, Nat.reduceEqDiff, ↓reduceIte, and_true]) | (with_reducible refine hK _ ?_; clear hK K) | (with_reducible refine And.intro ?_ ?_) | (with_reducible intro hc; try simp only [eq_self] at hc) | omega)
def vertB (n : Nat) (l : Nat → Int) (k : Nat) : Bool := allN k fun i => inB (l i) 0 ((n : Int) - 1)
theorem areVertices_fn (m : List (List Int)) (k : Nat) (g : Nat → V) (l : Nat → Int) (hm : m.length ≤ 1099511627776) (hk : k ≤ 1099511627776) (hg : ∀ i, i < k → g i = vi (l i)) : Fn Try.prog 24 [rows m, .seq 1 k g] (.one (.pv (vb (vertB m.length l k)))) := by
  refine Fn.of_body Try.call24 Try.func24 rfl Try.ntmps24 (ts := [4]) rfl (by simp) rfl (fun N => ?_)
  refine AWP.seq_cut ⟨[(0, .one (.pv (rows m))), (1, .one (.pv (.seq 1 k g))), (2, .one (.ptr 0 0))], [some ⟨24, 1, fun _ => rows m⟩], 9⟩ ?_ (AWP.freeze 2 0 rfl rfl ?_)
  · repeat' (first | (with_reducible first | refine then_normal ?_ | refine then_ret ?_ | refine then_exit ?_ | refine block_normal ?_ | refine block_ret ?_) | ((with_reducible show blockQ _ _ _ _); first | refine block_exit ?_ | refine block_exit_ne rfl ?_) | ((with_reducible show AWP _ _ _ _ _); first | (with_reducible first | refine AWP.seq ?_ | refine AWP.block ?_ | refine AWP.region ?_ | refine AWP.ret ?_ | refine AWP.exit ?_ | refine AWP.skip ?_) | refine AWP.drawn rfl (by kernel_rfl) ?_ | refine AWP.cond rfl ?_ ?_) | with_reducible refine ev_nil ?_ | ((first | ((with_reducible show evOps _ _ _ _ _ _); (first | refine ev_step rfl ?_ | refine ev_undef rfl rfl rfl ?_); intro K hK) | ((with_reducible show EvOpen _ _ _ _ _ _ _); refine ev_open ?_; intro K hK) | ((with_reducible show SkOpen _ _ _ _ _ _ _); refine sk_open ?_; intro K hK) | ((with_reducible show callK _ _ _ _ _ _ _ _); first | fail)); simp only [evOp, evQ, withS, opd, kput, putS, upd, lookup, slotsOf, frz, newBlk, boxV, V.one, List.nil_append, List.length_nil, Nat.reduceEqDiff, Nat.reduceLT, Nat.zero_add, ↓reduceIte, eq_self, true_and]) | refine ev_guard rfl rfl rfl ?_ ?_ | ((with_reducible show retQ _ _ _ _); simp only [eq_self]) | (with_reducible refine hK _ ?_; clear hK K) | (with_reducible refine And.intro ?_ ?_) | (with_reducible intro hc; try simp only [eq_self] at hc) | omega)
    all_goals simp [Ent, EntS, EntH, SlE, VE.rfl', lookup, BE]
  · repeat' (first | (with_reducible first | refine then_normal ?_ | refine then_ret ?_ | refine then_exit ?_ | refine block_normal ?_ | refine block_ret ?_) | ((with_reducible show blockQ _ _ _ _); first | refine block_exit ?_ | refine block_exit_ne rfl ?_) | ((with_reducible show AWP _ _ _ _ _); first | (with_reducible first | refine AWP.seq ?_ | refine AWP.block ?_ | refine AWP.region ?_ | refine AWP.ret ?_ | refine AWP.exit ?_ | refine AWP.skip ?_) | refine AWP.drawn rfl (by kernel_rfl) ?_ | refine AWP.cond rfl ?_ ?_) | with_reducible refine ev_nil ?_ | ((first | ((with_reducible show evOps _ _ _ _ _ _); (first | refine ev_step rfl ?_ | refine ev_undef rfl rfl rfl ?_); intro K hK) | ((with_reducible show EvOpen _ _ _ _ _ _ _); refine ev_open ?_; intro K hK) | ((with_reducible show SkOpen _ _ _ _ _ _ _); refine sk_open ?_; intro K hK) | ((with_reducible show callK _ _ _ _ _ _ _ _); first  | (refine call_scalar (containsFuncC_fn k g 58 1 (fun i => [V.pin 1 fun _ => rows m].getD i (.val undef)) (fun i => !inB (l i) 0 ((m.length : Int) - 1)) hk (fun i hi => (hg i hi).symm ▸ areVertices1_fn (l i) m hm)) (Nat.le_of_ble_eq_true rfl) rfl ?_))); simp only [evOp, evQ, capsK, withS, opd, kput, putS, upd, lookup, argsK, bringIn, bring, Res.list, Res.slot, List.set_cons_zero, List.reverse_cons, List.reverse_nil, List.nil_append, List.cons_append, List.length_cons, List.length_nil, Nat.reduceEqDiff, Nat.reduceLT, Nat.zero_add, ↓reduceIte, eq_self, true_and]) | refine ev_guard rfl rfl rfl ?_ ?_ | ((with_reducible show retQ _ _ _ _); simp only [retQ, retOk, getL, lookup, Option.map_some, fitsL, fits, ND, srcs, Res.list, VE, Value.bool.injEq, Nat.reduceEqDiff, ↓reduceIte, and_true]) | (with_reducible refine hK _ ?_; clear hK K) | (with_reducible refine And.intro ?_ ?_) | (with_reducible intro hc; try simp only [eq_self] at hc) | omega)
    all_goals first
      | (simp [anyN, vertB]; done)
      | trace_state
open Go.RowKit Go.Proofs
set_option linter.unusedSimpArgs false
set_option linter.unusedVariables false
theorem poFiniteW_fn (n : Int) : Fn Try.prog 30 [vi n] (.one (.pv (vb (finB n)))) := by
  refine Fn.of_body Try.call30 Try.func30 rfl Try.ntmps30 (ts := [2]) rfl (by simp) rfl (fun N => ?_)
  repeat' (first | (with_reducible first | refine then_normal ?_ | refine then_ret ?_ | refine then_exit ?_ | refine block_normal ?_ | refine block_ret ?_) | ((with_reducible show blockQ _ _ _ _); first | refine block_exit ?_ | refine block_exit_ne rfl ?_) | ((with_reducible show AWP _ _ _ _ _); first | (with_reducible first | refine AWP.seq ?_ | refine AWP.block ?_ | refine AWP.region ?_ | refine AWP.ret ?_ | refine AWP.exit ?_ | refine AWP.skip ?_) | refine AWP.drawn rfl (by kernel_rfl) ?_ | refine AWP.cond rfl ?_ ?_) | with_reducible refine ev_nil ?_ | ((first | ((with_reducible show evOps _ _ _ _ _ _); (first | refine ev_step rfl ?_ | refine ev_undef rfl rfl rfl ?_); intro K hK) | ((with_reducible show EvOpen _ _ _ _ _ _ _); refine ev_open ?_; intro K hK) | ((with_reducible show SkOpen _ _ _ _ _ _ _); refine sk_open ?_; intro K hK) | ((with_reducible show callK _ _ _ _ _ _ _ _); first  | (refine call_scalar (l1In_fn n (-1000000) 1000000) (Nat.le_of_ble_eq_true rfl) rfl ?_))); simp only [evOp, evQ, withS, opd, kput, putS, upd, lookup, argsK, bringIn, bring, Res.list, Res.slot, slotsOf, List.reverse_cons, List.reverse_nil, List.nil_append, List.cons_append, Nat.reduceEqDiff, Nat.reduceLT, ↓reduceIte, eq_self, true_and]) | refine ev_guard rfl rfl rfl ?_ ?_ | ((with_reducible show retQ _ _ _ _); simp only [retQ, retOk, getL, lookup, Option.map_some, fitsL, fits, ND, srcs, Res.list, VE, Value.bool.injEq, Nat.reduceEqDiff, ↓reduceIte, and_true]) | (with_reducible refine hK _ ?_; clear hK K) | (with_reducible refine And.intro ?_ ?_) | (with_reducible intro hc; try simp only [eq_self] at hc) | omega)
  all_goals rfl
abbrev wb3 (x : Int × Int × Bool) : Res := .many [.pv (vi x.1), .pv (vi x.2.1), .pv (vb x.2.2)]
theorem dOf_lens (m : List (List Int)) : (dOf m).length = m.length ∧ ∀ i, i < m.length → (rowAt (dOf m) i).length = m.length := ⟨wyD_len m _, fun i hi => wyD_row m hi _⟩
theorem numsB2 (x y : Int) : numsB [x, y] = (numB x && numB y) := by simp [numsB, allN, List.range_succ]
end Go.Proofs.Ytlomkebhopaliaa
namespace Go.Proofs.Ytlomkebhopaliaa
set_option linter.unusedSimpArgs false
set_option linter.unusedVariables false
theorem nat_pp (k : Nat) : ((k : Int) + 1 - 1).toNat = k := by omega
theorem nat_m1 (k : Nat) : ((k : Int) - 1).toNat = k - 1 := by omega
theorem nat_p1 (k : Nat) : ((k : Int) + 1).toNat = k + 1 := by omega
def vtx (way : List Int) (i : Nat) : Nat := (way.getD i 0).toNat
def costK (m : List (List Int)) (way : List Int) : Nat → Int
  | 0 => 0
  | k + 1 => plusI (costK m way k) (ent m (vtx way k) (vtx way (k + 1)))
def sumK (m : List (List Int)) (way : List Int) : Nat → Int
  | 0 => 0
  | k + 1 => sumK m way k + ent m (vtx way k) (vtx way (k + 1))
def mixX (low high : List (List Int)) (way : List Int) (k : Nat) : Mx := foldM (fun Y i => updM Y (vtx way i) (vtx way (i + 1)) (ent high (vtx way i) (vtx way (i + 1)))) (ent low) k
theorem mixX_succ (low high : List (List Int)) (way : List Int) (k : Nat) : mixX low high way (k + 1) = updM (mixX low high way k) (vtx way k) (vtx way (k + 1)) (ent high (vtx way k) (vtx way (k + 1))) := rfl
theorem mixX_or {low high : List (List Int)} {way : List Int} (p q : Nat) : ∀ k, mixX low high way k p q = ent low p q ∨ mixX low high way k p q = ent high p q
  | 0 => .inl rfl
  | k + 1 => by
    rw [mixX_succ]
    unfold updM
    by_cases e : p = vtx way k ∧ q = vtx way (k + 1)
    · rw [if_pos e, e.1, e.2]; exact .inr rfl
    · rw [if_neg e]; exact mixX_or p q k
theorem mixX_at {low high : List (List Int)} {way : List Int} {i : Nat} : ∀ {k}, i < k → mixX low high way k (vtx way i) (vtx way (i + 1)) = ent high (vtx way i) (vtx way (i + 1))
  | 0, h => by omega
  | k + 1, h => by
    rw [mixX_succ]
    unfold updM
    by_cases e : vtx way i = vtx way k ∧ vtx way (i + 1) = vtx way (k + 1)
    · rw [if_pos e, e.1, e.2]
    · rw [if_neg e]
      have : i ≠ k := fun h => e (by rw [h]; exact ⟨rfl, rfl⟩)
      exact mixX_at (by omega)
theorem vtx_lt {n : Nat} {way : List Int} (h : vertB n (fun i => way.getD i 0) way.length = true) {i : Nat} (hi : i < way.length) : (0 ≤ way.getD i 0 ∧ way.getD i 0 < n) ∧ vtx way i < n := by
  have h1 : 0 ≤ way.getD i 0 ∧ way.getD i 0 ≤ (n : Int) - 1 := inB_true.1 (allN_iff.1 h i hi)
  unfold vtx
  omega
def stepsB (m : List (List Int)) (way : List Int) (k : Nat) : Bool := allN k fun i => ent m (vtx way i) (vtx way (i + 1)) != 1000000000
theorem costK_fin {m : List (List Int)} {way : List Int} (hm : numM m) (hv : vertB m.length (fun i => way.getD i 0) way.length = true) : ∀ k, k + 1 ≤ way.length → (stepsB m way k = true → -1000000 * (k : Int) ≤ costK m way k ∧ costK m way k ≤ 1000000 * (k : Int)) ∧ (stepsB m way k = false → costK m way k = 1000000000)
  | 0, _ => ⟨fun _ => by show _ ≤ (0 : Int) ∧ (0 : Int) ≤ _; omega, fun h => by simp [stepsB, allN] at h⟩
  | k + 1, hk => by
    have ih := costK_fin hm hv k (by omega)
    have hn := hm (vtx way k) (vtx way (k + 1)) (vtx_lt hv (by omega)).2 (vtx_lt hv (by omega)).2
    show (_ → _ ≤ plusI (costK m way k) (ent m (vtx way k) (vtx way (k + 1))) ∧ plusI (costK m way k) (ent m (vtx way k) (vtx way (k + 1))) ≤ _) ∧ (_ → plusI (costK m way k) (ent m (vtx way k) (vtx way (k + 1))) = _)
    refine ⟨fun h => ?_, fun h => ?_⟩
    · have h1 : stepsB m way k = true := allN_true fun i hi => allN_iff.1 h i (by omega)
      have h2 := allN_iff.1 h k (by omega)
      simp only [bne_iff_ne] at h2
      have b := ih.1 h1
      by_cases e : costK m way k = 1000000000
      · rw [plusI_a e]; omega
      · rw [plusI_ab e h2]; omega
    · by_cases e : ent m (vtx way k) (vtx way (k + 1)) = 1000000000
      · exact plusI_b e
      · cases h1 : stepsB m way k with
        | false => exact plusI_a (ih.2 h1)
        | true =>
          have : stepsB m way (k + 1) = true := allN_true fun i hi => by
            rcases Nat.lt_or_ge i k with h2 | h2
            · exact allN_iff.1 h1 i h2
            · rw [show i = k by omega]; simpa using e
          rw [this] at h; cases h
theorem costK_sum {m h : List (List Int)} {way : List Int} : ∀ k, (∀ i, i < k → ent m (vtx way i) (vtx way (i + 1)) = ent h (vtx way i) (vtx way (i + 1)) ∧ ent h (vtx way i) (vtx way (i + 1)) ≠ 1000000000) → (∀ i, i ≤ k → costK m way i ≠ 1000000000) → costK m way k = sumK h way k
  | 0, _, _ => rfl
  | k + 1, h1, h2 => by
    show plusI (costK m way k) (ent m (vtx way k) (vtx way (k + 1))) = sumK h way k + ent h (vtx way k) (vtx way (k + 1))
    rw [(h1 k (by omega)).1, plusI_ab (h2 k (by omega)) (h1 k (by omega)).2, costK_sum k (fun i hi => h1 i (by omega)) fun i hi => h2 i (by omega)]
theorem sumK_bd {m : List (List Int)} {way : List Int} (hm : ∀ i, i + 1 < way.length → -1000000 ≤ ent m (vtx way i) (vtx way (i + 1)) ∧ ent m (vtx way i) (vtx way (i + 1)) ≤ 1000000) : ∀ k, k + 1 ≤ way.length → -1000000 * (k : Int) ≤ sumK m way k ∧ sumK m way k ≤ 1000000 * (k : Int)
  | 0, _ => by show _ ≤ (0 : Int) ∧ (0 : Int) ≤ _; omega
  | k + 1, hk => by
    have := sumK_bd hm k (by omega)
    have := hm k (by omega)
    show _ ≤ sumK m way k + ent m (vtx way k) (vtx way (k + 1)) ∧ sumK m way k + ent m (vtx way k) (vtx way (k + 1)) ≤ _
    omega
theorem squB_mk {m : List (List Int)} (h0 : 1 ≤ m.length ∧ m.length ≤ 6) (hr : ∀ i, i < m.length → (rowAt m i).length = m.length) (hm : numM m) : squB m = true := by
  have hrow : ∀ i, i < m.length → mrowB (rowAt m 0).length (rowAt m i) = true := fun i hi => by
    unfold mrowB vecB
    have h1 := hr i hi
    have h2 := hr 0 (by omega)
    simp only [Bool.and_eq_true, beq_iff_eq]
    refine ⟨⟨inB_true.2 (by omega), allN_true fun j hj => ?_⟩, by omega⟩
    have h3 := hm i j hi (by omega)
    have e : ent m i j = (rowAt m i).getD j 0 := rfl
    rw [e] at h3
    rcases h3 with h3 | h3
    · exact numB_inf h3
    · exact numB_fin h3
  have hmat : matB m = true := by rw [matB_is (by omega)]; exact allN_true hrow
  rw [squB_is hmat, hr 0 (by omega)]; simp
def mixL (low high : List (List Int)) (way : List Int) : List (List Int) := matL low.length (mixX low high way (way.length - 1))
theorem mixL_ok {a b : List (List Int)} (hp : WayP a b) (way : List Int) : squB (mixL a b way) = true ∧ (mixL a b way).length = a.length ∧ ∀ i c, i < a.length → c < a.length → ent a i c ≤ ent (mixL a b way) i c := by
  have pa := squB_parts hp.sa
  have pb := squB_parts hp.sb
  have hl := hp.len
  have e : ∀ i c, i < a.length → c < a.length → ent (mixL a b way) i c = mixX a b way (way.length - 1) i c := fun i c hi hc => matL_ent hi hc
  have hlen : (mixL a b way).length = a.length := matL_len _ _
  refine ⟨squB_mk (by omega) (fun i hi => by rw [hlen] at hi ⊢; exact matL_row_len hi) fun i c hi hc => ?_, hlen, fun i c hi hc => ?_⟩
  · rw [hlen] at hi hc
    rw [e i c hi hc]
    rcases mixX_or (low := a) (high := b) (way := way) i c (way.length - 1) with h | h <;> rw [h]
    · exact pa.2.2 i c hi hc
    · exact pb.2.2 i c (by omega) (by omega)
  · rw [e i c hi hc]
    rcases mixX_or (low := a) (high := b) (way := way) i c (way.length - 1) with h | h <;> rw [h]
    · exact Int.le_refl _
    · exact hp.le i c hi hc
def wayOk (m : List (List Int)) (way : List Int) : Bool := inB way.length 1 20 && vertB m.length (fun i => way.getD i 0) way.length && stepsB m way (way.length - 1)
def swT (a b : List (List Int)) (way : List Int) : Bool := wayB a b && wayOk a way && flOk a
def swV (a b : List (List Int)) (way : List Int) : Bool := ent (dOf (mixL a b way)) (vtx way 0) (vtx way (way.length - 1)) == sumK b way (way.length - 1)
def swR (a b : List (List Int)) (way : List Int) : Bool × Bool := if swT a b way then (swV a b way, true) else (false, false)
theorem swR_no {a b : List (List Int)} {way : List Int} (h : swT a b way = false) : swR a b way = (false, false) := by unfold swR; rw [h]; rfl
theorem swR_yes {a b : List (List Int)} {way : List Int} (h : swT a b way = true) : swR a b way = (swV a b way, true) := by unfold swR; rw [h]; rfl
theorem swT_way {a b : List (List Int)} {way : List Int} (h : wayB a b = false) : swT a b way = false := by unfold swT; rw [h]; rfl
theorem swT_ok {a b : List (List Int)} {way : List Int} (h : wayOk a way = false) : swT a b way = false := by unfold swT; rw [h]; simp
theorem swT_fl {a b : List (List Int)} {way : List Int} (h : flOk a = false) : swT a b way = false := by unfold swT; rw [h]; simp
theorem swT_all {a b : List (List Int)} {way : List Int} (h : wayB a b = true) (h1 : wayOk a way = true) (h2 : flOk a = true) : swT a b way = true := by unfold swT; rw [h, h1, h2]; rfl
theorem wayOk_len {m : List (List Int)} {way : List Int} (h : ¬ (1 ≤ (way.length : Int) ∧ (way.length : Int) ≤ 20)) : wayOk m way = false := by unfold wayOk; rw [inB_false.2 h]; rfl
theorem wayOk_v {m : List (List Int)} {way : List Int} (h : vertB m.length (fun i => way.getD i 0) way.length = false) : wayOk m way = false := by unfold wayOk; rw [h]; simp
theorem wayOk_is {m : List (List Int)} {way : List Int} (h : 1 ≤ (way.length : Int) ∧ (way.length : Int) ≤ 20) (h2 : vertB m.length (fun i => way.getD i 0) way.length = true) : wayOk m way = stepsB m way (way.length - 1) := by unfold wayOk; rw [inB_true.2 h, h2]; rfl
theorem wayOk_cost {m : List (List Int)} {way : List Int} (hm : numM m) (h : 1 ≤ (way.length : Int) ∧ (way.length : Int) ≤ 20) (h2 : vertB m.length (fun i => way.getD i 0) way.length = true) : wayOk m way = (costK m way (way.length - 1) != 1000000000) := by
  rw [wayOk_is h h2]
  have := costK_fin hm h2 (way.length - 1) (by omega)
  cases e : stepsB m way (way.length - 1) with
  | true => have := this.1 e; symm; simp only [bne_iff_ne]; omega
  | false => rw [this.2 e]; rfl
theorem wayOk_parts {m : List (List Int)} {way : List Int} (h : wayOk m way = true) : (1 ≤ (way.length : Int) ∧ (way.length : Int) ≤ 20) ∧ vertB m.length (fun i => way.getD i 0) way.length = true ∧ stepsB m way (way.length - 1) = true := by
  unfold wayOk at h
  simp only [Bool.and_eq_true] at h
  exact ⟨inB_true.1 h.1.1, h.1.2, h.2⟩
theorem mix_cost {a b : List (List Int)} {way : List Int} (hp : WayP a b) (hw : wayOk a way = true) : costK (mixL a b way) way (way.length - 1) = sumK b way (way.length - 1) ∧ (∀ i, i + 1 < way.length → -1000000 ≤ ent b (vtx way i) (vtx way (i + 1)) ∧ ent b (vtx way i) (vtx way (i + 1)) ≤ 1000000) := by
  obtain ⟨h1, h2, h3⟩ := wayOk_parts hw
  have hm := mixL_ok hp way
  have pm := squB_parts hm.1
  have pb := squB_parts hp.sb
  have hl := hp.len
  have key : ∀ i, i < way.length - 1 → ent (mixL a b way) (vtx way i) (vtx way (i + 1)) = ent b (vtx way i) (vtx way (i + 1)) ∧ ent b (vtx way i) (vtx way (i + 1)) ≠ 1000000000 := fun i hi => by
    have v1 := (vtx_lt h2 (i := i) (by omega)).2
    have v2 := (vtx_lt h2 (i := i + 1) (by omega)).2
    refine ⟨(matL_ent v1 v2).trans (mixX_at hi), fun e => ?_⟩
    have := allN_iff.1 h3 i hi
    simp only [bne_iff_ne] at this
    exact this ((hp.inf _ _ v1 v2).2 e)
  have hv : vertB (mixL a b way).length (fun i => way.getD i 0) way.length = true := by rw [hm.2.1]; exact h2
  refine ⟨costK_sum _ key fun i hi => ?_, fun i hi => ?_⟩
  · have := (costK_fin pm.2.2 hv i (by omega)).1 (allN_true fun j hj => by
      have := key j (by omega)
      rw [this.1]; simpa using this.2)
    omega
  · have v1 := (vtx_lt h2 (i := i) (by omega)).2
    have v2 := (vtx_lt h2 (i := i + 1) (by omega)).2
    have := pb.2.2 _ _ (by omega : vtx way i < b.length) (by omega : vtx way (i + 1) < b.length)
    have := (key i (by omega)).2
    omega
end Go.Proofs.Ytlomkebhopaliaa
namespace Go.Proofs.Ytlomkebhopaliaa
set_option linter.unusedSimpArgs false
set_option linter.unusedVariables false
/-! ### What the rounds say where they rest -/
structure Rest (m : List (List Int)) (D : Mx) : Prop where
  tri : ∀ i j c, i < m.length → j < m.length → c < m.length → D i c ≤ plusI (D i j) (D j c)
  diag : ∀ i, i < m.length → D i i = 0
  le : ∀ i c, i < m.length → c < m.length → D i c ≤ ent m i c
  num : ∀ i c, i < m.length → c < m.length → D i c = 1000000000 ∨ (-6000000 ≤ D i c ∧ D i c ≤ 6000000)
  low : ∀ F : Mx, (∀ i c, i < m.length → c < m.length → F i c ≤ ent m i c) → (∀ i c, i < m.length → c < m.length → F i c ≤ 1000000000) → (∀ i, i < m.length → F i i ≤ 0) →
    (∀ j i c, j < m.length → i < m.length → c < m.length → F i c ≤ plusI (F i j) (F j c)) → ∀ i c, i < m.length → c < m.length → F i c ≤ D i c
theorem rest_is {m : List (List Int)} (hs : squB m = true) (hok : flOk m = true) : Rest m (ent (dOf m)) := by
  obtain ⟨hn, hr, hm⟩ := squB_parts hs
  have hfix := rest_of_ok hm hn.2 hok
  have ht : ∀ i j c, i < m.length → j < m.length → c < m.length → ent (dOf m) i c ≤ plusI (ent (dOf m) i j) (ent (dOf m) j c) := fun i j c hi hj hc => tri_wyD hm hn.2 hfix m.length i j c (Nat.le_refl _) hi hj hc
  have hd : ∀ i, i < m.length → ent (dOf m) i i = 0 := fun i hi => by
    have h1 := wyD_diag (m := m) hi m.length
    change ent (dOf m) i i ≤ 0 at h1
    have h2 := of_plusI (ht i i i hi hi hi) (by omega) (by omega)
    omega
  refine ⟨ht, hd, fun i c hi hc => ?_, fun i c hi hc => ?_, fun F h1 h2 h3 h4 i c hi hc => below_wyD hm h1 h2 h3 h4 _ i c hi hc⟩
  · have h1 := hfix i c hi hc ▸ wyD_via (k := m.length) hi hc hi
    change ent (dOf m) i c ≤ plusI (ent (dOf m) i i) (ent m i c) at h1
    rw [hd i hi, plusI_zero_l] at h1
    exact h1
  · have := wyD_num hm m.length i c hi hc
    change ent (dOf m) i c = 1000000000 ∨ _ at this
    rcases this with h | h
    · exact .inl h
    · refine .inr ?_
      have h2 : -1000000 * (m.length : Int) ≤ ent (dOf m) i c ∧ ent (dOf m) i c ≤ 1000000 * (m.length : Int) := h
      omega
theorem dOf_up {a b : List (List Int)} (ha : squB a = true) (hb : squB b = true) (oa : flOk a = true) (ob : flOk b = true) (hl : b.length = a.length) (hle : ∀ i c, i < a.length → c < a.length → ent a i c ≤ ent b i c) {i c : Nat} (hi : i < a.length) (hc : c < a.length) : ent (dOf a) i c ≤ ent (dOf b) i c := by
  have ra := rest_is ha oa
  have rb := rest_is hb ob
  refine rb.low (ent (dOf a)) (fun i c hi hc => ?_) (fun i c hi hc => ?_) (fun i hi => ?_) (fun j i c hj hi hc => ra.tri i j c (by omega) (by omega) (by omega)) i c (by omega) (by omega)
  · exact Int.le_trans (ra.le i c (by omega) (by omega)) (hle i c (by omega) (by omega))
  · rcases ra.num i c (by omega) (by omega) with h | h <;> omega
  · rw [ra.diag i (by omega)]; exact Int.le_refl _
/-! ### Exact steps -/
def exN (m : List (List Int)) (t : Nat) : Nat → Nat → Int
  | 0, v => if v = t then 0 else 1000000000
  | s + 1, v => leastN (fun k => plusI (ent m v k) (exN m t s k)) m.length
theorem leastN_congr {g h : Nat → Int} : ∀ {n}, (∀ i, i < n → g i = h i) → leastN g n = leastN h n
  | 0, _ => rfl
  | n + 1, e => by rw [leastN_min, leastN_min, leastN_congr (n := n) fun i hi => e i (by omega), e n (by omega)]
theorem leastN_meet (g : Nat → Int) : ∀ n, leastN g n = 1000000000 ∨ ∃ i, i < n ∧ leastN g n = g i
  | 0 => .inl rfl
  | n + 1 => by
    rw [leastN_min]
    rcases leastN_meet g n with h | ⟨i, hi, h⟩
    · by_cases e : leastN g n ≤ g n
      · exact .inl (by rw [Int.min_eq_left e]; exact h)
      · exact .inr ⟨n, by omega, Int.min_eq_right (by omega)⟩
    · by_cases e : leastN g n ≤ g n
      · exact .inr ⟨i, by omega, by rw [Int.min_eq_left e]; exact h⟩
      · exact .inr ⟨n, by omega, Int.min_eq_right (by omega)⟩
theorem exN_inf {m : List (List Int)} {t : Nat} : ∀ s v, exN m t s v ≤ 1000000000
  | 0, v => by show (if _ then _ else _) ≤ _; split <;> omega
  | s + 1, v => leastN_inf _ _
theorem exN_num {m : List (List Int)} {t : Nat} (hm : numM m) : ∀ s v, v < m.length → exN m t s v = 1000000000 ∨ (-1000000 * (s : Int) ≤ exN m t s v ∧ exN m t s v ≤ 1000000 * (s : Int))
  | 0, v, _ => by show (if _ then _ else _) = _ ∨ (_ ≤ (if _ then _ else _) ∧ (if _ then _ else _) ≤ _); split <;> omega
  | s + 1, v, hv => by
    rcases leastN_meet (fun k => plusI (ent m v k) (exN m t s k)) m.length with h | ⟨k, hk, h⟩
    · exact .inl h
    · have e : exN m t (s + 1) v = plusI (ent m v k) (exN m t s k) := h
      have h1 := exN_num (t := t) hm s k hk
      have h2 := hm v k hv hk
      rw [e]
      rcases plusI_cases (ent m v k) (exN m t s k) with ⟨_, e2⟩ | ⟨h3, h4, e2⟩ <;> rw [e2] <;> omega
theorem exN_step {m : List (List Int)} {t s v k : Nat} (hk : k < m.length) : exN m t (s + 1) v ≤ plusI (ent m v k) (exN m t s k) := leastN_le _ _ _ hk
theorem exN_app {m : List (List Int)} {j t : Nat} (hm : numM m) (hj : j < m.length) (ht : t < m.length) : ∀ s v, v < m.length → s ≤ 20 → exN m t (s + 1) v ≤ plusI (exN m j s v) (ent m j t)
  | 0, v, hv, _ => by
    by_cases e : v = j
    · subst e
      have h1 : exN m v 0 v = 0 := if_pos rfl
      have h2 : exN m t 0 t = 0 := if_pos rfl
      have := exN_step (m := m) (t := t) (s := 0) (v := v) ht
      rw [h2, plusI_zero_r] at this
      rw [h1, plusI_zero_l]; exact this
    · have h1 : exN m j 0 v = 1000000000 := if_neg e
      rw [plusI_a h1]; exact exN_inf _ _
  | s + 1, v, hv, hs => by
    refine le_plusI (exN_inf _ _) fun h1 h2 => ?_
    rcases leastN_meet (fun k => plusI (ent m v k) (exN m j s k)) m.length with h | ⟨k, hk, h⟩
    · exact absurd h h1
    · have e : exN m j (s + 1) v = plusI (ent m v k) (exN m j s k) := h
      rcases plusI_cases (ent m v k) (exN m j s k) with ⟨_, e2⟩ | ⟨h3, h4, e2⟩
      · rw [e, e2] at h1; exact absurd rfl h1
      have ih := of_plusI (exN_app hm hj ht s k hk (by omega)) h4 h2
      have n1 := exN_num (t := j) hm s k hk
      have n2 := hm j t hj ht
      have n3 := hm v k hv hk
      have st := of_plusI (exN_step (m := m) (t := t) (s := s + 1) (v := v) hk) h3 (by omega)
      omega
theorem exN_of {m : List (List Int)} (hm : numM m) : ∀ k i c, k ≤ 20 → i < m.length → c < m.length → ent (wyD m k) i c ≠ 1000000000 → ∃ s, s ≤ k ∧ exN m c s i ≤ ent (wyD m k) i c
  | 0, i, c, _, hi, hc, h => by
    rw [wyD_zero hi hc] at h ⊢
    by_cases e : i = c
    · exact ⟨0, Nat.le_refl _, by rw [if_pos e]; show (if _ then _ else _) ≤ _; rw [if_pos e]; exact Int.le_refl _⟩
    · rw [if_neg e] at h; exact absurd rfl h
  | k + 1, i, c, hk, hi, hc, h => by
    rcases wyD_from (k := k) hi hc with e | ⟨j, hj, e⟩
    · rw [e] at h ⊢
      obtain ⟨s, h1, h2⟩ := exN_of hm k i c (by omega) hi hc h
      exact ⟨s, by omega, h2⟩
    · rw [e] at h ⊢
      rcases plusI_cases (ent (wyD m k) i j) (ent m j c) with ⟨_, e2⟩ | ⟨h3, h4, e2⟩
      · rw [e2] at h; exact absurd rfl h
      obtain ⟨s, h1, h2⟩ := exN_of hm k i j (by omega) hi hj h3
      refine ⟨s + 1, by omega, ?_⟩
      have n1 := wyD_num hm k i j hi hj
      have := of_plusI (exN_app hm hj hc s i hi (by omega)) (by omega) h4
      rw [e2]; omega
theorem exN_ge {m : List (List Int)} {D : Mx} (hm : numM m) (h : Rest m D) {t : Nat} (ht : t < m.length) : ∀ s v, v < m.length → D v t ≤ exN m t s v
  | 0, v, hv => by
    show _ ≤ (if _ then _ else _)
    split
    · rename_i e; subst e; rw [h.diag v hv]; exact Int.le_refl _
    · rcases h.num v t hv ht with h1 | h1 <;> omega
  | s + 1, v, hv => by
    rcases leastN_meet (fun k => plusI (ent m v k) (exN m t s k)) m.length with h1 | ⟨k, hk, h1⟩
    · have e : exN m t (s + 1) v = 1000000000 := h1
      rw [e]; rcases h.num v t hv ht with h1 | h1 <;> omega
    · have e : exN m t (s + 1) v = plusI (ent m v k) (exN m t s k) := h1
      rw [e]
      refine le_plusI (by rcases h.num v t hv ht with h1 | h1 <;> omega) fun h2 h3 => ?_
      have a1 := exN_ge hm h ht s k hk
      have a2 := h.le v k hv hk
      have a3 := exN_inf (m := m) (t := t) s k
      have a4 := hm v k hv hk
      have := of_plusI (h.tri v k t hv hk ht) (by omega) (by omega)
      omega
theorem rest_early {m : List (List Int)} (hs : squB m = true) (hok : flOk m = true) {i c : Nat} (hi : i < m.length) (hc : c < m.length) : ∃ t, t + 1 ≤ m.length ∧ ent (wyD m t) i c = ent (dOf m) i c := by
  obtain ⟨hn6, hr, hm⟩ := squB_parts hs
  have hn := hn6.2
  have hfix := rest_of_ok hm hn hok
  have hB := flM_below hm hn hok
  have hT : ent (wyD m (2 ^ m.length)) i c = flM m i c := Int.le_antisymm (wyD_flY hm hn hok m.length i c (Nat.le_refl _) hi hc) (hB _ i c hi hc)
  obtain ⟨t, ht⟩ := least_of (p := fun t => ent (wyD m t) i c = flM m i c) _ hT
  have hall := first_all hm hn hok hi t c hc ht
  have hpk : ∀ s, ∃ j, s < t + 1 → j < m.length ∧ firstAt m i j s := fun s => by
    by_cases hs : s < t + 1
    · obtain ⟨j, hj⟩ := hall s (by omega); exact ⟨j, fun _ => hj⟩
    · exact ⟨0, fun h => absurd h hs⟩
  have hp := pigeon m.length (t + 1) (fun s => (hpk s).choose) (fun s hs => ((hpk s).choose_spec hs).1) fun s r hs hr e => by
    have h1 := ((hpk s).choose_spec hs).2
    have h2 := ((hpk r).choose_spec hr).2
    have e : (hpk s).choose = (hpk r).choose := e
    rw [e] at h1
    rcases Nat.lt_trichotomy s r with h | h | h
    · exact absurd h1.1 (h2.2 s h)
    · exact h
    · exact absurd h2.1 (h1.2 r h)
  exact ⟨t, hp, by rw [show ent (wyD m t) i c = flM m i c from ht.1, fl_eq hm hn hfix i c hi hc]; rfl⟩
theorem exN_at {m : List (List Int)} (hs : squB m = true) (hok : flOk m = true) {v t : Nat} (hv : v < m.length) (ht : t < m.length) (hf : ent (dOf m) v t ≠ 1000000000) : ∃ s, s + 1 ≤ m.length ∧ exN m t s v = ent (dOf m) v t := by
  obtain ⟨hn6, hr, hm⟩ := squB_parts hs
  obtain ⟨k, hk, e⟩ := rest_early hs hok hv ht
  obtain ⟨s, h1, h2⟩ := exN_of hm k v t (by omega) hv ht (by rw [e]; exact hf)
  have := exN_ge hm (rest_is hs hok) ht s v hv
  exact ⟨s, by omega, by omega⟩
theorem exN_next {m : List (List Int)} {t s v : Nat} (hf : exN m t (s + 1) v ≠ 1000000000) : ∃ k, k < m.length ∧ ent m v k ≠ 1000000000 ∧ exN m t s k ≠ 1000000000 ∧ exN m t (s + 1) v = ent m v k + exN m t s k := by
  rcases leastN_meet (fun k => plusI (ent m v k) (exN m t s k)) m.length with h1 | ⟨k, hk, h1⟩
  · exact absurd h1 hf
  · have e : exN m t (s + 1) v = plusI (ent m v k) (exN m t s k) := h1
    rcases plusI_cases (ent m v k) (exN m t s k) with ⟨_, e2⟩ | ⟨h3, h4, e2⟩
    · rw [e, e2] at hf; exact absurd rfl hf
    · exact ⟨k, hk, h3, h4, by rw [e, e2]⟩
/-! ### Ways -/
theorem vtx_app {a b : List Int} {i : Nat} (h : i < a.length) : vtx (a ++ b) i = vtx a i := by simp [vtx, List.getD, List.getElem?_append_left h]
theorem vtx_snoc {a : List Int} {x : Int} : vtx (a ++ [x]) a.length = x.toNat := by simp [vtx, List.getD]
theorem costK_app {m : List (List Int)} {a b : List Int} : ∀ k, k < a.length → costK m (a ++ b) k = costK m a k
  | 0, _ => rfl
  | k + 1, h => by
    show plusI (costK m (a ++ b) k) (ent m (vtx (a ++ b) k) (vtx (a ++ b) (k + 1))) = plusI (costK m a k) (ent m (vtx a k) (vtx a (k + 1)))
    rw [costK_app k (by omega), vtx_app (by omega), vtx_app h]
structure WayTo (m : List (List Int)) (f t : Nat) (way : List Int) (s : Nat) : Prop where
  len : 1 ≤ way.length
  verts : ∀ i, i < way.length → 0 ≤ way.getD i 0 ∧ way.getD i 0 < m.length
  first : vtx way 0 = f
  fin : costK m way (way.length - 1) ≠ 1000000000
  rest : exN m t s (vtx way (way.length - 1)) ≠ 1000000000
  sum : costK m way (way.length - 1) + exN m t s (vtx way (way.length - 1)) = ent (dOf m) f t
theorem WayTo.start {m : List (List Int)} {f t s : Nat} (hf : f < m.length) (h1 : exN m t s f = ent (dOf m) f t) (h2 : ent (dOf m) f t ≠ 1000000000) : WayTo m f t [(f : Int)] s where
  len := Nat.le_refl _
  verts i hi := by
    have : i = 0 := by simp at hi; omega
    subst this
    show 0 ≤ (f : Int) ∧ (f : Int) < m.length
    omega
  first := by show ((f : Int)).toNat = f; omega
  fin := by show (0 : Int) ≠ _; decide
  rest := by show exN m t s ((f : Int)).toNat ≠ _; rw [Int.toNat_natCast, h1]; exact h2
  sum := by show (0 : Int) + exN m t s ((f : Int)).toNat = _; rw [Int.toNat_natCast, h1]; omega
theorem WayTo.step {m : List (List Int)} {f t s k : Nat} {way : List Int} (hm : numM m) (hw : way.length ≤ 100) (h : WayTo m f t way (s + 1)) (hk : k < m.length) (h1 : ent m (vtx way (way.length - 1)) k ≠ 1000000000) (h2 : exN m t s k ≠ 1000000000) (h3 : exN m t (s + 1) (vtx way (way.length - 1)) = ent m (vtx way (way.length - 1)) k + exN m t s k) : WayTo m f t (way ++ [(k : Int)]) s := by
  have hl := h.len
  have e : (way ++ [(k : Int)]).length - 1 = way.length := by simp
  have e1 : vtx (way ++ [(k : Int)]) way.length = k := by rw [vtx_snoc]; omega
  have e2 : costK m (way ++ [(k : Int)]) way.length = plusI (costK m way (way.length - 1)) (ent m (vtx way (way.length - 1)) k) := by
    obtain ⟨n, hn⟩ : ∃ n, way.length = n + 1 := ⟨way.length - 1, by omega⟩
    have e3 : costK m (way ++ [(k : Int)]) (n + 1) = plusI (costK m (way ++ [(k : Int)]) n) (ent m (vtx (way ++ [(k : Int)]) n) (vtx (way ++ [(k : Int)]) (n + 1))) := rfl
    rw [hn, e3, costK_app n (by omega), vtx_app (show n < way.length by omega), ← hn, e1]
    rw [hn]; rfl
  have e3 := plusI_ab h.fin h1
  have hb : -100000000 ≤ costK m way (way.length - 1) + ent m (vtx way (way.length - 1)) k ∧ costK m way (way.length - 1) + ent m (vtx way (way.length - 1)) k ≤ 300000000 := by
    have hv : vertB m.length (fun i => way.getD i 0) way.length = true := allN_true fun i hi => inB_true.2 (by have := h.verts i hi; show 0 ≤ way.getD i 0 ∧ way.getD i 0 ≤ (m.length : Int) - 1; omega)
    have c := costK_fin hm hv (way.length - 1) (by omega)
    have v := (vtx_lt hv (i := way.length - 1) (by omega)).2
    have n := hm _ k v hk
    cases hst : stepsB m way (way.length - 1) with
    | false => exact absurd (c.2 hst) h.fin
    | true => have := c.1 hst; omega
  refine ⟨by simp, fun i hi => ?_, ?_, ?_, ?_, ?_⟩
  · by_cases hlt : i < way.length
    · have := h.verts i hlt
      rwa [show (way ++ [(k : Int)]).getD i 0 = way.getD i 0 by simp [List.getD, List.getElem?_append_left hlt]]
    · have : i = way.length := by simp at hi; omega
      subst this
      rw [show (way ++ [(k : Int)]).getD way.length 0 = (k : Int) by simp [List.getD]]
      omega
  · rw [vtx_app (by omega)]; exact h.first
  · rw [e, e2, e3]; omega
  · rw [e, e1]; exact h2
  · have := h.sum
    rw [e, e1, e2, e3]; omega
structure Cheapest (m : List (List Int)) (f t : Nat) (way : List Int) : Prop where
  ok : wayOk m way = true
  cost : costK m way (way.length - 1) = ent (dOf m) f t
theorem WayTo.fin_ok {m : List (List Int)} {f t : Nat} {way : List Int} (hm : numM m) (h : WayTo m f t way 0) (hw : way.length ≤ 20) : Cheapest m f t way := by
  have hl := h.len
  have hv : vertB m.length (fun i => way.getD i 0) way.length = true := allN_true fun i hi => inB_true.2 (by have := h.verts i hi; show 0 ≤ way.getD i 0 ∧ way.getD i 0 ≤ (m.length : Int) - 1; omega)
  have e0 : exN m t 0 (vtx way (way.length - 1)) = 0 := by
    have := h.rest
    change (if _ then _ else _) ≠ _ at this
    show (if _ then _ else _) = _
    split at this
    · rename_i e; rw [if_pos e]
    · exact absurd rfl this
  refine ⟨?_, ?_⟩
  · rw [wayOk_cost hm (by omega) hv]; exact bne_iff_ne.2 h.fin
  · have := h.sum; rw [e0] at this; omega
/-! ### One step made less -/
theorem less_edge {M M' : List (List Int)} (hs : squB M = true) (hs' : squB M' = true) (ok : flOk M = true) (ok' : flOk M' = true) (hl : M'.length = M.length) {i j : Nat} (hi : i < M.length) (hj : j < M.length)
    (hoth : ∀ p q, p < M.length → q < M.length → ¬ (p = i ∧ q = j) → ent M' p q = ent M p q) (hle : ent M' i j ≤ ent M i j) (hfin : ent M i j ≠ 1000000000) {f t : Nat} (hf : f < M.length) (ht : t < M.length) (hft : ent (dOf M) f t ≠ 1000000000) :
    ent (dOf M) f t - (ent M i j - ent M' i j) ≤ ent (dOf M') f t := by
  have R := rest_is hs ok
  have R' := rest_is hs' ok'
  obtain ⟨hn6, hr, hm⟩ := squB_parts hs
  obtain ⟨hn6', hr', hm'⟩ := squB_parts hs'
  generalize hD : ent (dOf M) = D at *
  generalize hD' : ent (dOf M') = D' at *
  have hwn := hm i j hi hj
  have hwn' := hm' i j (by omega) (by omega)
  generalize hw : ent M i j = w at *
  generalize hw' : ent M' i j = w' at *
  have hcyc : ∀ p q, p < M.length → q < M.length → D j p ≠ 1000000000 → D p i ≠ 1000000000 → 0 ≤ D j p + D p i + w' := fun p q hp hq h1 h2 => by
    have t1 := of_plusI (R.tri j p i hj hp hi) h1 h2
    have n1 := R.num j i hj hi
    have n2 := R.num j p hj hp
    have n3 := R.num p i hp hi
    have lo : D' j i ≤ D j i := by
      refine R.low D' (fun a b ha hb => ?_) (fun a b ha hb => ?_) (fun a ha => ?_) (fun z a b hz ha hb => R'.tri a z b (by omega) (by omega) (by omega)) j i hj hi
      · have := R'.le a b (by omega) (by omega)
        by_cases e : a = i ∧ b = j
        · rw [e.1, e.2, hw'] at this
          rw [e.1, e.2, hw]; omega
        · rw [hoth a b ha hb e] at this; exact this
      · rcases R'.num a b (by omega) (by omega) with h | h <;> omega
      · rw [R'.diag a (by omega)]; exact Int.le_refl _
    have l2 := R'.le i j (by omega) (by omega)
    rw [hw'] at l2
    have d := R'.diag j (by omega)
    have n4 := R'.num j i (by omega) (by omega)
    have n5 := R'.num i j (by omega) (by omega)
    have t2 := of_plusI (R'.tri j i j (by omega) (by omega) (by omega)) (by omega) (by omega)
    omega
  let G : Mx := fun p q => min (D p q) (plusI (plusI (D p i) w') (D j q))
  have hG : ∀ p q, p < M.length → q < M.length → G p q ≤ D p q ∧ (D p i ≠ 1000000000 → D j q ≠ 1000000000 → G p q ≤ D p i + w' + D j q) ∧ (G p q = D p q ∨ (D p i ≠ 1000000000 ∧ D j q ≠ 1000000000 ∧ G p q = D p i + w' + D j q)) := fun p q hp hq => by
    have n1 := R.num p i hp hi
    have n2 := R.num j q hj hq
    have n3 := R.num p q hp hq
    show min (D p q) (plusI (plusI (D p i) w') (D j q)) ≤ _ ∧ (_ → _ → min (D p q) (plusI (plusI (D p i) w') (D j q)) ≤ _) ∧ (min (D p q) (plusI (plusI (D p i) w') (D j q)) = _ ∨ (_ ∧ _ ∧ min (D p q) (plusI (plusI (D p i) w') (D j q)) = _))
    by_cases h1 : D p i = 1000000000
    · rw [plusI_a h1, plusI_a rfl]
      refine ⟨by omega, fun h => absurd h1 h, .inl (by omega)⟩
    · by_cases h2 : D j q = 1000000000
      · rw [plusI_b h2]
        refine ⟨by omega, fun _ h => absurd h2 h, .inl (by omega)⟩
      · rw [plusI_ab h1 (by omega), plusI_ab (by omega) h2]
        refine ⟨by omega, fun _ _ => by omega, ?_⟩
        by_cases e : D p q ≤ D p i + w' + D j q
        · exact .inl (by omega)
        · exact .inr ⟨h1, h2, by omega⟩
  have key : G f t ≤ D' f t := by
    refine R'.low G (fun p q hp hq => ?_) (fun p q hp hq => ?_) (fun p hp => ?_) (fun z p q hz hp hq => ?_) f t (by omega) (by omega)
    · rw [hl] at hp hq
      obtain ⟨g1, g2, g3⟩ := hG p q hp hq
      by_cases e : p = i ∧ q = j
      · obtain ⟨rfl, rfl⟩ := e
        rw [hw']
        have := g2 (by rw [R.diag p hp]; decide) (by rw [R.diag q hq]; decide)
        rw [R.diag p hp, R.diag q hq] at this; omega
      · rw [hoth p q hp hq e]
        exact Int.le_trans g1 (R.le p q hp hq)
    · rw [hl] at hp hq
      have := (hG p q hp hq).1
      rcases R.num p q hp hq with h | h <;> omega
    · rw [hl] at hp
      have := (hG p p hp hp).1
      rw [R.diag p hp] at this; exact this
    · rw [hl] at hz hp hq
      obtain ⟨a1, a2, a3⟩ := hG p q hp hq
      obtain ⟨b1, b2, b3⟩ := hG p z hp hz
      obtain ⟨c1, c2, c3⟩ := hG z q hz hq
      have m1 := R.num p q hp hq
      refine le_plusI (by omega) fun h1 h2 => ?_
      have n1 := R.num p z hp hz
      have n2 := R.num z q hz hq
      have n3 := R.num p i hp hi
      have n4 := R.num j q hj hq
      have n5 := R.num z i hz hi
      have n6 := R.num j z hj hz
      rcases b3 with b3 | ⟨b4, b5, b6⟩
      · rcases c3 with c3 | ⟨c4, c5, c6⟩
        · have := of_plusI (R.tri p z q hp hz hq) (by omega) (by omega)
          omega
        · have := of_plusI (R.tri p z i hp hz hi) (by omega) c4
          have := a2 (by omega) c5
          omega
      · rcases c3 with c3 | ⟨c4, c5, c6⟩
        · have := of_plusI (R.tri j z q hj hz hq) b5 (by omega)
          have := a2 b4 (by omega)
          omega
        · have := hcyc z q hz hq b5 c4
          have := a2 b4 c5
          omega
  obtain ⟨g1, g2, g3⟩ := hG f t hf ht
  have n0 := R.num f t hf ht
  rcases g3 with g3 | ⟨g4, g5, g6⟩
  · omega
  · have n1 := R.num f i hf hi
    have n2 := R.num j t hj ht
    have l1 := R.le i j hi hj
    rw [hw] at l1
    have n3 := R.num i j hi hj
    have t1 := of_plusI (R.tri f i j hf hi hj) g4 (by omega)
    have n4 := R.num f j hf hj
    have t2 := of_plusI (R.tri f j t hf hj ht) (by omega) g5
    omega
end Go.Proofs.Ytlomkebhopaliaa
