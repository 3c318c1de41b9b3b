/- Least sums, plainly: how they share out over lists set end to end, over pairs, and over turned matrices. No conditions. -/
import Derived.Test.YtpimjkhfookipaaFnProd
import Derived.Test.YtpimjkhfookipaaFnUni
import Derived.Test.YtpimjkhfookipaaPureNd2
import Derived.Test.YtpimjkhfookipaaFnCur6
namespace Go.Proofs.Ytpimjkhfookipaa
set_option linter.unusedSimpArgs false
set_option linter.unusedVariables false

/-- Infinity or a number of at most L. -/
def FinL (L : Int) (x : Int) : Prop := x = 1000000000 ∨ (-L ≤ x ∧ x ≤ L)
def FinV (L : Int) (v : List Int) : Prop := ∀ i, i < v.length → FinL L (v.getD i 0)
theorem FinL.mono {L L' x : Int} (h : FinL L x) (hl : L ≤ L') : FinL L' x := by unfold FinL at *; omega
theorem FinV.mono {L L' : Int} {v : List Int} (h : FinV L v) (hl : L ≤ L') : FinV L' v := fun i hi => (h i hi).mono hl
theorem FinL.plus {L L' x y : Int} (hx : FinL L x) (hy : FinL L' y) : FinL (L + L') (plusI x y) := by
  unfold FinL at *
  by_cases h1 : x = 1000000000
  · rw [plusI_a h1]; exact .inl rfl
  · by_cases h2 : y = 1000000000
    · rw [plusI_b h2]; exact .inl rfl
    · rw [plusI_ab h1 h2]; omega
theorem plusI_assoc {x y z L : Int} (hL : L ≤ 100000000) (hx : FinL L x) (hy : FinL L y) (hz : FinL L z) : plusI x (plusI y z) = plusI (plusI x y) z := by
  unfold FinL at *
  by_cases h1 : x = 1000000000
  · rw [plusI_a h1, plusI_a h1, plusI_a rfl]
  · by_cases h2 : y = 1000000000
    · rw [plusI_a h2, plusI_b h2, plusI_b rfl, plusI_a rfl]
    · by_cases h3 : z = 1000000000
      · rw [plusI_b h3, plusI_b rfl, plusI_b h3]
      · rw [plusI_ab h2 h3, plusI_ab h1 h2, plusI_ab h1 (by omega), plusI_ab (by omega) h3]; omega
theorem plusI_comm' (a b : Int) : plusI a b = plusI b a := by unfold plusI; by_cases h : a = 1000000000 <;> by_cases h2 : b = 1000000000 <;> simp [h, h2, Int.add_comm]

/-! ### The least of many -/
theorem le_least {g : Nat → Int} {z : Int} : ∀ {n}, z ≤ leastN g n ↔ z ≤ 1000000000 ∧ ∀ i, i < n → z ≤ g i
  | 0 => ⟨fun h => ⟨h, fun i hi => by omega⟩, fun h => h.1⟩
  | n + 1 => by
    rw [leastN_min, Int.le_min, le_least (n := n)]
    constructor
    · rintro ⟨⟨h1, h2⟩, h3⟩
      refine ⟨h1, fun i hi => ?_⟩
      by_cases e : i = n
      · subst e; exact h3
      · exact h2 i (by omega)
    · rintro ⟨h1, h2⟩
      exact ⟨⟨h1, fun i hi => h2 i (by omega)⟩, h2 n (by omega)⟩
theorem least_eq {x y : Int} (h : ∀ z, z ≤ x ↔ z ≤ y) : x = y := Int.le_antisymm ((h x).1 (Int.le_refl _)) ((h y).2 (Int.le_refl _))
theorem least_ext {f g : Nat → Int} {n : Nat} (h : ∀ i, i < n → f i = g i) : leastN f n = leastN g n := least_eq fun z => by
  rw [le_least, le_least]
  exact ⟨fun ⟨h1, h2⟩ => ⟨h1, fun i hi => by rw [← h i hi]; exact h2 i hi⟩, fun ⟨h1, h2⟩ => ⟨h1, fun i hi => by rw [h i hi]; exact h2 i hi⟩⟩
theorem least_swap (f : Nat → Nat → Int) (n m : Nat) : leastN (fun i => leastN (f i) m) n = leastN (fun j => leastN (fun i => f i j) n) m := least_eq fun z => by
  simp only [le_least]
  constructor
  · rintro ⟨h1, h2⟩; exact ⟨h1, fun j hj => ⟨h1, fun i hi => (h2 i hi).2 j hj⟩⟩
  · rintro ⟨h1, h2⟩; exact ⟨h1, fun i hi => ⟨h1, fun j hj => (h2 j hj).2 i hi⟩⟩
theorem least_app (h : Nat → Int) (n m : Nat) : leastN h (n + m) = min (leastN h n) (leastN (fun j => h (n + j)) m) := least_eq fun z => by
  rw [Int.le_min]
  simp only [le_least]
  constructor
  · rintro ⟨h1, h2⟩; exact ⟨⟨h1, fun i hi => h2 i (by omega)⟩, h1, fun j hj => h2 (n + j) (by omega)⟩
  · rintro ⟨⟨h1, h2⟩, _, h3⟩
    refine ⟨h1, fun i hi => ?_⟩
    rcases Nat.lt_or_ge i n with h4 | h4
    · exact h2 i h4
    · have := h3 (i - n) (by omega); rwa [show n + (i - n) = i by omega] at this
theorem least_pairs (F : Nat → Nat → Int) (n m : Nat) : leastN (fun q => F (q / m) (q % m)) (n * m) = leastN (fun i => leastN (F i) m) n := least_eq fun z => by
  simp only [le_least]
  constructor
  · rintro ⟨h1, h2⟩
    refine ⟨h1, fun i hi => ⟨h1, fun j hj => ?_⟩⟩
    have hlt : i * m + j < n * m := by
      have h3 : (i + 1) * m ≤ n * m := Nat.mul_le_mul_right _ hi
      rw [Nat.succ_mul] at h3; omega
    have := h2 (i * m + j) hlt
    rwa [show (i * m + j) / m = i by rw [Nat.add_comm, Nat.add_mul_div_right _ _ (by omega), Nat.div_eq_of_lt hj, Nat.zero_add], show (i * m + j) % m = j by rw [Nat.add_comm, Nat.add_mul_mod_self_right, Nat.mod_eq_of_lt hj]] at this
  · rintro ⟨h1, h2⟩
    refine ⟨h1, fun q hq => ?_⟩
    have hm : 0 < m := by
      rcases Nat.eq_zero_or_pos m with e | e
      · subst e; simp at hq
      · exact e
    exact (h2 (q / m) (Nat.div_lt_of_lt_mul (by rw [Nat.mul_comm]; exact hq))).2 (q % m) (Nat.mod_lt _ hm)
theorem least_fin {L : Int} {g : Nat → Int} : ∀ {n}, (∀ i, i < n → FinL L (g i)) → FinL L (leastN g n) := fun {n} h => by
  rcases Decidable.em (leastN g n = 1000000000) with e | e
  · exact .inl e
  · obtain ⟨i, hi, e2⟩ := leastN_at g n e
    rw [← e2]; exact h i hi
/-- A number added to the least is the least of the sums. -/
theorem plus_least {x : Int} {g : Nat → Int} {n : Nat} (hx : FinL 100000000 x) (hg : ∀ i, i < n → FinL 100000000 (g i)) : plusI x (leastN g n) = leastN (fun i => plusI x (g i)) n := least_eq fun z => by
  rw [le_least]
  by_cases h1 : x = 1000000000
  · simp only [plusI_a h1]
    exact ⟨fun h => ⟨h, fun i _ => h⟩, fun h => h.1⟩
  · by_cases h2 : leastN g n = 1000000000
    · rw [plusI_b h2]
      refine ⟨fun h => ⟨h, fun i hi => ?_⟩, fun h => h.1⟩
      have h3 := leastN_le g n i hi
      have h4 := hg i hi
      unfold FinL at h4
      rw [plusI_b (by omega)]; exact h
    · obtain ⟨k, hk, e⟩ := leastN_at g n h2
      have h4 := hg k hk
      unfold FinL at h4 hx
      rw [plusI_ab h1 h2]
      constructor
      · intro h
        refine ⟨by omega, fun i hi => ?_⟩
        have h3 := leastN_le g n i hi
        by_cases h5 : g i = 1000000000
        · rw [plusI_b h5]; omega
        · rw [plusI_ab h1 h5]; omega
      · rintro ⟨_, h⟩
        have := h k hk
        rw [plusI_ab h1 (by omega), e] at this; exact this
/-- The least of all sums of two is the sum of the least ones. -/
theorem plus_least2 {f g : Nat → Int} {n m : Nat} (hf : ∀ i, i < n → FinL 10000000 (f i)) (hg : ∀ i, i < m → FinL 10000000 (g i)) : plusI (leastN f n) (leastN g m) = leastN (fun i => leastN (fun j => plusI (f i) (g j)) m) n := by
  have h1 : FinL 10000000 (leastN g m) := least_fin hg
  rw [plusI_comm', plus_least (h1.mono (by decide)) fun i hi => (hf i hi).mono (by decide)]
  refine least_ext fun i hi => ?_
  rw [plusI_comm', plus_least ((hf i hi).mono (by decide)) fun j hj => (hg j hj).mono (by decide)]

/-! ### Vectors -/
theorem dotV_fin {L L' : Int} {a b : List Int} (ha : FinV L a) (hb : FinV L' b) (h : a.length ≤ b.length) : FinL (L + L') (dotV a b) := least_fin fun i hi => (ha i hi).plus (hb i (by omega))
theorem getD_app_r (a b : List Int) (i : Nat) : (a ++ b).getD (a.length + i) 0 = b.getD i 0 := by rw [List.getD, List.getElem?_append_right (by omega), Nat.add_sub_cancel_left, ← List.getD]
theorem dotV_app {a a' v v' : List Int} (h : a.length = v.length) : dotV (a ++ a') (v ++ v') = min (dotV a v) (dotV a' v') := by
  unfold dotV
  rw [List.length_append, least_app]
  congr 1
  · refine least_ext fun i hi => ?_
    simp [List.getD, List.getElem?_append_left hi, List.getElem?_append_left (show i < v.length by omega)]
  · refine least_ext fun i hi => ?_
    show plusI ((a ++ a').getD (a.length + i) 0) ((v ++ v').getD (a.length + i) 0) = _
    rw [getD_app_r, h, getD_app_r]
theorem dotV_inf {n : Nat} {v : List Int} : dotV (infL n) v = 1000000000 := by
  unfold dotV
  rw [infL_len]
  rcases Decidable.em (leastN (fun i => plusI ((infL n).getD i 0) (v.getD i 0)) n = 1000000000) with e | e
  · exact e
  · obtain ⟨i, hi, e2⟩ := leastN_at _ n e
    rw [← e2, plusI_a (infL_at hi)]
theorem list_ext {a b : List Int} (h : a.length = b.length) (h2 : ∀ i, i < a.length → a.getD i 0 = b.getD i 0) : a = b := List.ext_getElem h fun i h3 h4 => by
  have := h2 i h3
  simpa [List.getD, h3, h4] using this
theorem dotV_le (a b : List Int) : dotV a b ≤ 1000000000 := leastN_inf _ _

/-! ### Unions -/
theorem step_bes {m m' : List (List Int)} {v v' : List Int} (h : ∀ i, i < m.length → (rowAt m i).length = v.length) (hv : v.length = m.length) (h' : ∀ i, i < m'.length → (rowAt m' i).length = v'.length) : stepV (besM m m') (v ++ v') = stepV m v ++ stepV m' v' := by
  refine list_ext (by simp [besM_len]) fun i hi => ?_
  rw [stepV_len, besM_len] at hi
  rw [stepV_get (by rw [besM_len]; exact hi)]
  rcases Nat.lt_or_ge i m.length with h1 | h1
  · rw [besM_lo h1, dotV_app (h i h1), dotV_inf, Int.min_eq_left (dotV_le _ _)]
    rw [List.getD, List.getElem?_append_left (by rw [stepV_len]; exact h1), ← List.getD, stepV_get h1]
  · obtain ⟨k, rfl⟩ : ∃ k, i = m.length + k := ⟨i - m.length, by omega⟩
    have hk : k < m'.length := by omega
    rw [besM_hi hk, dotV_app (by rw [infL_len]; exact hv.symm), dotV_inf, Int.min_eq_right (dotV_le _ _)]
    rw [List.getD, List.getElem?_append_right (by rw [stepV_len]; omega), stepV_len, Nat.add_sub_cancel_left, ← List.getD, stepV_get hk]
theorem fromW_uni {a e : List Int} {s : List (List (List Int))} {a' e' : List Int} {s' : List (List (List Int))} (h : autB a e s = true) (h' : autB a' e' s' = true) (hs : s.length = s'.length) : ∀ l : List UInt8, okW s.length l →
    fromW (e ++ e') (uniS s s') l = fromW e s l ++ fromW e' s' l
  | [], _ => rfl
  | c :: l, hl => by
    obtain ⟨hc, hl⟩ := okW_cons hl
    have ih := fromW_uni h h' hs l hl
    have hg := autB_get h
    have hg' := autB_get h'
    have hk : c.toNat - 97 < s.length := by omega
    have hm := hg.2.2.2.2.2 (c.toNat - 97) hk
    have hm' := hg'.2.2.2.2.2 (c.toNat - 97) (by omega)
    have g1 := (fromW_good h l hl).1
    have g2 := (fromW_good h' l (by rw [← hs]; exact hl)).1
    show stepV (matAt (uniS s s') (c.toNat - 97)) (fromW (e ++ e') (uniS s s') l) = stepV (matAt s (c.toNat - 97)) (fromW e s l) ++ stepV (matAt s' (c.toNat - 97)) (fromW e' s' l)
    rw [ih, uniS_at hk]
    exact step_bes (fun i hi => by rw [g1, (hm.2 i (by rw [← hm.1]; exact hi)).1]) (by rw [g1, hm.1]) (fun i hi => by rw [g2, (hm'.2 i (by rw [← hm'.1]; exact hi)).1])
/-- A union's cost is the less one. -/
theorem cost_uni {a e : List Int} {s : List (List (List Int))} {a' e' : List Int} {s' : List (List (List Int))} (h : autB a e s = true) (h' : autB a' e' s' = true) (hs : s.length = s'.length) {b : ByteArray} (hb : okW s.length (bytesOf b)) :
    costW (a ++ a') (e ++ e') (uniS s s') b = min (costW a e s b) (costW a' e' s' b) := by
  unfold costW
  rw [fromW_uni h h' hs _ hb, dotV_app (fromW_good h _ hb).1.symm]

/-! ### Bounds -/
theorem costsB_fin {l : List Int} (h : costsB l = true) : FinV 1000 l := fun i hi => costsB_get h hi
theorem stepV_fin {n : Nat} {m : List (List Int)} {v : List Int} {L : Int} (hm : goodM n m) (hv : FinV L v) (hl : v.length = n) : FinV (1000 + L) (stepV m v) := fun i hi => by
  rw [stepV_len] at hi
  rw [stepV_get hi]
  have hr := hm.2 i (by rw [← hm.1]; exact hi)
  exact dotV_fin (costsB_fin hr.2) hv (by omega)
theorem fromW_fin {a e : List Int} {s : List (List (List Int))} (h : autB a e s = true) : ∀ l : List UInt8, okW s.length l → FinV (1000 + 1000 * (l.length : Int)) (fromW e s l)
  | [], _ => (costsB_fin (autB_get h).2.2.1).mono (by simp)
  | c :: l, hl => by
    obtain ⟨hc, hl⟩ := okW_cons hl
    have hm := (autB_get h).2.2.2.2.2 (c.toNat - 97) (by omega)
    have ih := fromW_fin h l hl
    refine (stepV_fin hm ih (fromW_good h l hl).1).mono ?_
    simp only [List.length_cons]
    omega

/-! ### Products -/
theorem plusI_four {x y z w L : Int} (hL : L ≤ 10000000) (hx : FinL L x) (hy : FinL L y) (hz : FinL L z) (hw : FinL L w) : plusI (plusI x y) (plusI z w) = plusI (plusI x z) (plusI y w) := by
  unfold FinL at *
  by_cases h1 : x = 1000000000
  · rw [plusI_a (plusI_a h1), plusI_a (plusI_a h1)]
  · by_cases h2 : y = 1000000000
    · rw [plusI_a (plusI_b h2), plusI_b (plusI_a h2)]
    · by_cases h3 : z = 1000000000
      · rw [plusI_b (plusI_a h3), plusI_a (plusI_b h3)]
      · by_cases h4 : w = 1000000000
        · rw [plusI_b (plusI_b h4), plusI_b (plusI_b h4)]
        · rw [plusI_ab h1 h2, plusI_ab h3 h4, plusI_ab h1 h3, plusI_ab h2 h4, plusI_ab (by omega) (by omega), plusI_ab (by omega) (by omega)]; omega
theorem dotV_pairs {u u' v v' : List Int} {L : Int} (hL : L ≤ 1000000) (h : u.length = v.length) (h' : u'.length = v'.length) (hu : FinV L u) (hu' : FinV L u') (hv : FinV L v) (hv' : FinV L v') : dotV (pairsL u u') (pairsL v v') = plusI (dotV u v) (dotV u' v') := by
  unfold dotV
  rw [pairsL_len, plus_least2 (fun i hi => ((hu i hi).plus (hv i (by omega))).mono (by omega)) (fun j hj => ((hu' j hj).plus (hv' j (by omega))).mono (by omega)), ← least_pairs]
  refine least_ext fun q hq => ?_
  have hm : 0 < u'.length := by
    rcases Nat.eq_zero_or_pos u'.length with e | e
    · rw [e] at hq; simp at hq
    · exact e
  have hi : q / u'.length < u.length := Nat.div_lt_of_lt_mul (by rw [Nat.mul_comm]; exact hq)
  have hj : q % u'.length < u'.length := Nat.mod_lt _ hm
  have e : q / u'.length * u'.length + q % u'.length = q := by rw [Nat.mul_comm]; exact Nat.div_add_mod _ _
  have e1 : (pairsL u u').getD q 0 = plusI (u.getD (q / u'.length) 0) (u'.getD (q % u'.length) 0) := by
    have := pairsL_get hi hj; rwa [e] at this
  have e2 : (pairsL v v').getD q 0 = plusI (v.getD (q / u'.length) 0) (v'.getD (q % u'.length) 0) := by
    have := pairsL_get (u := v) (v := v') (i := q / u'.length) (j := q % u'.length) (by omega) (by omega)
    rwa [← h', e] at this
  rw [e1, e2]
  exact plusI_four (by omega) (hu _ hi) (hu' _ hj) (hv _ (by omega)) (hv' _ (by omega))
theorem step_prod {n n' : Nat} {m m' : List (List Int)} {v v' : List Int} {L : Int} (hL : L ≤ 1000000) (hL0 : 1000 ≤ L) (hm : goodM n m) (hm' : goodM n' m') (hv : v.length = n) (hv' : v'.length = n') (fv : FinV L v) (fv' : FinV L v') : stepV (prodM m m') (pairsL v v') = pairsL (stepV m v) (stepV m' v') := by
  refine list_ext (by rw [stepV_len, prodM_len, pairsL_len, stepV_len, stepV_len]) fun q hq => ?_
  rw [stepV_len, prodM_len] at hq
  have hp : 0 < m'.length := by
    rcases Nat.eq_zero_or_pos m'.length with e | e
    · rw [e] at hq; simp at hq
    · exact e
  have hi : q / m'.length < m.length := Nat.div_lt_of_lt_mul (by rw [Nat.mul_comm]; exact hq)
  have hj : q % m'.length < m'.length := Nat.mod_lt _ hp
  have e : q / m'.length * m'.length + q % m'.length = q := by rw [Nat.mul_comm]; exact Nat.div_add_mod _ _
  have hr := hm.2 (q / m'.length) (by rw [← hm.1]; exact hi)
  have hr' := hm'.2 (q % m'.length) (by rw [← hm'.1]; exact hj)
  rw [stepV_get (by rw [prodM_len]; exact hq)]
  have e1 : rowAt (prodM m m') q = pairsL (rowAt m (q / m'.length)) (rowAt m' (q % m'.length)) := by
    have := prodM_at hi hj; rwa [e] at this
  have e2 : (pairsL (stepV m v) (stepV m' v')).getD q 0 = plusI ((stepV m v).getD (q / m'.length) 0) ((stepV m' v').getD (q % m'.length) 0) := by
    have := pairsL_get (u := stepV m v) (v := stepV m' v') (i := q / m'.length) (j := q % m'.length) (by rw [stepV_len]; exact hi) (by rw [stepV_len]; exact hj)
    rwa [stepV_len, e] at this
  rw [e1, e2, stepV_get hi, stepV_get hj]
  exact dotV_pairs hL (by omega) (by omega) ((costsB_fin hr.2).mono hL0) ((costsB_fin hr'.2).mono hL0) fv fv'
theorem fromW_prod {a e : List Int} {s : List (List (List Int))} {a' e' : List Int} {s' : List (List (List Int))} (h : autB a e s = true) (h' : autB a' e' s' = true) (hs : s.length = s'.length) : ∀ l : List UInt8, okW s.length l → l.length ≤ 100 →
    fromW (pairsL e e') (prodS s s') l = pairsL (fromW e s l) (fromW e' s' l)
  | [], _, _ => rfl
  | c :: l, hl, hn => by
    obtain ⟨hc, hl⟩ := okW_cons hl
    simp only [List.length_cons] at hn
    have ih := fromW_prod h h' hs l hl (by omega)
    have hk : c.toNat - 97 < s.length := by omega
    have hm := (autB_get h).2.2.2.2.2 (c.toNat - 97) hk
    have hm' := (autB_get h').2.2.2.2.2 (c.toNat - 97) (by omega)
    have hl' : okW s'.length l := by rw [← hs]; exact hl
    show stepV (matAt (prodS s s') (c.toNat - 97)) (fromW (pairsL e e') (prodS s s') l) = pairsL (stepV (matAt s (c.toNat - 97)) (fromW e s l)) (stepV (matAt s' (c.toNat - 97)) (fromW e' s' l))
    rw [ih, prodS_at hk]
    exact step_prod (L := 1000000) (by omega) (by omega) hm hm' (fromW_good h l hl).1 (fromW_good h' l hl').1 ((fromW_fin h l hl).mono (by omega)) ((fromW_fin h' l hl').mono (by omega))
/-- A product's cost is the sum. -/
theorem cost_prod {a e : List Int} {s : List (List (List Int))} {a' e' : List Int} {s' : List (List (List Int))} (h : autB a e s = true) (h' : autB a' e' s' = true) (hs : s.length = s'.length) {b : ByteArray} (hb : okW s.length (bytesOf b)) (hn : lenB b ≤ 100) :
    costW (pairsL a a') (pairsL e e') (prodS s s') b = plusI (costW a e s b) (costW a' e' s' b) := by
  have hb' : okW s'.length (bytesOf b) := by rw [← hs]; exact hb
  have hn' : (bytesOf b).length ≤ 100 := hn
  unfold costW
  rw [fromW_prod h h' hs _ hb hn']
  exact dotV_pairs (L := 1000000) (by omega) (fromW_good h _ hb).1.symm (fromW_good h' _ hb').1.symm ((costsB_fin (autB_get h).2.1).mono (by omega)) ((costsB_fin (autB_get h').2.1).mono (by omega)) ((fromW_fin h _ hb).mono (by omega)) ((fromW_fin h' _ hb').mono (by omega))

/-! ### Reversed automata -/
theorem dotV_comm {a b : List Int} (h : a.length = b.length) : dotV a b = dotV b a := by
  unfold dotV
  rw [h]
  exact least_ext fun i _ => plusI_comm' _ _
theorem dot_step {n : Nat} {m : List (List Int)} {u v : List Int} {L : Int} (hn : 0 < n) (hL : L ≤ 10000000) (hL0 : 1000 ≤ L) (hm : goodM n m) (hv : v.length = n) (hu : u.length = n) (fv : FinV L v) (fu : FinV L u) : dotV v (stepV m u) = dotV (stepV (turnM m) v) u := by
  have ht : (turnM m).length = n := by rw [turnM_len]; exact (hm.2 0 hn).1
  have fm : ∀ i j, i < n → j < n → FinL L ((rowAt m i).getD j 0) := fun i j hi hj => ((costsB_fin (hm.2 i hi).2) j (by rw [(hm.2 i hi).1]; exact hj)).mono hL0
  have e1 : dotV v (stepV m u) = leastN (fun i => leastN (fun j => plusI (v.getD i 0) (plusI ((rowAt m i).getD j 0) (u.getD j 0))) n) n := by
    show leastN _ v.length = _
    rw [hv]
    refine least_ext fun i hi => ?_
    rw [stepV_get (by rw [hm.1]; exact hi)]
    show plusI _ (leastN _ (rowAt m i).length) = _
    rw [(hm.2 i hi).1]
    exact plus_least ((fv i (by omega)).mono (by omega)) fun j hj => ((fm i j hi hj).plus (fu j (by omega))).mono (by omega)
  have e2 : dotV (stepV (turnM m) v) u = leastN (fun j => leastN (fun i => plusI (u.getD j 0) (plusI ((rowAt m i).getD j 0) (v.getD i 0))) n) n := by
    show leastN _ (stepV (turnM m) v).length = _
    rw [stepV_len, ht]
    refine least_ext fun j hj => ?_
    rw [stepV_get (by omega), plusI_comm', turnM_at (by rw [(hm.2 0 hn).1]; exact hj)]
    show plusI _ (leastN _ (colP m j m.length).length) = _
    rw [colP_len, hm.1]
    rw [plus_least ((fu j (by omega)).mono (by omega)) fun i hi => by rw [colP_get hi]; exact ((fm i j hi hj).plus (fv i (by omega))).mono (by omega)]
    exact least_ext fun i hi => by rw [colP_get hi]
  rw [e1, e2, least_swap]
  refine least_ext fun j hj => least_ext fun i hi => ?_
  have f1 := (fv i (by omega)).mono (show L ≤ 10000000 from hL)
  have f2 := (fm i j hi hj).mono (show L ≤ 10000000 from hL)
  have f3 := (fu j (by omega)).mono (show L ≤ 10000000 from hL)
  rw [plusI_assoc (by decide) f1 f2 f3, plusI_comm' _ (u.getD j 0), plusI_comm' (v.getD i 0)]
theorem fromW_snoc (e : List Int) (s : List (List (List Int))) (c : UInt8) : ∀ l : List UInt8, fromW e s (l ++ [c]) = fromW (stepV (matAt s (c.toNat - 97)) e) s l
  | [] => rfl
  | d :: l => by
    show stepV _ (fromW e s (l ++ [c])) = stepV _ _
    rw [fromW_snoc e s c l]
theorem goodM_turnM {n : Nat} {m : List (List Int)} (hn : 0 < n) (hm : goodM n m) : goodM n (turnM m) := by
  refine ⟨by rw [turnM_len]; exact (hm.2 0 hn).1, fun i hi => ?_⟩
  rw [turnM_at (by rw [(hm.2 0 hn).1]; exact hi)]
  refine ⟨by rw [colP_len, hm.1], allN_iff.2 fun j hj => ?_⟩
  rw [colP_len] at hj
  rw [colP_get hj]
  have hr := hm.2 j (by rw [← hm.1]; exact hj)
  exact allN_iff.1 hr.2 i (by rw [hr.1]; exact hi)
theorem matAt_turn {s : List (List (List Int))} {k : Nat} (hk : k < s.length) : matAt (s.map turnM) k = turnM (matAt s k) := by simp [matAt, List.getD, hk]
theorem rev_dot {a e : List Int} {s : List (List (List Int))} (h : autB a e s = true) : ∀ (l : List UInt8) (v : List Int) (L : Int), okW s.length l → v.length = a.length → FinV L v → 1000 ≤ L → L + 1000 * (l.length : Int) ≤ 1000000 → dotV v (fromW e s l) = dotV (fromW v (s.map turnM) l.reverse) e
  | [], v, L, _, _, _, _, _ => rfl
  | c :: l, v, L, hl, hv, fv, hL0, hL => by
    obtain ⟨hc, hl⟩ := okW_cons hl
    simp only [List.length_cons] at hL
    have hg := autB_get h
    have hk : c.toNat - 97 < s.length := by omega
    have hm := hg.2.2.2.2.2 (c.toNat - 97) hk
    have hn : 0 < a.length := by omega
    have hmt := goodM_turnM hn hm
    have f1 := fromW_fin h l hl
    show dotV v (stepV (matAt s (c.toNat - 97)) (fromW e s l)) = _
    rw [dot_step (L := 1000000) hn (by omega) (by omega) hm hv (fromW_good h l hl).1 (fv.mono (by omega)) (f1.mono (by omega))]
    rw [rev_dot h l (stepV (turnM (matAt s (c.toNat - 97))) v) (1000 + L) hl (by rw [stepV_len, hmt.1]) (stepV_fin hmt fv hv) (by omega) (by omega)]
    rw [List.reverse_cons, fromW_snoc, matAt_turn hk]
theorem autB_turn {a e : List Int} {s : List (List (List Int))} (h : autB a e s = true) : autB e a (s.map turnM) = true := by
  obtain ⟨h1, h2, h3, h4, h5, h6⟩ := autB_get h
  unfold autB costV
  rw [h2, h3, h4, List.length_map, inB_true.2 (show (1 : Int) ≤ (a.length : Int) ∧ (a.length : Int) ≤ 6 by omega), inB_true.2 (show (1 : Int) ≤ (s.length : Int) ∧ (s.length : Int) ≤ 3 by omega)]
  simp only [Bool.true_and, beq_self_eq_true]
  refine allN_iff.2 fun i hi => ?_
  rw [matAt_turn hi]
  have hm := goodM_turnM (by omega) (h6 i hi)
  unfold costM costV
  rw [hm.1]
  simp only [beq_self_eq_true, Bool.true_and]
  refine allN_iff.2 fun j hj => ?_
  have hr := hm.2 j (by first | omega | (rw [← hm.1]; exact hj))
  rw [hr.1, hr.2]
  simp
/-- A reversed automaton's cost of the reversed word. -/
theorem cost_rev {a e : List Int} {s : List (List (List Int))} (h : autB a e s = true) {l : List UInt8} (hl : okW s.length l) (hn : l.length ≤ 100) : costW e a (s.map turnM) ⟨l.reverse.toArray⟩ = costW a e s ⟨l.toArray⟩ := by
  have hg := autB_get h
  have ht := autB_turn h
  have hl' : okW (s.map turnM).length l.reverse := by rw [List.length_map]; exact fun c hc => hl c (by simpa using hc)
  unfold costW
  show dotV e (fromW a (s.map turnM) l.reverse) = dotV a (fromW e s l)
  rw [rev_dot h l a 1000 hl rfl (costsB_fin hg.2.1) (by omega) (by omega)]
  exact dotV_comm (fromW_good ht _ hl').1.symm
theorem ndL_comm (f g : Nat → Bool) : ∀ k, ndL f g k = ndL g f k
  | 0 => rfl
  | k + 1 => by
    by_cases h : (!f k || !g k) = true
    · rw [ndL_yes h, ndL_yes (by rw [Bool.or_comm]; exact h), ndL_comm f g k]
    · rw [ndL_no h, ndL_no (by rw [Bool.or_comm]; exact h), ndL_comm f g k]
/-- A reversed automaton has the same needless states. -/
theorem nd_rev {a e : List Int} {s : List (List (List Int))} (h : autB a e s = true) : ndR e a (s.map turnM) = ndR a e s := by
  have hsq := autB_sq h
  have hel := (autB_get h).2.2.2.1
  rw [ndR_yes h, ndR_yes (autB_turn h), hel, rnd_turnB hsq, rnd_turnF hsq, ndL_comm]

set_option linter.unusedSimpArgs false
set_option linter.unusedVariables false

theorem wordB_of {k : Nat} {b : ByteArray} (hl : lenB b ≤ 6) (h : okW k (bytesOf b)) : wordB k b = true := by
  unfold wordB
  simp only [Bool.and_eq_true, decide_eq_true_eq]
  refine ⟨allN_iff.2 fun i hi => inB_true.2 ?_, by omega⟩
  have hi' : i < (bytesOf b).length := hi
  have e : byteI b i = ((bytesOf b)[i].toNat : Int) := by unfold byteI; simp [List.getD, hi']
  have := h _ (List.getElem_mem hi')
  rw [e]; omega
/-- The word of k letters a. -/
def aaW (k : Nat) : ByteArray := ⟨(List.replicate k (97 : UInt8)).toArray⟩
theorem aaW_len (k : Nat) : lenB (aaW k) = k := by simp [lenB, aaW, bytesOf]
theorem aaW_ok {k L : Nat} (hL : 1 ≤ L) : okW L (bytesOf (aaW k)) := fun c hc => by
  have hc : c ∈ List.replicate k (97 : UInt8) := hc
  rw [(List.mem_replicate.1 hc).2]
  show 97 ≤ (97 : UInt8).toNat ∧ (97 : UInt8).toNat < 97 + L
  rw [show (97 : UInt8).toNat = 97 from rfl]; omega
section
variable {a e : List Int} {s : List (List (List Int))} {a' e' : List Int} {s' : List (List (List Int))}
theorem aaW_cost {k : Nat} (hk : k ≤ 6) (h : autB a e s = true) : cwR a e s (aaW k) = (costW a e s (aaW k), true) :=
  cwR_yes (askW_yes h (wordB_of (by rw [aaW_len]; exact hk) (aaW_ok (autB_get h).2.2.2.2.1.1)))
theorem cost_bd (h : autB a e s = true) {b : ByteArray} (hb : okW s.length (bytesOf b)) (hn : lenB b ≤ 100) : -1000000 ≤ costW a e s b ∧ costW a e s b ≤ 1000000000 := by
  have hn' : (bytesOf b).length ≤ 100 := hn
  have f : FinL (1000 + (1000 + 1000 * ((bytesOf b).length : Int))) (costW a e s b) := dotV_fin (costsB_fin (autB_get h).2.1) (fromW_fin h _ hb) (Nat.le_of_eq (fromW_good h _ hb).1.symm)
  unfold FinL at f
  omega
theorem auUR_ok (h : (auUR a e s a' e' s').2.2.2 = true) : autB a e s = true ∧ autB a' e' s' = true ∧ s.length = s'.length ∧ autB (a ++ a') (e ++ e') (uniS s s') = true ∧ auUR a e s a' e' s' = (a ++ a', e ++ e', uniS s s', true) := by
  cases h1 : twoB a e s a' e' s' with
  | false => rw [auUR_no (.inl h1)] at h; cases h
  | true =>
    cases h2 : autB (a ++ a') (e ++ e') (uniS s s') with
    | false => rw [auUR_no (.inr h2)] at h; cases h
    | true => obtain ⟨q1, q2, q3⟩ := twoB_get h1; exact ⟨q1, q2, q3, rfl, auUR_yes h1 h2⟩
theorem auPR_ok (h : (auPR a e s a' e' s').2.2.2 = true) : autB a e s = true ∧ autB a' e' s' = true ∧ s.length = s'.length ∧ autB (pairsL a a') (pairsL e e') (prodS s s') = true ∧ auPR a e s a' e' s' = (pairsL a a', pairsL e e', prodS s s', true) := by
  cases h1 : twoB a e s a' e' s' with
  | false => rw [auPR_no (.inl h1)] at h; cases h
  | true =>
    cases h2 : autB (pairsL a a') (pairsL e e') (prodS s s') with
    | false => rw [auPR_no (.inr h2)] at h; cases h
    | true => obtain ⟨q1, q2, q3⟩ := twoB_get h1; exact ⟨q1, q2, q3, rfl, auPR_yes h1 h2⟩
def lensA (a e : List Int) (s : List (List (List Int))) : Prop := a.length ≤ 1099511627776 ∧ e.length ≤ 1099511627776 ∧ s.length ≤ 1099511627776 ∧ ∀ i, i < s.length → lenM (matAt s i)
theorem AutOk.lenA {a e : List Int} {s : List (List (List Int))} (h : AutOk a e s) : lensA a e s :=
  ⟨by have := h.la; omega, by have := h.le; omega, by have := h.ls; omega, fun i hi => ⟨by have := (h.lm i hi).1; omega, fun j hj => by have := (h.lm i hi).2 j hj; omega⟩⟩
theorem lensA_nil : lensA [] [] [] := ⟨Nat.zero_le _, Nat.zero_le _, Nat.zero_le _, fun i hi => by simp at hi⟩
theorem auUR_lens (a e : List Int) (s : List (List (List Int))) (a' e' : List Int) (s' : List (List (List Int))) : lensA (auUR a e s a' e' s').1 (auUR a e s a' e' s').2.1 (auUR a e s a' e' s').2.2.1 := by
  cases h : (auUR a e s a' e' s').2.2.2 with
  | true => obtain ⟨_, _, _, h2, e1⟩ := auUR_ok h; rw [e1]; exact autB_len h2
  | false =>
    unfold auUR at h ⊢
    split
    · rename_i h2; rw [if_pos h2] at h; cases h
    · exact lensA_nil
theorem auPR_lens (a e : List Int) (s : List (List (List Int))) (a' e' : List Int) (s' : List (List (List Int))) : lensA (auPR a e s a' e' s').1 (auPR a e s a' e' s').2.1 (auPR a e s a' e' s').2.2.1 := by
  cases h : (auPR a e s a' e' s').2.2.2 with
  | true => obtain ⟨_, _, _, h2, e1⟩ := auPR_ok h; rw [e1]; exact autB_len h2
  | false =>
    unfold auPR at h ⊢
    split
    · rename_i h2; rw [if_pos h2] at h; cases h
    · exact lensA_nil
end
/-- The last k letters of a word, the last one first. -/
def trnK (b : ByteArray) (k : Nat) : ByteArray := ⟨((bytesOf b).reverse.take k).toArray⟩
theorem trnK_len {b : ByteArray} {k : Nat} (h : k ≤ lenB b) : (trnK b k).size = k := by
  have h : k ≤ (bytesOf b).length := h
  show ((bytesOf b).reverse.take k).length = k
  simp; omega
theorem trnK_suc {b : ByteArray} {k i : Nat} (hk : k < lenB b) (hi : i = lenB b - 1 - k) : trnK b k ++ ByteArray.mk (List.toArray (((bytesOf b).drop i).take (i + 1 - i))) = trnK b (k + 1) := by
  subst hi
  have hk' : k < (bytesOf b).length := hk
  have hl : lenB b = (bytesOf b).length := rfl
  rw [show lenB b - 1 - k + 1 - (lenB b - 1 - k) = 1 by omega]
  have e : ((bytesOf b).drop (lenB b - 1 - k)).take 1 = [(bytesOf b)[(bytesOf b).length - 1 - k]] := by
    rw [List.drop_eq_getElem_cons (by omega), List.take_succ_cons, List.take_zero]
    rfl
  rw [e]
  unfold trnK
  rw [List.take_add_one, List.getElem?_reverse hk', List.getElem?_eq_getElem (by omega)]
  apply ByteArray.ext
  simp
theorem trnK_all (b : ByteArray) : trnK b (lenB b) = ⟨(bytesOf b).reverse.toArray⟩ := by
  unfold trnK
  rw [List.take_of_length_le (by simp [lenB])]
theorem mk_bytes (b : ByteArray) : (⟨(bytesOf b).toArray⟩ : ByteArray) = b := by
  obtain ⟨d⟩ := b
  simp [bytesOf]
/-- The reversed word in the reversed automaton. -/
theorem rev_word {a e : List Int} {s : List (List (List Int))} {b : ByteArray} (h : askW a e s b = true) : cwR e a (s.map turnM) (trnK b (lenB b)) = (costW a e s b, true) := by
  unfold askW at h
  simp only [Bool.and_eq_true] at h
  obtain ⟨h1, h2⟩ := h
  have hw := wordB_get h2
  have hok := wordB_ok h2
  have hl : (bytesOf b).length ≤ 6 := hw.1
  rw [trnK_all]
  have hc := cost_rev h1 hok (by omega)
  rw [mk_bytes] at hc
  rw [← hc]
  refine cwR_yes (askW_yes (autB_turn h1) (wordB_of ?_ ?_))
  · show ((bytesOf b).reverse.toArray.toList).length ≤ 6
    simp; exact hl
  · rw [List.length_map]
    intro c hc
    have hc : c ∈ (bytesOf b).reverse.toArray.toList := hc
    exact hok c (by simpa using hc)

end Go.Proofs.Ytpimjkhfookipaa
