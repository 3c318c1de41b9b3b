/- Plain functions on letters of plane polynomials, and laws on them. No conditions. -/
import Derived.Test.YtjcoklapbpbheaaPurePl
import Derived.Test.YtjcoklapbpbheaaPureB
import Derived.Test.YtjcoklapbpbheaaEngB
namespace Go.Proofs.Ytjcoklapbpbheaa
open Go.RowKit

def valT (t : T3) (x y : Int) : Int := t.2.2 + t.1 * x + t.2.1 * y
theorem mul6 {k x : Int} (hk : 0 ≤ k ∧ k ≤ 6) (hx : -1000000 ≤ x ∧ x ≤ 1000000) : -(k * 1000000) ≤ k * x ∧ k * x ≤ k * 1000000 := by
  have : k = 0 ∨ k = 1 ∨ k = 2 ∨ k = 3 ∨ k = 4 ∨ k = 5 ∨ k = 6 := by omega
  rcases this with rfl | rfl | rfl | rfl | rfl | rfl | rfl <;> omega
theorem valT_parts {t : T3} {x y : Int} (h : termB t = true) (hx : -1000000 ≤ x ∧ x ≤ 1000000) (hy : -1000000 ≤ y ∧ y ≤ 1000000) :
    -6000000 ≤ t.1 * x ∧ t.1 * x ≤ 6000000 ∧ -6000000 ≤ t.2.1 * y ∧ t.2.1 * y ≤ 6000000 ∧ -1000000 ≤ t.2.2 ∧ t.2.2 ≤ 1000000 := by
  have h1 := termB_iff.1 h
  have h2 := mul6 (k := t.1) (x := x) (by omega) hx
  have h3 := mul6 (k := t.2.1) (x := y) (by omega) hy
  omega
theorem valT_bnd {t : T3} {x y : Int} (h : termB t = true) (hx : -1000000 ≤ x ∧ x ≤ 1000000) (hy : -1000000 ≤ y ∧ y ≤ 1000000) : -13000000 ≤ valT t x y ∧ valT t x y ≤ 13000000 := by
  have := valT_parts h hx hy
  unfold valT; omega

def placesL (g : Nat → Int) (v : Int) : Nat → List Int
  | 0 => []
  | n + 1 => if g n = v then placesL g v n ++ [(n : Int)] else placesL g v n
theorem placesL_yes {g : Nat → Int} {v : Int} {n : Nat} (h : g n = v) : placesL g v (n + 1) = placesL g v n ++ [(n : Int)] := by show (if g n = v then _ else _) = _; rw [if_pos h]
theorem placesL_no {g : Nat → Int} {v : Int} {n : Nat} (h : ¬ g n = v) : placesL g v (n + 1) = placesL g v n := by show (if g n = v then _ else _) = _; rw [if_neg h]
theorem placesL_len (g : Nat → Int) (v : Int) : ∀ n, (placesL g v n).length ≤ n
  | 0 => by simp [placesL]
  | n + 1 => by
    have := placesL_len g v n
    by_cases h : g n = v
    · rw [placesL_yes h]; simp; omega
    · rw [placesL_no h]; omega
theorem placesL_mem (g : Nat → Int) (v : Int) : ∀ n (z : Int), z ∈ placesL g v n → 0 ≤ z ∧ z < n
  | 0, z, h => by simp [placesL] at h
  | n + 1, z, h => by
    by_cases h1 : g n = v
    · rw [placesL_yes h1] at h
      rcases List.mem_append.1 h with h2 | h2
      · have := placesL_mem g v n z h2; omega
      · simp at h2; omega
    · rw [placesL_no h1] at h
      have := placesL_mem g v n z h; omega
theorem placesL_first {g : Nat → Int} {v : Int} {n : Nat} (h : 1 ≤ (placesL g v n).length) : 0 ≤ (placesL g v n).getD 0 0 ∧ (placesL g v n).getD 0 0 < n := by
  refine placesL_mem g v n _ ?_
  have e : (placesL g v n).getD 0 0 = (placesL g v n)[0]'(by omega) := by simp [List.getD, show 0 < (placesL g v n).length by omega]
  rw [e]; exact List.getElem_mem _
theorem placesL_ne (g : Nat → Int) (v : Int) : ∀ n i, i < n → g i = v → 1 ≤ (placesL g v n).length
  | 0, i, h, _ => by omega
  | n + 1, i, h, hv => by
    by_cases h1 : g n = v
    · rw [placesL_yes h1]; simp
    · rw [placesL_no h1]
      rcases Nat.lt_or_ge i n with h2 | h2
      · exact placesL_ne g v n i h2 hv
      · rw [show i = n by omega] at hv; exact absurd hv h1

theorem leastN_low (g : Nat → Int) : ∀ n, leastN g n = lowN g 1000000000 n
  | 0 => rfl
  | n + 1 => by rw [leastN_min, leastN_low g n]; rfl
theorem lowN_at (g : Nat → Int) : ∀ n, 1 ≤ n → ∃ i, i < n ∧ g i = lowN g (g 0) n
  | 0, h => by omega
  | 1, _ => ⟨0, by omega, by show g 0 = min (g 0) (g 0); omega⟩
  | n + 2, _ => by
    obtain ⟨i, h1, h2⟩ := lowN_at g (n + 1) (by omega)
    by_cases h : lowN g (g 0) (n + 1) ≤ g (n + 1)
    · exact ⟨i, by omega, by show _ = min (lowN g (g 0) (n + 1)) (g (n + 1)); omega⟩
    · exact ⟨n + 1, by omega, by show _ = min (lowN g (g 0) (n + 1)) (g (n + 1)); omega⟩

abbrev valP (l : List T3) (x y : Int) (i : Nat) : Int := valT (tAt l i) x y
def lowV (l : List T3) (x y : Int) : Int := lowN (valP l x y) (valP l x y 0) l.length
def goodP (l : List T3) (x y : Int) : Bool := planeB l && finB x && finB y
theorem goodP_parts {l : List T3} {x y : Int} (h : goodP l x y = true) : planeB l = true ∧ (-1000000 ≤ x ∧ x ≤ 1000000) ∧ (-1000000 ≤ y ∧ y ≤ 1000000) := by
  unfold goodP at h
  simp only [Bool.and_eq_true] at h
  exact ⟨h.1.1, finB_true.1 h.1.2, finB_true.1 h.2⟩
theorem goodP_mk {l : List T3} {x y : Int} (h : planeB l = true) (hx : -1000000 ≤ x ∧ x ≤ 1000000) (hy : -1000000 ≤ y ∧ y ≤ 1000000) : goodP l x y = true := by unfold goodP; rw [h, finB_true.2 hx, finB_true.2 hy]; rfl
theorem goodP_no1 {l : List T3} {x y : Int} (h : planeB l = false) : goodP l x y = false := by unfold goodP; rw [h]; rfl
theorem goodP_no2 {l : List T3} {x y : Int} (h : finB x = false) : goodP l x y = false := by unfold goodP; rw [h, Bool.and_false]; rfl
theorem goodP_no3 {l : List T3} {x y : Int} (h : finB y = false) : goodP l x y = false := by unfold goodP; rw [h, Bool.and_false]
theorem goodP_no23 {l : List T3} {x y : Int} (h : (finB x && finB y) = false) : goodP l x y = false := by
  unfold goodP; rw [Bool.and_assoc, h, Bool.and_false]
theorem goodP_yes23 {l : List T3} {x y : Int} (h1 : planeB l = true) (h : (finB x && finB y) = true) : goodP l x y = true := by
  unfold goodP; rw [Bool.and_assoc, h, h1]; rfl
theorem lowV_bnd {l : List T3} {x y : Int} (h : goodP l x y = true) : lowV l x y ≤ 13000000 ∧ leastN (valP l x y) l.length = lowV l x y := by
  obtain ⟨h1, h2, h3⟩ := goodP_parts h
  have h4 := planeB_parts h1
  have h5 := valT_bnd (h4.2 0 (by omega)) h2 h3
  have h6 := lowN_le (valP l x y) (valP l x y 0) l.length
  refine ⟨by unfold lowV; show _ ≤ _; have : valP l x y 0 ≤ 13000000 := h5.2; omega, ?_⟩
  rw [leastN_low]
  exact lowN_first _ _ h4.1.1 (by show valT _ _ _ ≤ _; omega)
def askP (l : List T3) (x y : Int) : Bool := goodP l x y && finB (lowV l x y)
theorem askP_no {l : List T3} {x y : Int} (h : goodP l x y = false) : askP l x y = false := by unfold askP; rw [h]; rfl
theorem askP_is {l : List T3} {x y : Int} (h : goodP l x y = true) : askP l x y = finB (lowV l x y) := by unfold askP; rw [h]; rfl
theorem askP_good {l : List T3} {x y : Int} (h : askP l x y = true) : goodP l x y = true := by unfold askP at h; simp only [Bool.and_eq_true] at h; exact h.1
theorem low_num {l : List T3} {x y : Int} (h : goodP l x y = true) : numB (lowV l x y) = askP l x y := by
  rw [askP_is h]
  have := (lowV_bnd h).1
  unfold numB; rw [beq_eq_false_iff_ne.2 (by omega)]; simp
/-- The indices of the least terms. -/
def plcP (l : List T3) (x y : Int) : List Int := placesL (valP l x y) (lowV l x y) l.length
theorem plcP_ne {l : List T3} {x y : Int} (h : goodP l x y = true) : 1 ≤ (plcP l x y).length := by
  have h1 := (planeB_parts (goodP_parts h).1).1
  obtain ⟨i, hi, hv⟩ := lowN_at (valP l x y) l.length h1.1
  exact placesL_ne _ _ _ i hi hv
theorem plcP_first {l : List T3} {x y : Int} (h : goodP l x y = true) : 0 ≤ (plcP l x y).getD 0 0 ∧ (plcP l x y).getD 0 0 < 12 := by
  have h1 := (planeB_parts (goodP_parts h).1).1
  have := placesL_first (g := valP l x y) (v := lowV l x y) (n := l.length) (plcP_ne h)
  unfold plcP; omega
def letP (l : List T3) (x y : Int) : Int := if 1 < (plcP l x y).length then 42 else 97 + (plcP l x y).getD 0 0
theorem letP_star {l : List T3} {x y : Int} (h : 1 < ((plcP l x y).length : Int)) : letP l x y = 42 := by unfold letP; rw [if_pos (by omega)]
theorem letP_one {l : List T3} {x y : Int} (h : ((plcP l x y).length : Int) ≤ 1) : letP l x y = 97 + (plcP l x y).getD 0 0 := by unfold letP; rw [if_neg (by omega)]
def letS (l : List T3) (x y : Int) : ByteArray := strOfNums [letP l x y]

end Go.Proofs.Ytjcoklapbpbheaa
