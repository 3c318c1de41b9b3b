/- Plain functions on lists of rows, and laws on them. No conditions. -/
import Derived.Test.YtpimjkhfookipaaPure
import Derived.Test.YtpimjkhfookipaaEngE
import Derived.Lib.Join
import Derived.Lib.Bytealg
namespace Go.Proofs.Ytpimjkhfookipaa
set_option linter.unusedSimpArgs false
set_option linter.unusedVariables false

abbrev rowAt (m : List (List Int)) (i : Nat) : List Int := m.getD i []
abbrev rows (m : List (List Int)) : V := .seq 1 m.length fun i => ints (rowAt m i)

/-- The sum of the first k rows' lengths. -/
def sumM (m : List (List Int)) : Nat → Nat
  | 0 => 0
  | k + 1 => sumM m k + (rowAt m k).length
set_option linter.unusedSimpArgs false
set_option linter.unusedVariables false

abbrev vs (b : ByteArray) : V := .val (.string b)
abbrev stAt (l : List ByteArray) (i : Nat) : ByteArray := l.getD i ByteArray.empty
def lenB (b : ByteArray) : Nat := (bytesOf b).length
theorem lenB_is (b : ByteArray) : (bytesOf b).length = lenB b := rfl
/-- Byte j of a string, as a number. -/
def byteI (b : ByteArray) (j : Nat) : Int := ((bytesOf b).getD j 0).toNat
set_option linter.unusedSimpArgs false
set_option linter.unusedVariables false

abbrev T3 := Int × Int × Int
abbrev tAt (l : List T3) (k : Nat) : T3 := l.getD k (0, 0, 0)
/-- The cells of terms, one after the other. -/
def tf (l : List T3) (i : Nat) : Int := if i % 3 = 0 then (tAt l (i / 3)).1 else if i % 3 = 1 then (tAt l (i / 3)).2.1 else (tAt l (i / 3)).2.2
theorem tf_0 (l : List T3) (k : Nat) : tf l (k * 3) = (tAt l k).1 := by unfold tf; rw [if_pos (by omega), show k * 3 / 3 = k by omega]
theorem tf_1 (l : List T3) (k : Nat) : tf l (k * 3 + 1) = (tAt l k).2.1 := by unfold tf; rw [if_neg (by omega), if_pos (by omega), show (k * 3 + 1) / 3 = k by omega]
theorem tf_2 (l : List T3) (k : Nat) : tf l (k * 3 + 2) = (tAt l k).2.2 := by unfold tf; rw [if_neg (by omega), if_neg (by omega), show (k * 3 + 2) / 3 = k by omega]
theorem tf_00 (l : List T3) : tf l 0 = (tAt l 0).1 := tf_0 l 0
theorem tf_01 (l : List T3) : tf l 1 = (tAt l 0).2.1 := tf_1 l 0
theorem tf_02 (l : List T3) : tf l 2 = (tAt l 0).2.2 := tf_2 l 0
abbrev terms (l : List T3) : V := .seq 3 l.length fun i => vi (tf l i)
/-- One term's cells. -/
def t3 (t : T3) (j : Nat) : Int := if j = 0 then t.1 else if j = 1 then t.2.1 else t.2.2
theorem t3_0 (t : T3) : t3 t 0 = t.1 := rfl
theorem t3_1 (t : T3) : t3 t 1 = t.2.1 := rfl
theorem t3_2 (t : T3) : t3 t 2 = t.2.2 := rfl
abbrev term (t : T3) : V := .agg 3 fun j => vi (t3 t j)
theorem tf_t3 (l : List T3) (k : Nat) {j : Nat} (hj : j < 3) : tf l (k * 3 + j) = t3 (tAt l k) j := by
  unfold tf t3
  rw [show (k * 3 + j) / 3 = k by omega, show (k * 3 + j) % 3 = j by omega]

def termB (t : T3) : Bool := decide (0 ≤ t.1) && decide (0 ≤ t.2.1) && decide (t.1 + t.2.1 ≤ 6) && finB t.2.2
theorem termB_iff {t : T3} : termB t = true ↔ 0 ≤ t.1 ∧ 0 ≤ t.2.1 ∧ t.1 + t.2.1 ≤ 6 ∧ -1000000 ≤ t.2.2 ∧ t.2.2 ≤ 1000000 := by
  simp [termB, finB]; omega
theorem termB_no {t : T3} (h : ¬ (0 ≤ t.1 ∧ 0 ≤ t.2.1 ∧ t.1 + t.2.1 ≤ 6 ∧ -1000000 ≤ t.2.2 ∧ t.2.2 ≤ 1000000)) : termB t = false := by
  cases e : termB t with
  | false => rfl
  | true => exact absurd (termB_iff.1 e) h
def befB (a b : T3) : Bool := decide (a.1 < b.1) || (decide (a.1 = b.1) && decide (a.2.1 < b.2.1))
theorem befB_iff {a b : T3} : befB a b = true ↔ a.1 < b.1 ∨ (a.1 = b.1 ∧ a.2.1 < b.2.1) := by simp [befB]
theorem befB_no {a b : T3} (h : ¬ (a.1 < b.1 ∨ (a.1 = b.1 ∧ a.2.1 < b.2.1))) : befB a b = false := by
  cases e : befB a b with
  | false => rfl
  | true => exact absurd (befB_iff.1 e) h
def cmpI (a b : T3) : Int := if a.1 = b.1 then a.2.1 - b.2.1 else a.1 - b.1
theorem cmpI_bef (a b : T3) : decide (cmpI a b ≥ 0) = !befB a b := by
  unfold cmpI
  cases e : befB a b with
  | true =>
    have := befB_iff.1 e
    split <;> simp <;> omega
  | false =>
    have : ¬ (a.1 < b.1 ∨ (a.1 = b.1 ∧ a.2.1 < b.2.1)) := fun h => by rw [befB_iff.2 h] at e; cases e
    split <;> simp <;> omega
theorem cmpI_ge {a b : T3} (h : 0 ≤ cmpI a b) : befB a b = false := by
  have := cmpI_bef a b
  rw [decide_eq_true (show cmpI a b ≥ 0 from h)] at this
  cases e : befB a b with
  | false => rfl
  | true => rw [e] at this; cases this
theorem cmpI_lt {a b : T3} (h : cmpI a b < 0) : befB a b = true := by
  have := cmpI_bef a b
  rw [decide_eq_false (show ¬ cmpI a b ≥ 0 by omega)] at this
  cases e : befB a b with
  | true => rfl
  | false => rw [e] at this; cases this
theorem ve_agg3 {f g : Nat → V} (h : ∀ i, i < 3 → f i = g i) : VE (.agg 3 f) (.agg 3 g) := ⟨rfl, fun i hi => VE.of_eq (h i hi)⟩
/-- Place k of a plane polynomial is in order. -/
def plkB (l : List T3) (k : Nat) : Bool := termB (tAt l k) && (decide (k = 0) || befB (tAt l (k - 1)) (tAt l k))
theorem plkB_term {l : List T3} {k : Nat} (h : termB (tAt l k) = false) : plkB l k = false := by unfold plkB; rw [h]; rfl
theorem plkB_zero {l : List T3} {k : Nat} (h : termB (tAt l k) = true) (hk : k = 0) : plkB l k = true := by unfold plkB; rw [h, decide_eq_true hk]; rfl
theorem plkB_bef {l : List T3} {k : Nat} (h : termB (tAt l k) = true) (hb : befB (tAt l (k - 1)) (tAt l k) = true) : plkB l k = true := by unfold plkB; rw [h, hb, Bool.or_true]; rfl
theorem plkB_nobef {l : List T3} {k : Nat} (hk : ¬ k = 0) (hb : befB (tAt l (k - 1)) (tAt l k) = false) : plkB l k = false := by unfold plkB; rw [hb, decide_eq_false hk, Bool.or_false, Bool.and_false]
theorem plkB_is {l : List T3} {k : Nat} (h : plkB l k = true) : termB (tAt l k) = true := by unfold plkB at h; simp only [Bool.and_eq_true] at h; exact h.1
def planeB (l : List T3) : Bool := inB l.length 1 12 && allN l.length (plkB l)
theorem planeB_in {l : List T3} (h : ¬ (1 ≤ (l.length : Int) ∧ (l.length : Int) ≤ 12)) : planeB l = false := by unfold planeB; rw [inB_false.2 h]; rfl
theorem planeB_no {l : List T3} {k : Nat} (hk : k < l.length) (h : plkB l k = false) : planeB l = false := by unfold planeB; rw [allN_false hk h, Bool.and_false]
theorem planeB_is {l : List T3} (h : ∀ k, k < l.length → plkB l k = true) : planeB l = inB l.length 1 12 := by unfold planeB; rw [allN_true h, Bool.and_true]
theorem planeB_parts {l : List T3} (h : planeB l = true) : (1 ≤ l.length ∧ l.length ≤ 12) ∧ ∀ k, k < l.length → termB (tAt l k) = true := by
  unfold planeB at h
  simp only [Bool.and_eq_true] at h
  have := inB_true.1 h.1
  exact ⟨by omega, fun k hk => plkB_is (allN_iff.1 h.2 k hk)⟩

/-- The least of b and the first k numbers. -/
def lowN (g : Nat → Int) (b : Int) : Nat → Int
  | 0 => b
  | k + 1 => min (lowN g b k) (g k)
theorem lowN_le (g : Nat → Int) (b : Int) : ∀ k, lowN g b k ≤ b
  | 0 => Int.le_refl _
  | k + 1 => by have := lowN_le g b k; show min _ _ ≤ _; rw [Int.min_def]; split <;> omega
theorem lowN_min (g : Nat → Int) (b c : Int) (h : c ≤ b) : ∀ k, lowN g c k = min c (lowN g b k)
  | 0 => by show c = min c b; rw [Int.min_def]; split <;> omega
  | k + 1 => by
    show min (lowN g c k) (g k) = min c (min (lowN g b k) (g k))
    rw [lowN_min g b c h k, Int.min_assoc]
theorem lowN_get (g : Nat → Int) (b : Int) : ∀ k j, j < k → lowN g b k ≤ g j
  | 0, j, h => by omega
  | k + 1, j, h => by
    show min _ _ ≤ _
    rcases Nat.lt_or_ge j k with h1 | h1
    · have := lowN_get g b k j h1; rw [Int.min_def]; split <;> omega
    · rw [show j = k by omega, Int.min_def]; split <;> omega
theorem lowN_first (g : Nat → Int) (b : Int) {n : Nat} (hn : 1 ≤ n) (h : g 0 ≤ b) : lowN g b n = lowN g (g 0) n := by
  rw [lowN_min g b (g 0) h n]
  have := lowN_get g b n 0 (by omega)
  rw [Int.min_def]; split <;> omega
theorem lowN_ge (g : Nat → Int) (b c : Int) (hb : c ≤ b) : ∀ k, (∀ j, j < k → c ≤ g j) → c ≤ lowN g b k
  | 0, _ => hb
  | k + 1, h => by
    have h1 := lowN_ge g b c hb k fun j hj => h j (by omega)
    have h2 := h k (by omega)
    show c ≤ min _ _
    rw [Int.min_def]; split <;> omega

def lowI (l : List T3) (b : Int) (k : Nat) : Int := lowN (fun j => (tAt l j).1) b k
def lowJ (l : List T3) (b : Int) (k : Nat) : Int := lowN (fun j => (tAt l j).2.1) b k
def normT (l : List T3) (i j : Int) (t : T3) : T3 := (t.1 - i, t.2.1 - j, t.2.2 - (tAt l 0).2.2)
def normL (l : List T3) : List T3 := l.map (normT l (lowI l 6 l.length) (lowJ l 6 l.length))
@[simp] theorem normL_len (l : List T3) : (normL l).length = l.length := by simp [normL]
theorem normL_get {l : List T3} {k : Nat} (h : k < l.length) : tAt (normL l) k = normT l (lowI l 6 l.length) (lowJ l 6 l.length) (tAt l k) := by simp [tAt, normL, List.getD, h]
def normR (l : List T3) : List T3 × Bool := if planeB l && planeB (normL l) then (normL l, true) else ([], false)
theorem normR_no {l : List T3} (h : planeB l = false) : normR l = ([], false) := by unfold normR; rw [h]; rfl
theorem normR_no2 {l : List T3} (h : planeB (normL l) = false) : normR l = ([], false) := by unfold normR; rw [h, Bool.and_false]; rfl
theorem normR_yes {l : List T3} (h : planeB l = true) (h2 : planeB (normL l) = true) : normR l = (normL l, true) := by unfold normR; rw [h, h2]; rfl
theorem low_first {l : List T3} (h : planeB l = true) : lowI l 6 l.length = lowI l (tAt l 0).1 l.length ∧ lowJ l 6 l.length = lowJ l (tAt l 0).2.1 l.length := by
  have h1 := planeB_parts h
  have h2 := termB_iff.1 (h1.2 0 (by omega))
  exact ⟨lowN_first _ _ h1.1.1 (by show (tAt l 0).1 ≤ 6; omega), lowN_first _ _ h1.1.1 (by show (tAt l 0).2.1 ≤ 6; omega)⟩

def eqT (a b : T3) : Bool := a.1 == b.1 && a.2.1 == b.2.1 && a.2.2 == b.2.2
theorem eqT_refl (a : T3) : eqT a a = true := by simp [eqT]
def eqTL (a b : List T3) : Bool := a.length == b.length && allN a.length fun k => eqT (tAt a k) (tAt b k)
theorem eqTL_len {a b : List T3} (h : ¬ (a.length : Int) = b.length) : eqTL a b = false := by
  have : (a.length == b.length) = false := by simp; omega
  unfold eqTL; rw [this]; rfl
theorem eqTL_no {a b : List T3} {k : Nat} (hk : k < a.length) (h : eqT (tAt a k) (tAt b k) = false) : eqTL a b = false := by unfold eqTL; rw [allN_false hk h, Bool.and_false]
theorem eqTL_yes {a b : List T3} (h : (a.length : Int) = b.length) (h2 : ∀ k, k < a.length → eqT (tAt a k) (tAt b k) = true) : eqTL a b = true := by
  have : (a.length == b.length) = true := by simp; omega
  unfold eqTL; rw [this, allN_true h2]; rfl
theorem eqTL_refl (a : List T3) : eqTL a a = true := eqTL_yes rfl fun _ _ => eqT_refl _

set_option linter.unusedSimpArgs false
set_option linter.unusedVariables false
open Go.Proofs

set_option linter.unusedSimpArgs false
set_option linter.unusedVariables false

abbrev matAt (s : List (List (List Int))) (i : Nat) : List (List Int) := s.getD i []
abbrev mats (s : List (List (List Int))) : V := .seq 1 s.length fun i => rows (matAt s i)
def autF (a e : List Int) (s : List (List (List Int))) : Nat → V
  | 0 => ints a
  | 1 => ints e
  | _ => mats s
abbrev autV (a e : List Int) (s : List (List (List Int))) : V := .agg 3 (autF a e s)

set_option linter.unusedSimpArgs false
set_option linter.unusedVariables false

/-- The least sum of elements of two lists. -/
def dotV (a b : List Int) : Int := leastN (fun i => plusI (a.getD i 0) (b.getD i 0)) a.length
def stepV (m : List (List Int)) (v : List Int) : List Int := tab m.length fun i => dotV (rowAt m i) v
@[simp] theorem stepV_len (m : List (List Int)) (v : List Int) : (stepV m v).length = m.length := tab_len _ _
end Go.Proofs.Ytpimjkhfookipaa
