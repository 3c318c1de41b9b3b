/- Texts of plane polynomials, plainly: numerals, the text of a term, the order of texts. No conditions. -/
import Derived.Test.YtpimjkhfookipaaDoorFnNf
import Derived.Test.YtpimjkhfookipaaDoorPureMx
import Derived.Lib.ItoaNum
import Derived.Lib.Bytealg
namespace Go.Proofs.YtpimjkhfookipaaDoor
set_option linter.unusedSimpArgs false
set_option linter.unusedVariables false
open Go.Proofs

def decB (u : Nat) : ByteArray := ⟨(Lib.decDigits u).toArray⟩
def itoaB (n : Int) : ByteArray := ⟨(Lib.itoa n).toArray⟩
theorem bx_ext {a b : ByteArray} (h : bytesOf a = bytesOf b) : a = b := ByteArray.ext (Array.toList_inj.1 h)
theorem bx_app (a b : ByteArray) : bytesOf (a ++ b) = bytesOf a ++ bytesOf b := by simp [bytesOf]
theorem itoaB_nonneg {n : Int} (h : 0 ≤ n) : itoaB n = decB n.toNat := by
  unfold itoaB decB Lib.itoa; rw [if_neg (by omega)]
theorem itoaB_neg {n : Int} (h : n < 0) : itoaB n = ⟨#[45]⟩ ++ decB (-n).toNat := by
  apply bx_ext
  rw [bx_app]
  unfold itoaB decB Lib.itoa bytesOf
  rw [if_pos h, show n.natAbs = (-n).toNat by omega]
  rfl
theorem decB_small {u : Nat} (h : u < 10) : decB u = strOfNums [48 + (u : Int)] := by
  apply bx_ext
  unfold decB strOfNums bytesOf
  rw [Lib.decDigits, dif_pos h]
  show [UInt8.ofNat (48 + u)] = [UInt8.ofNat ((48 + (u : Int)).toNat)]
  rw [show (48 + (u : Int)).toNat = 48 + u by omega]
theorem decB_big {u : Nat} (h : ¬ u < 10) : decB u = decB (u / 10) ++ strOfNums [48 + ((u % 10 : Nat) : Int)] := by
  apply bx_ext
  rw [bx_app]
  show Lib.decDigits u = Lib.decDigits (u / 10) ++ [UInt8.ofNat ((48 + ((u % 10 : Nat) : Int)).toNat)]
  rw [Lib.decDigits, dif_neg h]
  congr 2
theorem decB_size (u : Nat) : (decB u).size ≤ u + 1 := by
  show (Lib.decDigits u).length ≤ _
  induction u using Nat.strongRecOn with
  | _ u ih =>
    rw [Lib.decDigits]
    split
    · simp
    · rw [List.length_append, List.length_singleton]
      have := ih (u / 10) (by omega)
      omega
theorem itoaB_size (n : Int) : (itoaB n).size ≤ n.natAbs + 2 := by
  by_cases h : n < 0
  · rw [itoaB_neg h, ByteArray.size_append]
    have := decB_size (-n).toNat
    show 1 + _ ≤ _
    omega
  · rw [itoaB_nonneg (by omega)]
    have := decB_size n.toNat
    omega

/-- The text of a term. -/
def ttx (t : T3) : ByteArray := itoaB t.2.2 ++ ⟨#[58]⟩ ++ itoaB t.1 ++ ⟨#[44]⟩ ++ itoaB t.2.1 ++ ⟨#[59]⟩
/-- The text of the first k terms. -/
def txK (l : List T3) : Nat → ByteArray
  | 0 => ⟨#[]⟩
  | k + 1 => txK l k ++ ttx (tAt l k)
def tx (l : List T3) : ByteArray := txK l l.length
/-- Terms of small numbers. -/
def Sml (l : List T3) : Prop := ∀ k, k < l.length → 0 ≤ (tAt l k).1 ∧ (tAt l k).1 ≤ 1000000 ∧ 0 ≤ (tAt l k).2.1 ∧ (tAt l k).2.1 ≤ 1000000 ∧ -1000000 ≤ (tAt l k).2.2 ∧ (tAt l k).2.2 ≤ 1000000
theorem ttx_size {t : T3} (h : 0 ≤ t.1 ∧ t.1 ≤ 1000000 ∧ 0 ≤ t.2.1 ∧ t.2.1 ≤ 1000000 ∧ -1000000 ≤ t.2.2 ∧ t.2.2 ≤ 1000000) : (ttx t).size ≤ 4000000 := by
  have h1 := itoaB_size t.1
  have h2 := itoaB_size t.2.1
  have h3 := itoaB_size t.2.2
  have e1 : (⟨#[58]⟩ : ByteArray).size = 1 := rfl
  have e2 : (⟨#[44]⟩ : ByteArray).size = 1 := rfl
  have e3 : (⟨#[59]⟩ : ByteArray).size = 1 := rfl
  unfold ttx
  simp only [ByteArray.size_append, e1, e2, e3]
  omega
theorem txK_size {l : List T3} (h : Sml l) : ∀ k, k ≤ l.length → (txK l k).size ≤ 4000000 * k
  | 0, _ => Nat.zero_le _
  | k + 1, hk => by
    have h1 := txK_size h k (by omega)
    have h2 := ttx_size (h k (by omega))
    show (txK l k ++ ttx (tAt l k)).size ≤ _
    rw [ByteArray.size_append]; omega
theorem Sml.of_plane {l : List T3} (h : planeB l = true) : Sml l := fun k hk => by
  have := termB_iff.1 ((planeB_parts h).2 k hk)
  omega

/-- The order of texts. -/
def ltB (a b : ByteArray) : Bool := Op.bytesLess (bytesOf a) (bytesOf b)
theorem cmp_less : ∀ a b : List UInt8, (decide (Lib.compareBytes a b ≥ 0)) = !Op.bytesLess a b
  | [], [] => rfl
  | [], _ :: _ => rfl
  | _ :: _, [] => rfl
  | a :: x, b :: y => by
    unfold Lib.compareBytes Op.bytesLess
    by_cases h1 : a < b
    · simp [h1]
    · by_cases h2 : b < a
      · have : ¬ a = b := fun e => by subst e; exact h1 h2
        simp [h1, h2, this]
      · have e : a = b := by
          have h1' : ¬ a.toNat < b.toNat := fun h => h1 (UInt8.lt_iff_toNat_lt.2 h)
          have h2' : ¬ b.toNat < a.toNat := fun h => h2 (UInt8.lt_iff_toNat_lt.2 h)
          exact UInt8.toNat_inj.1 (by omega)
        subst e
        have := cmp_less x y
        simp [h1, this]
theorem cmp_ge {a b : ByteArray} : decide (Lib.compareBytes a.data.toList b.data.toList ≥ 0) = !ltB a b := cmp_less _ _

/-- Place i of a catalogue is in order. -/
def ctkB (L : List (List T3)) (i : Nat) : Bool := okAt L i && (eqTL (nfAt L i) (tsAt L i) && (decide (i = 0) || ltB (tx (tsAt L (i - 1))) (tx (tsAt L i))))
def ctB (L : List (List T3)) : Bool := decide (L.length ≤ 10) && allN L.length (ctkB L)
theorem ctB_no {L : List (List T3)} {k : Nat} (hk : k < L.length) (h : ctkB L k = false) : ctB L = false := by unfold ctB; rw [allN_false hk h, Bool.and_false]
theorem ctB_yes {L : List (List T3)} (h2 : ∀ i, i < L.length → ctkB L i = true) : ctB L = decide (L.length ≤ 10) := by unfold ctB; rw [allN_true h2]; simp
theorem ctB_long {L : List (List T3)} (h : ¬ L.length ≤ 10) : ctB L = false := by unfold ctB; simp [h]
theorem ctB_nf {L : List (List T3)} (h : nfB L = false) : ctB L = false := by
  by_cases h10 : L.length ≤ 10
  · cases e : ctB L with
    | false => rfl
    | true =>
      unfold ctB at e
      simp only [Bool.and_eq_true] at e
      have : nfB L = true := nfB_yes h10 fun i hi => by
        have := allN_iff.1 e.2 i hi
        unfold ctkB at this
        simp only [Bool.and_eq_true] at this
        exact this.1
      rw [this] at h; cases h
  · exact ctB_long h10
theorem ctkB_eq {L : List (List T3)} {i : Nat} (h : ctkB L i = true) : okAt L i = true ∧ nfAt L i = tsAt L i := by
  unfold ctkB at h
  simp only [Bool.and_eq_true] at h
  refine ⟨h.1, ?_⟩
  have h2 := h.2.1
  unfold eqTL at h2
  simp only [Bool.and_eq_true, beq_iff_eq] at h2
  obtain ⟨h1, h2⟩ := h2
  apply List.ext_getElem h1
  intro j hj hj'
  have h3 := allN_iff.1 h2 j hj
  unfold eqT at h3
  simp only [Bool.and_eq_true, beq_iff_eq] at h3
  obtain ⟨⟨p1, p2⟩, p3⟩ := h3
  have q1 : tAt (nfAt L i) j = (nfAt L i)[j] := by unfold tAt; rw [List.getD_eq_getElem?_getD, List.getElem?_eq_getElem hj]; rfl
  have q2 : tAt (tsAt L i) j = (tsAt L i)[j] := by unfold tAt; rw [List.getD_eq_getElem?_getD, List.getElem?_eq_getElem hj']; rfl
  rw [q1, q2] at p1 p2 p3
  exact Prod.ext p1 (Prod.ext p2 p3)
/-- A normal form's terms are small. -/
theorem Sml.of_nf {L : List (List T3)} {i : Nat} (h : okAt L i = true) : Sml (nfAt L i) := by
  unfold okAt normR at h
  unfold nfAt normR
  split at h
  · rename_i e
    rw [if_pos e]
    simp only [Bool.and_eq_true] at e
    exact Sml.of_plane e.2
  · cases h
theorem nf_len {L : List (List T3)} {i : Nat} (h : okAt L i = true) : (nfAt L i).length ≤ 12 := by
  unfold okAt normR at h
  unfold nfAt normR
  split at h
  · rename_i e
    rw [if_pos e]
    simp only [Bool.and_eq_true] at e
    exact (planeB_parts e.2).1.2
  · cases h
theorem ctkB_no1 {L : List (List T3)} {i : Nat} (h : okAt L i = false) : ctkB L i = false := by unfold ctkB; rw [h]; rfl
theorem ctkB_no2 {L : List (List T3)} {i : Nat} (h : eqTL (nfAt L i) (tsAt L i) = false) : ctkB L i = false := by unfold ctkB; rw [h]; simp
theorem ctkB_no3 {L : List (List T3)} {i : Nat} (hi : ¬ i = 0) (h : ltB (tx (tsAt L (i - 1))) (tx (tsAt L i)) = false) : ctkB L i = false := by unfold ctkB; rw [h]; simp [hi]
theorem ctkB_yes0 {L : List (List T3)} {i : Nat} (h1 : okAt L i = true) (h2 : eqTL (nfAt L i) (tsAt L i) = true) (hi : i = 0) : ctkB L i = true := by unfold ctkB; rw [h1, h2]; simp [hi]
theorem ctkB_yes {L : List (List T3)} {i : Nat} (h1 : okAt L i = true) (h2 : eqTL (nfAt L i) (tsAt L i) = true) (h : ltB (tx (tsAt L (i - 1))) (tx (tsAt L i)) = true) : ctkB L i = true := by unfold ctkB; rw [h1, h2, h]; simp
/-- The text of a catalogue: the first k texts, each ended by a newline. -/
def catK (L : List (List T3)) : Nat → ByteArray
  | 0 => ⟨#[]⟩
  | k + 1 => catK L k ++ (tx (tsAt L k) ++ ⟨#[10]⟩)
theorem catK_size {L : List (List T3)} (h : ctB L = true) : ∀ k, k ≤ L.length → (catK L k).size ≤ 50000000 * k
  | 0, _ => Nat.zero_le _
  | k + 1, hk => by
    have h1 := catK_size h k (by omega)
    unfold ctB at h
    simp only [Bool.and_eq_true] at h
    obtain ⟨h2, h3⟩ := ctkB_eq (allN_iff.1 h.2 k (by omega))
    have h4 := nf_len h2
    have h5 := txK_size (Sml.of_nf h2) _ (Nat.le_refl _)
    rw [h3] at h4 h5
    show (catK L k ++ (tx (tsAt L k) ++ ⟨#[10]⟩)).size ≤ _
    rw [ByteArray.size_append, ByteArray.size_append]
    have e : (⟨#[10]⟩ : ByteArray).size = 1 := rfl
    rw [e]
    unfold tx
    omega
def ctxR (L : List (List T3)) : ByteArray × Bool := if ctB L then (catK L L.length, true) else (⟨#[]⟩, false)
/-- The place of a normal form in a catalogue. -/
def plcN (L : List (List T3)) (l : List T3) : Int := firstN (fun i => eqTL (tsAt L i) (normR l).1) L.length
def plcR (L : List (List T3)) (l : List T3) : Int × Bool := if ctB L && (normR l).2 then (max 0 (plcN L l), decide (plcN L l ≥ 0)) else (0, false)
theorem plcR_no1 {L : List (List T3)} {l : List T3} (h : ctB L = false) : plcR L l = (0, false) := by unfold plcR; rw [h]; rfl
theorem plcR_no2 {L : List (List T3)} {l : List T3} (h : (normR l).2 = false) : plcR L l = (0, false) := by unfold plcR; rw [h, Bool.and_false]; rfl
theorem plcR_yes {L : List (List T3)} {l : List T3} (h : ctB L = true) (h2 : (normR l).2 = true) : plcR L l = (max 0 (plcN L l), decide (plcN L l ≥ 0)) := by unfold plcR; rw [h, h2]; rfl
theorem ctB_is {L : List (List T3)} (h : ctB L = true) : L.length ≤ 10 ∧ ∀ i, i < L.length → ctkB L i = true := by
  unfold ctB at h
  simp only [Bool.and_eq_true, decide_eq_true_eq] at h
  exact ⟨h.1, fun i hi => allN_iff.1 h.2 i hi⟩
theorem ctx_no {L : List (List T3)} (h : ctB L = false) : ctxR L = (⟨#[]⟩, false) := by unfold ctxR; rw [h]; rfl
theorem ctx_yes {L : List (List T3)} (h : ctB L = true) : ctxR L = (catK L L.length, true) := by unfold ctxR; rw [h]; rfl
theorem ctk_sml {L : List (List T3)} {i : Nat} (h : ctkB L i = true) : Sml (tsAt L i) ∧ (tsAt L i).length ≤ 12 := by
  obtain ⟨h1, h2⟩ := ctkB_eq h
  rw [← h2]; exact ⟨Sml.of_nf h1, nf_len h1⟩
theorem eq_ts {L : List (List T3)} {i : Nat} (h1 : okAt L i = true) (h : eqTL (nfAt L i) (tsAt L i) = true) : nfAt L i = tsAt L i ∧ Sml (tsAt L i) ∧ (tsAt L i).length ≤ 12 := by
  have h2 : nfAt L i = tsAt L i := by
    unfold eqTL at h
    simp only [Bool.and_eq_true, beq_iff_eq] at h
    obtain ⟨h1, h2⟩ := h
    apply List.ext_getElem h1
    intro j hj hj'
    have h3 := allN_iff.1 h2 j hj
    unfold eqT at h3
    simp only [Bool.and_eq_true, beq_iff_eq] at h3
    obtain ⟨⟨p1, p2⟩, p3⟩ := h3
    have q1 : tAt (nfAt L i) j = (nfAt L i)[j] := by unfold tAt; rw [List.getD_eq_getElem?_getD, List.getElem?_eq_getElem hj]; rfl
    have q2 : tAt (tsAt L i) j = (tsAt L i)[j] := by unfold tAt; rw [List.getD_eq_getElem?_getD, List.getElem?_eq_getElem hj']; rfl
    rw [q1, q2] at p1 p2 p3
    exact Prod.ext p1 (Prod.ext p2 p3)
  refine ⟨h2, ?_⟩
  rw [← h2]; exact ⟨Sml.of_nf h1, nf_len h1⟩
end Go.Proofs.YtpimjkhfookipaaDoor
