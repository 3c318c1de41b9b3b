/- Plain functions on texts of pictures, and laws on them. No conditions. -/
import Derived.Test.YtfgpmjboplollaaDoorPurePic
import Derived.Lib.Join
import Derived.Lib.Bytealg
namespace Go.Proofs.YtfgpmjboplollaaDoor
set_option linter.unusedSimpArgs false
set_option linter.unusedVariables false
open Go.Proofs

theorem bytes_app (a b : ByteArray) : bytesOf (a ++ b) = bytesOf a ++ bytesOf b := by simp [bytesOf]
theorem ba_ext {a b : ByteArray} (h : bytesOf a = bytesOf b) : a = b := by
  apply ByteArray.ext
  exact Array.toList_inj.1 h
def joinB (l : List ByteArray) (sep : ByteArray) : ByteArray := ⟨(Lib.join (l.map (·.data.toList)) sep.data.toList).toArray⟩
theorem joinB_bytes (l : List ByteArray) (sep : ByteArray) : bytesOf (joinB l sep) = Lib.join (l.map bytesOf) (bytesOf sep) := rfl

/-- The first k rows, each ended by a newline. -/
def txtK (l : List ByteArray) : Nat → ByteArray
  | 0 => ⟨#[]⟩
  | k + 1 => txtK l k ++ (stAt l k ++ ⟨#[10]⟩)
def txtL (l : List (List UInt8)) : List UInt8 := (l.map (· ++ [10])).flatten
theorem txtL_join : ∀ (x : List UInt8) (r : List (List UInt8)), Lib.join (x :: r) [10] ++ [10] = txtL (x :: r) := by
  intro x r
  rw [Lib.join_cons]
  induction r generalizing x with
  | nil => simp [Lib.joinTail, txtL]
  | cons y r ih =>
    have h := ih y
    simp only [Lib.joinTail, txtL, List.map_cons, List.flatten_cons, List.append_assoc] at h ⊢
    rw [h]
theorem txtK_bytes (l : List ByteArray) (k : Nat) (hk : k ≤ l.length) : bytesOf (txtK l k) = txtL ((l.take k).map bytesOf) := by
  induction k with
  | zero => rfl
  | succ k ih =>
    have h := ih (by omega)
    have hg : stAt l k = l[k] := by simp [stAt, List.getD, show k < l.length by omega]
    rw [txtK, bytes_app, bytes_app, h, hg, List.take_succ_eq_append_getElem (by omega)]
    unfold txtL
    rw [List.map_append, List.map_append, List.flatten_append]
    simp only [List.map_cons, List.map_nil, List.flatten_cons, List.flatten_nil, List.append_nil]; rfl
theorem txt_join {l : List ByteArray} (h : 0 < l.length) : joinB l ⟨#[10]⟩ ++ ⟨#[10]⟩ = txtK l l.length := by
  apply ba_ext
  rw [bytes_app, joinB_bytes, txtK_bytes l _ (Nat.le_refl _), List.take_length]
  match l, h with
  | x :: r, _ => exact txtL_join (bytesOf x) (r.map bytesOf)

/-- How many of the first j bytes are c. -/
def cntJ (b : ByteArray) (c : Int) : Nat → Nat
  | 0 => 0
  | j + 1 => cntJ b c j + if byteI b j = c then 1 else 0
def cntP (l : List ByteArray) (c : Int) : Nat → Nat
  | 0 => 0
  | k + 1 => cntP l c k + cntJ (stAt l k) c (lenB (stAt l k))
theorem cntJ_count (b : ByteArray) (c : UInt8) (j : Nat) (hj : j ≤ lenB b) : cntJ b c.toNat j = ((bytesOf b).take j).count c := by
  induction j with
  | zero => simp [cntJ]
  | succ j ih =>
    have hj' : j < (bytesOf b).length := by unfold lenB at hj; omega
    rw [cntJ, ih (by omega), List.take_succ_eq_append_getElem hj', List.count_append]
    congr 1
    have hb : byteI b j = (((bytesOf b)[j]).toNat : Int) := by unfold byteI; simp [List.getD, hj']
    rw [hb, List.count_singleton]
    by_cases e : (bytesOf b)[j] = c
    · rw [e]; simp
    · have : ¬ (((bytesOf b)[j]).toNat : Int) = (c.toNat : Int) := by
        intro h; apply e; apply UInt8.toNat_inj.1; omega
      rw [if_neg this, if_neg (by simpa using e)]
theorem cntJ_le (b : ByteArray) (c : Int) (j : Nat) : cntJ b c j ≤ j := by
  induction j with
  | zero => simp [cntJ]
  | succ j ih => rw [cntJ]; split <;> omega
theorem cntP_le (l : List ByteArray) (c : Int) (k : Nat) : cntP l c k ≤ sumB l k := by
  induction k with
  | zero => simp [cntP, sumB]
  | succ k ih => rw [cntP, sumB]; have := cntJ_le (stAt l k) c (lenB (stAt l k)); omega
theorem cntP_count (l : List ByteArray) (c : UInt8) (k : Nat) (hk : k ≤ l.length) : cntP l c.toNat k = (((l.take k).map bytesOf).flatten).count c := by
  induction k with
  | zero => simp [cntP]
  | succ k ih =>
    have hg : stAt l k = l[k] := by simp [stAt, List.getD, show k < l.length by omega]
    rw [cntP, ih (by omega), List.take_succ_eq_append_getElem (by omega), cntJ_count _ _ _ (Nat.le_refl _), hg]
    have e : (bytesOf l[k]).take (lenB l[k]) = bytesOf l[k] := List.take_length
    rw [e, List.map_append, List.flatten_append, List.count_append]
    simp only [List.map_cons, List.map_nil, List.flatten_cons, List.flatten_nil, List.append_nil]
theorem join_none (x : List (List UInt8)) : Lib.join x [] = x.flatten := by
  match x with
  | [] => rfl
  | x :: r => rw [Lib.join_cons]; simp [Lib.joinTail]
theorem cntP_join (l : List ByteArray) (c : UInt8) : Lib.countByte (joinB l ⟨#[]⟩).data.toList c = cntP l c.toNat l.length := by
  rw [cntP_count l c _ (Nat.le_refl _), List.take_length]
  show (bytesOf (joinB l ⟨#[]⟩)).count c = _
  rw [joinB_bytes]
  show (Lib.join (l.map bytesOf) []).count c = _
  rw [join_none]
theorem one_byte {b : ByteArray} (h : lenB b = 1) : ∃ c : UInt8, b = ⟨#[c]⟩ ∧ byteI b 0 = c.toNat := by
  unfold lenB at h
  match e : bytesOf b, h with
  | [c], _ => exact ⟨c, ba_ext e, by unfold byteI; rw [e]; rfl⟩

/-- The length of all rows with one more byte each. -/
theorem flatten_len (l : List ByteArray) : ∀ k, k ≤ l.length → (((l.take k).map bytesOf).flatten).length = sumB l k
  | 0, _ => by simp [sumB]
  | k + 1, hk => by
    have hg : stAt l k = l[k] := by simp [stAt, List.getD, show k < l.length by omega]
    rw [List.take_succ_eq_append_getElem (by omega), sumB, ← flatten_len l k (by omega), hg, List.map_append, List.flatten_append, List.length_append]
    simp only [List.map_cons, List.map_nil, List.flatten_cons, List.flatten_nil, List.append_nil]; rfl
theorem join_none_len (l : List ByteArray) : (Lib.join (l.map (·.data.toList)) []).length = sumB l l.length := by
  rw [join_none, ← flatten_len l _ (Nat.le_refl _), List.take_length]; rfl
theorem txtK_size (l : List ByteArray) : ∀ k, (txtK l k).size = sumB l k + k
  | 0 => rfl
  | k + 1 => by rw [txtK]; simp only [ByteArray.size_append]; rw [txtK_size l k, sumB, lenB_size]; show _ + (_ + 1) = _; omega
theorem join_nl_len {l : List ByteArray} (h : 0 < l.length) : (Lib.join (l.map (·.data.toList)) [10]).length + 1 = sumB l l.length + l.length := by
  have e := congrArg ByteArray.size (txt_join h)
  rw [txtK_size] at e
  simp only [ByteArray.size_append] at e
  rw [← e]
  rfl

def ptR (l : List ByteArray) : ByteArray × Bool := if picB l then (txtK l l.length, true) else (⟨#[]⟩, false)
theorem ptR_no {l : List ByteArray} (h : picB l = false) : ptR l = (⟨#[]⟩, false) := by unfold ptR; rw [h]; rfl
theorem ptR_yes {l : List ByteArray} (h : picB l = true) : ptR l = (txtK l l.length, true) := by unfold ptR; rw [h]; rfl
theorem picB_sum {l : List ByteArray} (h : picB l = true) : ∀ k, k ≤ l.length → sumB l k ≤ 16 * k
  | 0, _ => by simp [sumB]
  | k + 1, hk => by
    have h1 := picB_sum h k (by omega)
    obtain ⟨h2, h3, h4⟩ := picB_parts h
    have := h4 k (by omega)
    rw [sumB]; omega

def mrkB (b : ByteArray) : Bool := decide (lenB b = 1) && ltrI (byteI b 0)
def clR (l : List ByteArray) (b : ByteArray) : Int × Bool := if picB l && mrkB b then (((cntP l (byteI b 0) l.length : Nat) : Int), true) else (0, false)
theorem clR_no1 {l : List ByteArray} {b : ByteArray} (h : picB l = false) : clR l b = (0, false) := by unfold clR; rw [h]; rfl
theorem clR_no2 {l : List ByteArray} {b : ByteArray} (h : mrkB b = false) : clR l b = (0, false) := by unfold clR; rw [h, Bool.and_false]; rfl
theorem clR_yes {l : List ByteArray} {b : ByteArray} (h : picB l = true) (h2 : mrkB b = true) : clR l b = (((cntP l (byteI b 0) l.length : Nat) : Int), true) := by unfold clR; rw [h, h2]; rfl
theorem mrkB_len {b : ByteArray} (h : ¬ (lenB b : Int) = 1) : mrkB b = false := by unfold mrkB; rw [decide_eq_false (by omega)]; rfl
theorem mrkB_is {b : ByteArray} (h : (lenB b : Int) = 1) : mrkB b = ltrI (byteI b 0) := by unfold mrkB; rw [decide_eq_true (by omega)]; rfl
theorem picB_one {b : ByteArray} (h : lenB b = 1) : picB [b] = ltrI (byteI b 0) := by
  have e0 : stAt [b] 0 = b := rfl
  have e1 : (inB (([b].length : Nat) : Int) 1 16 && inB (lenB (stAt [b] 0)) 1 16 && allN [b].length fun i => rowB (lenB (stAt [b] 0)) (stAt [b] i)) = rowB 1 b := by
    rw [e0, h]
    simp [allN, inB]
  have e2 : rowB 1 b = ltrI (byteI b 0) := by
    unfold rowB letsB
    rw [h]
    simp [allN]
  unfold picB
  rw [e1, e2]

end Go.Proofs.YtfgpmjboplollaaDoor
