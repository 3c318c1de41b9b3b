/- Catalogues, plainly: texts tell lists of terms apart; lists put in order by their texts, each once. No conditions. -/
import Derived.Test.YtpimjkhfookipaaDoorPureTx
import Derived.Sort.Statements
namespace Go.Proofs.YtpimjkhfookipaaDoor
set_option linter.unusedSimpArgs false
set_option linter.unusedVariables false
open Go.Proofs

/-! ### Numerals -/
theorem dec_dig (u : Nat) : ∀ x ∈ Lib.decDigits u, 48 ≤ x.toNat ∧ x.toNat ≤ 57 := by
  have h1 : ∀ v, v < 10 → (UInt8.ofNat (48 + v)).toNat = 48 + v := fun v hv => by
    show (48 + v) % 256 = 48 + v
    omega
  induction u using Nat.strongRecOn with
  | _ u ih =>
    rw [Lib.decDigits]
    split
    · intro x hx
      rw [List.mem_singleton] at hx
      subst hx
      rw [h1 u (by omega)]; omega
    · intro x hx
      rw [List.mem_append, List.mem_singleton] at hx
      rcases hx with hx | rfl
      · exact ih (u / 10) (by omega) x hx
      · rw [h1 (u % 10) (by omega)]; omega
def valD (l : List UInt8) : Nat := l.foldl (fun a x => a * 10 + (x.toNat - 48)) 0
theorem valD_snoc (l : List UInt8) (x : UInt8) : valD (l ++ [x]) = valD l * 10 + (x.toNat - 48) := by simp [valD, List.foldl_append]
theorem valD_dec (u : Nat) : valD (Lib.decDigits u) = u := by
  have h1 : ∀ v, v < 10 → (UInt8.ofNat (48 + v)).toNat = 48 + v := fun v hv => by
    show (48 + v) % 256 = 48 + v
    omega
  induction u using Nat.strongRecOn with
  | _ u ih =>
    rw [Lib.decDigits]
    split
    · show 0 * 10 + ((UInt8.ofNat (48 + u)).toNat - 48) = u
      rw [h1 u (by omega)]; omega
    · rw [valD_snoc, ih (u / 10) (by omega), h1 (u % 10) (by omega)]; omega
theorem dec_inj {u v : Nat} (h : Lib.decDigits u = Lib.decDigits v) : u = v := by rw [← valD_dec u, h, valD_dec]
theorem itoa_inj {n m : Int} (h : Lib.itoa n = Lib.itoa m) : n = m := by
  have no : ∀ (u : Nat) (l : List UInt8), Lib.decDigits u ≠ 45 :: l := fun u l e => by
    have := dec_dig u 45 (by rw [e]; simp)
    have e45 : (45 : UInt8).toNat = 45 := rfl
    omega
  unfold Lib.itoa at h
  split at h <;> split at h
  · injection h with _ h
    have := dec_inj h
    omega
  · exact absurd h.symm (no _ _)
  · exact absurd h (no _ _)
  · have := dec_inj h
    omega
theorem itoa_dig (n : Int) : ∀ x ∈ Lib.itoa n, x ≠ 58 ∧ x ≠ 44 ∧ x ≠ 59 := by
  have h : ∀ x : UInt8, (x.toNat = 45 ∨ (48 ≤ x.toNat ∧ x.toNat ≤ 57)) → x ≠ 58 ∧ x ≠ 44 ∧ x ≠ 59 := fun x hx => by
    have e1 : (58 : UInt8).toNat = 58 := rfl
    have e2 : (44 : UInt8).toNat = 44 := rfl
    have e3 : (59 : UInt8).toNat = 59 := rfl
    refine ⟨fun e => ?_, fun e => ?_, fun e => ?_⟩ <;> subst e <;> omega
  intro x hx
  unfold Lib.itoa at hx
  split at hx
  · rw [List.mem_cons] at hx
    rcases hx with rfl | hx
    · exact h 45 (.inl rfl)
    · exact h x (.inr (dec_dig _ x hx))
  · exact h x (.inr (dec_dig _ x hx))
theorem split_sep {c : UInt8} : ∀ {a b x y : List UInt8}, (∀ u ∈ a, u ≠ c) → (∀ u ∈ b, u ≠ c) → a ++ c :: x = b ++ c :: y → a = b ∧ x = y
  | [], [], x, y, _, _, h => by
    have h : c :: x = c :: y := h
    injection h with _ h
    exact ⟨rfl, h⟩
  | [], v :: b, x, y, _, hb, h => by
    have h : c :: x = v :: (b ++ c :: y) := h
    injection h with h _
    exact absurd h.symm (hb v (by simp))
  | v :: a, [], x, y, ha, _, h => by
    have h : v :: (a ++ c :: x) = c :: y := h
    injection h with h _
    exact absurd h (ha v (by simp))
  | v :: a, w :: b, x, y, ha, hb, h => by
    have h : v :: (a ++ c :: x) = w :: (b ++ c :: y) := h
    injection h with h1 h2
    obtain ⟨e1, e2⟩ := split_sep (fun u hu => ha u (by simp [hu])) (fun u hu => hb u (by simp [hu])) h2
    exact ⟨by rw [h1, e1], e2⟩

/-! ### Texts -/
theorem ttx_bytes (t : T3) : bytesOf (ttx t) = Lib.itoa t.2.2 ++ 58 :: (Lib.itoa t.1 ++ 44 :: (Lib.itoa t.2.1 ++ [59])) := by
  unfold ttx
  simp only [bx_app]
  show Lib.itoa t.2.2 ++ [58] ++ Lib.itoa t.1 ++ [44] ++ Lib.itoa t.2.1 ++ [59] = _
  simp [List.append_assoc]
theorem ttx_inj {t u : T3} {r s : List UInt8} (h : bytesOf (ttx t) ++ r = bytesOf (ttx u) ++ s) : t = u ∧ r = s := by
  rw [ttx_bytes, ttx_bytes] at h
  simp only [List.append_assoc, List.cons_append, List.nil_append] at h
  obtain ⟨h1, h⟩ := split_sep (fun x hx => (itoa_dig _ x hx).1) (fun x hx => (itoa_dig _ x hx).1) h
  obtain ⟨h2, h⟩ := split_sep (fun x hx => (itoa_dig _ x hx).2.1) (fun x hx => (itoa_dig _ x hx).2.1) h
  obtain ⟨h3, h⟩ := split_sep (fun x hx => (itoa_dig _ x hx).2.2) (fun x hx => (itoa_dig _ x hx).2.2) h
  exact ⟨Prod.ext (itoa_inj h2) (Prod.ext (itoa_inj h3) (itoa_inj h1)), h⟩
def txL : List T3 → List UInt8
  | [] => []
  | t :: l => bytesOf (ttx t) ++ txL l
theorem txL_snoc (a : List T3) (t : T3) : txL (a ++ [t]) = txL a ++ bytesOf (ttx t) := by
  induction a with
  | nil => simp [txL]
  | cons x a ih => show bytesOf (ttx x) ++ txL (a ++ [t]) = _; rw [ih]; simp [txL, List.append_assoc]
theorem txK_txL (l : List T3) : ∀ k, k ≤ l.length → bytesOf (txK l k) = txL (l.take k)
  | 0, _ => rfl
  | k + 1, hk => by
    show bytesOf (txK l k ++ ttx (tAt l k)) = _
    rw [bx_app, txK_txL l k (by omega), ← txL_snoc]
    congr 1
    rw [List.take_add_one, List.getElem?_eq_getElem (by omega)]
    simp [tAt, List.getD, show k < l.length by omega]
theorem tx_txL (l : List T3) : bytesOf (tx l) = txL l := by
  unfold tx
  rw [txK_txL l _ (Nat.le_refl _), List.take_length]
theorem txL_inj : ∀ {l m : List T3}, txL l = txL m → l = m
  | [], [], _ => rfl
  | [], u :: m, h => by
    have h : [] = bytesOf (ttx u) ++ txL m := h
    rw [ttx_bytes] at h
    simp at h
  | t :: l, [], h => by
    have h : bytesOf (ttx t) ++ txL l = [] := h
    rw [ttx_bytes] at h
    simp at h
  | t :: l, u :: m, h => by
    obtain ⟨h1, h2⟩ := ttx_inj (t := t) (u := u) (r := txL l) (s := txL m) h
    rw [h1, txL_inj h2]
theorem tx_inj {l m : List T3} (h : tx l = tx m) : l = m := txL_inj (by rw [← tx_txL, ← tx_txL, h])

/-! ### The order of texts -/
theorem bl_irr : ∀ a : List UInt8, Op.bytesLess a a = false
  | [] => rfl
  | x :: a => by
    show (decide (x < x) || (x == x && Op.bytesLess a a)) = false
    rw [bl_irr a]; simp
theorem bl_trans : ∀ {a b c : List UInt8}, Op.bytesLess a b = true → Op.bytesLess b c = true → Op.bytesLess a c = true
  | [], [], _, h, _ => nomatch h
  | _ :: _, [], _, h, _ => nomatch h
  | _, _ :: _, [], _, h => nomatch h
  | [], _ :: _, _ :: _, _, _ => rfl
  | x :: a, y :: b, z :: c, h1, h2 => by
    have k1 : (decide (x < y) || (x == y && Op.bytesLess a b)) = true := h1
    have k2 : (decide (y < z) || (y == z && Op.bytesLess b c)) = true := h2
    clear h1 h2
    show (decide (x < z) || (x == z && Op.bytesLess a c)) = true
    simp only [Bool.or_eq_true, Bool.and_eq_true, decide_eq_true_eq, beq_iff_eq] at k1 k2 ⊢
    rcases k1 with k1 | ⟨rfl, k1⟩
    · rcases k2 with k2 | ⟨rfl, k2⟩
      · exact .inl (UInt8.lt_trans k1 k2)
      · exact .inl k1
    · rcases k2 with k2 | ⟨rfl, k2⟩
      · exact .inl k2
      · exact .inr ⟨rfl, bl_trans k1 k2⟩
theorem bl_tot : ∀ {a b : List UInt8}, Op.bytesLess a b = false → Op.bytesLess b a = false → a = b
  | [], [], _, _ => rfl
  | [], _ :: _, h, _ => by cases h
  | _ :: _, [], _, h => by cases h
  | x :: a, y :: b, h1, h2 => by
    have h1 : (decide (x < y) || (x == y && Op.bytesLess a b)) = false := h1
    have h2 : (decide (y < x) || (y == x && Op.bytesLess b a)) = false := h2
    simp only [Bool.or_eq_false_iff, Bool.and_eq_false_iff, decide_eq_false_iff_not, beq_eq_false_iff_ne] at h1 h2
    have e : x = y := by
      have n1 : ¬ x.toNat < y.toNat := h1.1
      have n2 : ¬ y.toNat < x.toNat := h2.1
      exact UInt8.toNat_inj.1 (by omega)
    subst e
    rw [bl_tot (h1.2.resolve_left fun h => h rfl) (h2.2.resolve_left fun h => h rfl)]
def ltX (a b : List T3) : Bool := ltB (tx a) (tx b)
theorem ltX_irr (a : List T3) : ltX a a = false := bl_irr _
theorem ltX_trans {a b c : List T3} (h1 : ltX a b = true) (h2 : ltX b c = true) : ltX a c = true := bl_trans h1 h2
theorem ltX_tot {a b : List T3} (h1 : ltX a b = false) (h2 : ltX b a = false) : a = b := tx_inj (bx_ext (bl_tot h1 h2))
theorem ltX_asym {a b : List T3} (h : ltX a b = true) : ltX b a = false := by
  cases e : ltX b a with
  | false => rfl
  | true => rw [← ltX_irr a, ltX_trans h e]
/-- In order, each once. -/
abbrev AscX (L : List (List T3)) : Prop := L.Pairwise fun a b => ltX a b = true
theorem asc_unique : ∀ {a b : List (List T3)}, AscX a → AscX b → (∀ t, t ∈ a ↔ t ∈ b) → a = b
  | [], [], _, _, _ => rfl
  | [], y :: b, _, _, h => absurd ((h y).2 (by simp)) (by simp)
  | x :: a, [], _, _, h => absurd ((h x).1 (by simp)) (by simp)
  | x :: a, y :: b, ha, hb, h => by
    have ha' := List.pairwise_cons.1 ha
    have hb' := List.pairwise_cons.1 hb
    have e : x = y := by
      have h1 : x ∈ y :: b := (h x).1 (by simp)
      have h2 : y ∈ x :: a := (h y).2 (by simp)
      rw [List.mem_cons] at h1 h2
      rcases h1 with h1 | h1
      · exact h1
      · rcases h2 with h2 | h2
        · exact h2.symm
        · have e1 := hb'.1 x h1
          have e2 := ha'.1 y h2
          rw [ltX_asym e1] at e2; cases e2
    subst e
    congr 1
    refine asc_unique ha'.2 hb'.2 fun t => ?_
    have ht := h t
    rw [List.mem_cons, List.mem_cons] at ht
    constructor
    · intro hm
      rcases ht.1 (.inr hm) with rfl | h
      · have := ha'.1 t hm; rw [ltX_irr] at this; cases this
      · exact h
    · intro hm
      rcases ht.2 (.inr hm) with rfl | h
      · have := hb'.1 t hm; rw [ltX_irr] at this; cases this
      · exact h

/-! ### One list more -/
/-- How many stand before a list. -/
def cntX (l : List T3) : List (List T3) → Nat
  | [] => 0
  | x :: r => if ltX x l then cntX l r + 1 else 0
theorem cntX_le (l : List T3) : ∀ L, cntX l L ≤ L.length
  | [] => Nat.le_refl _
  | x :: r => by
    unfold cntX
    split
    · have := cntX_le l r; simp; omega
    · simp
def putX (L : List (List T3)) (l : List T3) : List (List T3) :=
  if cntX l L < L.length ∧ tsAt L (cntX l L) = l then L else L.take (cntX l L) ++ l :: L.drop (cntX l L)
theorem cntX_at {l : List T3} : ∀ {L : List (List T3)} {k : Nat}, k ≤ L.length → (∀ j, j < k → ltX (tsAt L j) l = true) → (k < L.length → ltX (tsAt L k) l = false) → cntX l L = k
  | [], k, hk, _, _ => by simp at hk; subst hk; rfl
  | x :: r, 0, _, _, h => by
    have : ltX x l = false := h (by simp)
    unfold cntX; rw [this]; simp
  | x :: r, k + 1, hk, h, h2 => by
    have h0 : ltX x l = true := h 0 (by omega)
    unfold cntX
    rw [h0, if_pos rfl, cntX_at (L := r) (k := k) (by simpa using hk) (fun j hj => h (j + 1) (by omega)) (fun hlt => h2 (by simpa using hlt))]
theorem cntX_lt {l : List T3} : ∀ {L : List (List T3)} {j : Nat}, j < cntX l L → ltX (tsAt L j) l = true
  | [], j, h => by simp [cntX] at h
  | x :: r, j, h => by
    unfold cntX at h
    split at h
    · rename_i h1
      cases j with
      | zero => exact h1
      | succ j => exact cntX_lt (L := r) (j := j) (by omega)
    · omega
theorem cntX_no {l : List T3} : ∀ {L : List (List T3)}, cntX l L < L.length → ltX (tsAt L (cntX l L)) l = false
  | [], h => by simp at h
  | x :: r, h => by
    unfold cntX at h ⊢
    split
    · rename_i h1
      rw [if_pos h1] at h
      exact cntX_no (L := r) (by simpa using h)
    · rename_i h1
      simpa using h1
theorem asc_ts {L : List (List T3)} (h : AscX L) {i j : Nat} (hij : i < j) (hj : j < L.length) : ltX (tsAt L i) (tsAt L j) = true := by
  have := List.pairwise_iff_getElem.1 h i j (by omega) hj hij
  simpa [tsAt, List.getD, show i < L.length by omega, hj] using this
theorem asc_of_ts {L : List (List T3)} (h : ∀ i j, i < j → j < L.length → ltX (tsAt L i) (tsAt L j) = true) : AscX L := by
  refine List.pairwise_iff_getElem.2 fun i j hi hj hij => ?_
  have := h i j hij hj
  simpa [tsAt, List.getD, hi, hj] using this
theorem putX_mem {L : List (List T3)} {l t : List T3} : t ∈ putX L l ↔ t = l ∨ t ∈ L := by
  unfold putX
  split
  · rename_i h
    constructor
    · exact .inr
    · rintro (rfl | h2)
      · have : tsAt L (cntX t L) ∈ L := by simp only [tsAt, List.getD, List.getElem?_eq_getElem h.1, Option.getD_some]; exact List.getElem_mem _
        rw [h.2] at this; exact this
      · exact h2
  · rw [List.mem_append, List.mem_cons]
    have e : t ∈ L ↔ t ∈ L.take (cntX l L) ∨ t ∈ L.drop (cntX l L) := by rw [← List.mem_append, List.take_append_drop]
    rw [e]
    constructor
    · rintro (h | h | h)
      · exact .inr (.inl h)
      · exact .inl h
      · exact .inr (.inr h)
    · rintro (h | h | h)
      · exact .inr (.inl h)
      · exact .inl h
      · exact .inr (.inr h)
theorem mem_ts {L : List (List T3)} {t : List T3} (h : t ∈ L) : ∃ k, k < L.length ∧ t = tsAt L k := by
  obtain ⟨i, hi, rfl⟩ := List.getElem_of_mem h
  exact ⟨i, hi, by simp [tsAt, List.getD, hi]⟩
theorem ts_mem {L : List (List T3)} {k : Nat} (h : k < L.length) : tsAt L k ∈ L := by
  simp only [tsAt, List.getD, List.getElem?_eq_getElem h, Option.getD_some]; exact List.getElem_mem _
theorem putX_asc {L : List (List T3)} {l : List T3} (h : AscX L) : AscX (putX L l) := by
  unfold putX
  split
  · exact h
  · rename_i hn
    have hdrop : ∀ t ∈ L.drop (cntX l L), ltX l t = true := fun t ht => by
      obtain ⟨i, hi, rfl⟩ := List.getElem_of_mem ht
      rw [List.length_drop] at hi
      have hc : cntX l L < L.length := by omega
      have h1 := cntX_no hc
      have h2 : ltX l (tsAt L (cntX l L)) = true := by
        cases e : ltX l (tsAt L (cntX l L)) with
        | true => rfl
        | false => exact absurd ⟨hc, ltX_tot h1 e⟩ hn
      rw [List.getElem_drop]
      by_cases e : i = 0
      · subst e
        simpa [tsAt, List.getD, hc] using h2
      · have h3 := asc_ts h (i := cntX l L) (j := cntX l L + i) (by omega) (by omega)
        have := ltX_trans h2 h3
        simpa [tsAt, List.getD, show cntX l L + i < L.length by omega] using this
    have htake : ∀ t ∈ L.take (cntX l L), ltX t l = true := fun t ht => by
      obtain ⟨i, hi, rfl⟩ := List.getElem_of_mem ht
      rw [List.length_take] at hi
      have := cntX_lt (l := l) (L := L) (j := i) (by omega)
      simpa [tsAt, List.getD, show i < L.length by omega] using this
    refine List.pairwise_append.2 ⟨h.sublist (List.take_sublist _ _), List.pairwise_cons.2 ⟨hdrop, h.sublist (List.drop_sublist _ _)⟩, fun a ha b hb => ?_⟩
    rw [List.mem_cons] at hb
    rcases hb with rfl | hb
    · exact htake a ha
    · exact ltX_trans (htake a ha) (hdrop b hb)
theorem putX_len {L : List (List T3)} {l : List T3} : (putX L l).length ≤ L.length + 1 := by
  unfold putX
  split
  · omega
  · have := cntX_le l L
    simp; omega
/-- The first k lists of L put in, one after the other. -/
def catX (L : List (List T3)) : Nat → List (List T3)
  | 0 => []
  | k + 1 => putX (catX L k) (tsAt L k)
theorem catX_asc (L : List (List T3)) : ∀ k, AscX (catX L k)
  | 0 => List.Pairwise.nil
  | k + 1 => putX_asc (catX_asc L k)
theorem catX_len (L : List (List T3)) : ∀ k, (catX L k).length ≤ k
  | 0 => Nat.le_refl _
  | k + 1 => Nat.le_trans putX_len (by have := catX_len L k; omega)
theorem catX_mem (L : List (List T3)) {t : List T3} : ∀ k, k ≤ L.length → (t ∈ catX L k ↔ ∃ j, j < k ∧ t = tsAt L j)
  | 0, _ => by simp [catX]
  | k + 1, hk => by
    show t ∈ putX (catX L k) (tsAt L k) ↔ _
    rw [putX_mem, catX_mem L k (by omega)]
    constructor
    · rintro (h | ⟨j, hj, h⟩)
      · exact ⟨k, by omega, h⟩
      · exact ⟨j, by omega, h⟩
    · rintro ⟨j, hj, h⟩
      by_cases e : j = k
      · subst e; exact .inl h
      · exact .inr ⟨j, by omega, h⟩
theorem catX_iff (L : List (List T3)) {t : List T3} : t ∈ catX L L.length ↔ t ∈ L := by
  rw [catX_mem L _ (Nat.le_refl _)]
  exact ⟨fun ⟨j, hj, e⟩ => by rw [e]; exact ts_mem hj, fun h => mem_ts h⟩
/-- What is in order and has the same members is the catalogue. -/
theorem catX_eq {L M : List (List T3)} (h : AscX M) (hm : ∀ t, t ∈ M ↔ t ∈ L) : M = catX L L.length :=
  asc_unique h (catX_asc L _) fun t => by rw [hm, catX_iff]

/-! ### A list in order, without what comes again -/
/-- The first k of a list, without those that are as the one before. -/
def cmpX (M : List (List T3)) : Nat → List (List T3)
  | 0 => []
  | k + 1 => if k = 0 ∨ tsAt M (k - 1) ≠ tsAt M k then cmpX M k ++ [tsAt M k] else cmpX M k
theorem cmpX_len (M : List (List T3)) : ∀ k, (cmpX M k).length ≤ k
  | 0 => Nat.le_refl _
  | k + 1 => by
    have := cmpX_len M k
    unfold cmpX
    split
    · simp; omega
    · omega
theorem cmpX_mem (M : List (List T3)) {t : List T3} : ∀ k, t ∈ cmpX M k ↔ ∃ j, j < k ∧ t = tsAt M j
  | 0 => by simp [cmpX]
  | k + 1 => by
    have ih := cmpX_mem M (t := t) k
    unfold cmpX
    split
    · rw [List.mem_append, ih, List.mem_singleton]
      constructor
      · rintro (⟨j, hj, e⟩ | e)
        · exact ⟨j, by omega, e⟩
        · exact ⟨k, by omega, e⟩
      · rintro ⟨j, hj, e⟩
        by_cases h : j = k
        · subst h; exact .inr e
        · exact .inl ⟨j, by omega, e⟩
    · rename_i hn
      have hk0 : k ≠ 0 := fun e => hn (.inl e)
      have hsame : tsAt M (k - 1) = tsAt M k := by
        by_cases e : tsAt M (k - 1) = tsAt M k
        · exact e
        · exact absurd (.inr e) hn
      rw [ih]
      constructor
      · rintro ⟨j, hj, e⟩
        exact ⟨j, by omega, e⟩
      · rintro ⟨j, hj, e⟩
        by_cases h : j = k
        · subst h; exact ⟨j - 1, by omega, by rw [e, hsame]⟩
        · exact ⟨j, by omega, e⟩
/-- In order, later ones not before earlier ones. -/
def SrtX (M : List (List T3)) : Prop := ∀ i j, i < j → j < M.length → ltX (tsAt M j) (tsAt M i) = false
theorem cmpX_asc {M : List (List T3)} (h : SrtX M) : ∀ k, k ≤ M.length → AscX (cmpX M k)
  | 0, _ => List.Pairwise.nil
  | k + 1, hk => by
    have ih := cmpX_asc h k (by omega)
    unfold cmpX
    split
    · rename_i hc
      refine List.pairwise_append.2 ⟨ih, List.pairwise_singleton _ _, fun a ha b hb => ?_⟩
      rw [List.mem_singleton] at hb
      subst hb
      obtain ⟨j, hj, rfl⟩ := (cmpX_mem M k).1 ha
      have hne : tsAt M (k - 1) ≠ tsAt M k := hc.resolve_left (by omega)
      have h1 := h (k - 1) k (by omega) (by omega)
      have h2 : ltX (tsAt M (k - 1)) (tsAt M k) = true := by
        cases e : ltX (tsAt M (k - 1)) (tsAt M k) with
        | true => rfl
        | false => exact absurd (ltX_tot e h1) hne
      by_cases e : j = k - 1
      · rw [e]; exact h2
      · have h3 := h j (k - 1) (by omega) (by omega)
        cases e3 : ltX (tsAt M j) (tsAt M (k - 1)) with
        | true => exact ltX_trans e3 h2
        | false => rw [ltX_tot e3 h3]; exact h2
    · exact ih
theorem cmpX_cat {M L : List (List T3)} (h : SrtX M) (hm : ∀ t, t ∈ M ↔ t ∈ L) : cmpX M M.length = catX L L.length :=
  catX_eq (cmpX_asc h _ (Nat.le_refl _)) fun t => by
    rw [cmpX_mem, ← hm]
    exact ⟨fun ⟨j, hj, e⟩ => by rw [e]; exact ts_mem hj, fun h => mem_ts h⟩

/-! ### The results -/
def fmL (L : List (List T3)) : List (List T3) := (List.range L.length).map (nfAt L)
theorem fmL_len (L : List (List T3)) : (fmL L).length = L.length := by simp [fmL]
theorem fmL_at {L : List (List T3)} {i : Nat} (h : i < L.length) : tsAt (fmL L) i = nfAt L i := by simp [tsAt, fmL, List.getD, h]
/-- The catalogue of a list of forms, if it is not too long. -/
def ctdR (L : List (List T3)) : List (List T3) × Bool := if (catX L L.length).length ≤ 10 then (catX L L.length, true) else ([], false)
def coR (L : List (List T3)) : List (List T3) × Bool := if nfB L then (catX (fmL L) (fmL L).length, true) else ([], false)
def mcR (A B : List (List T3)) : List (List T3) × Bool := if ctB A && ctB B then ctdR (A ++ B) else ([], false)
end Go.Proofs.YtpimjkhfookipaaDoor
