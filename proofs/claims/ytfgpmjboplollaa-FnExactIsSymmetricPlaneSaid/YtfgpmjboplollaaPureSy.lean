/- Swapped plane polynomials, plainly: the sorted list of distinct places is one. No conditions. -/
import Derived.Test.YtfgpmjboplollaaFnSo
namespace Go.Proofs.Ytfgpmjboplollaa
set_option linter.unusedSimpArgs false
set_option linter.unusedVariables false

def swT (t : T3) : T3 := (t.2.1, t.1, t.2.2)
def swp (l : List T3) : List T3 := l.map swT
@[simp] theorem swp_len (l : List T3) : (swp l).length = l.length := by simp [swp]
theorem swp_get {l : List T3} {k : Nat} (h : k < l.length) : tAt (swp l) k = swT (tAt l k) := by simp [tAt, swp, List.getD, h]
theorem swT_term {t : T3} (h : termB t = true) : termB (swT t) = true := by
  have := termB_iff.1 h
  exact termB_iff.2 (by unfold swT; simp only; omega)
/-- Terms of places apart. -/
def KD (a b : T3) : Prop := a.1 ≠ b.1 ∨ a.2.1 ≠ b.2.1
theorem KD.symm {a b : T3} (h : KD a b) : KD b a := by unfold KD at *; omega
theorem getD_get {l : List T3} {k : Nat} (h : k < l.length) : tAt l k = l[k] := by simp [tAt, List.getD, h]
theorem plane_befS {l : List T3} (h : planeB l = true) : l.Pairwise fun a b => befB a b = true := by
  have hstep : ∀ k, k + 1 < l.length → befB (tAt l k) (tAt l (k + 1)) = true := fun k hk => by
    unfold planeB at h
    simp only [Bool.and_eq_true] at h
    have := allN_iff.1 h.2 (k + 1) hk
    unfold plkB at this
    simp only [Bool.and_eq_true, Bool.or_eq_true, decide_eq_true_eq] at this
    rcases this.2 with h0 | h0
    · omega
    · simpa using h0
  have hall : ∀ d i, i + d + 1 < l.length → befB (tAt l i) (tAt l (i + d + 1)) = true := by
    intro d
    induction d with
    | zero => intro i hi; exact hstep i (by omega)
    | succ d ih =>
      intro i hi
      have h1 := befB_iff.1 (ih i (by omega))
      have h2 := befB_iff.1 (hstep (i + d + 1) (by omega))
      refine befB_iff.2 ?_
      rw [show i + (d + 1) + 1 = i + d + 1 + 1 by omega]
      omega
  rw [List.pairwise_iff_getElem]
  intro i j hi hj hij
  have := hall (j - i - 1) i (by omega)
  rw [show i + (j - i - 1) + 1 = j by omega, getD_get hi, getD_get hj] at this
  exact this
theorem swp_kd {l : List T3} (h : planeB l = true) : (swp l).Pairwise KD := by
  unfold swp
  rw [List.pairwise_map]
  refine (plane_befS h).imp fun {a b} hab => ?_
  have := befB_iff.1 hab
  unfold KD swT; simp only; omega
theorem srt_perm (l : List T3) : (srt l).Perm l := List.mergeSort_perm _ _
theorem srt_kd {l : List T3} (h : l.Pairwise KD) : (srt l).Pairwise KD := ((srt_perm l).pairwise_iff fun {x y} h => KD.symm h).2 h
theorem srt_lt {l : List T3} : (srt l).Pairwise fun a b => (!lt0 b a) = true :=
  List.pairwise_mergeSort (fun a b c h1 h2 => by
    simp only [Bool.not_eq_true', lt0_no] at *; omega) (fun a b => by
    have : lt0 b a = false ∨ lt0 a b = false := by simp only [lt0_no]; omega
    rcases this with h | h <;> simp [h]) l
theorem srt_bef {l : List T3} (h : l.Pairwise KD) : (srt l).Pairwise fun a b => befB a b = true := by
  refine ((srt_lt (l := l)).and (srt_kd h)).imp fun {a b} hab => ?_
  obtain ⟨h1, h2⟩ := hab
  simp only [Bool.not_eq_true', lt0_no] at h1
  unfold KD at h2
  exact befB_iff.2 (by omega)
theorem srt_adj {l : List T3} (h : l.Pairwise KD) {k : Nat} (h0 : 1 ≤ k) (hk : k < l.length) : KD (tAt (srt l) k) (tAt (srt l) (k - 1)) := by
  have h1 := List.pairwise_iff_getElem.1 (srt_kd h) (k - 1) k (by simp; omega) (by simpa using hk) (by omega)
  rw [getD_get (by simpa using hk), getD_get (by simp; omega)]
  exact h1.symm
theorem srt_mem {l : List T3} {k : Nat} (hk : k < l.length) : tAt (srt l) k ∈ l := by
  rw [getD_get (by simpa using hk)]
  exact (srt_perm l).mem_iff.1 (List.getElem_mem _)

/-- Two lists in strict order with the same members are one. -/
theorem bef_unique : ∀ {a b : List T3}, a.Pairwise (fun x y => befB x y = true) → b.Pairwise (fun x y => befB x y = true) → (∀ t, t ∈ a ↔ t ∈ b) → a = b
  | [], [], _, _, _ => rfl
  | [], y :: b, _, _, h => by have := (h y).2 (by simp); simp at this
  | x :: a, [], _, _, h => by have := (h x).1 (by simp); simp at this
  | x :: a, y :: b, ha, hb, h => by
    rw [List.pairwise_cons] at ha hb
    have irr : ∀ {u v : T3}, befB u v = true → befB v u = true → False := fun h1 h2 => by
      have := befB_iff.1 h1; have := befB_iff.1 h2; omega
    have irr1 : ∀ {u : T3}, befB u u = true → False := fun h1 => irr h1 h1
    have exy : x = y := by
      rcases List.mem_cons.1 ((h x).1 (by simp)) with e | e
      · exact e
      · rcases List.mem_cons.1 ((h y).2 (by simp)) with e2 | e2
        · exact e2.symm
        · exact (irr (ha.1 y e2) (hb.1 x e)).elim
    subst exy
    rw [bef_unique ha.2 hb.2 fun t => ?_]
    constructor
    · intro ht
      rcases List.mem_cons.1 ((h t).1 (by simp [ht])) with e | e
      · subst e; exact (irr1 (ha.1 t ht)).elim
      · exact e
    · intro ht
      rcases List.mem_cons.1 ((h t).2 (by simp [ht])) with e | e
      · subst e; exact (irr1 (hb.1 t ht)).elim
      · exact e

/-- How many terms at the head stand before a term. -/
def cntB (t : T3) : List T3 → Nat
  | [] => 0
  | x :: l => if befB x t = true then cntB t l + 1 else 0
/-- A term put in its place. -/
def insT (l : List T3) (t : T3) : List T3 := l.take (cntB t l) ++ (t :: l.drop (cntB t l))
@[simp] theorem insT_len (l : List T3) (t : T3) : (insT l t).length = l.length + 1 := by simp [insT]; omega
theorem cntB_le (t : T3) : ∀ l, cntB t l ≤ l.length
  | [] => Nat.zero_le _
  | x :: l => by have := cntB_le t l; unfold cntB; split <;> simp <;> omega
theorem cntB_bef (t : T3) : ∀ (l : List T3) (k : Nat), k < cntB t l → befB (tAt l k) t = true
  | [], k, h => by simp [cntB] at h
  | x :: l, 0, h => by
    unfold cntB at h
    split at h
    · rename_i e; exact e
    · simp at h
  | x :: l, k + 1, h => by
    unfold cntB at h
    split at h
    · exact cntB_bef t l k (by omega)
    · simp at h
theorem cntB_no (t : T3) : ∀ (l : List T3), cntB t l < l.length → befB (tAt l (cntB t l)) t = false
  | [], h => by simp at h
  | x :: l, h => by
    unfold cntB at h ⊢
    by_cases e : befB x t = true
    · rw [if_pos e] at h ⊢
      exact cntB_no t l (by simpa using h)
    · rw [if_neg e] at h ⊢
      simpa using e
theorem cntB_at {t : T3} {l : List T3} {k : Nat} (hk : k ≤ l.length) (h : ∀ j, j < k → befB (tAt l j) t = true) (h2 : k < l.length → befB (tAt l k) t = false) : cntB t l = k := by
  rcases Nat.lt_trichotomy (cntB t l) k with h3 | h3 | h3
  · have := cntB_no t l (by omega); rw [h _ h3] at this; cases this
  · exact h3
  · have h4 := cntB_le t l
    have := cntB_bef t l k h3; rw [h2 (by omega)] at this; cases this
theorem insT_mem {l : List T3} {t u : T3} : u ∈ insT l t ↔ u = t ∨ u ∈ l := by
  unfold insT
  rw [List.mem_append, List.mem_cons]
  have : u ∈ l ↔ u ∈ l.take (cntB t l) ∨ u ∈ l.drop (cntB t l) := by
    rw [← List.mem_append, List.take_append_drop]
  rw [this]
  constructor
  · rintro (h | h | h) <;> simp [h]
  · rintro (h | h | h) <;> simp [h]
theorem insT_bef {l : List T3} {t : T3} (h : l.Pairwise fun a b => befB a b = true) (hk : ∀ u ∈ l, KD u t) : (insT l t).Pairwise fun a b => befB a b = true := by
  have hl := cntB_le t l
  unfold insT
  rw [List.pairwise_append]
  refine ⟨h.sublist (List.take_sublist _ _), ?_, fun a ha b hb => ?_⟩
  · rw [List.pairwise_cons]
    refine ⟨fun b hb => ?_, h.sublist (List.drop_sublist _ _)⟩
    obtain ⟨i, hi, rfl⟩ := List.getElem_of_mem hb
    rw [List.length_drop] at hi
    rw [List.getElem_drop]
    have h0 := cntB_no t l (by omega)
    rw [getD_get (by omega)] at h0
    have hkd := hk l[cntB t l] (List.getElem_mem _)
    have h1 : befB t l[cntB t l] = true := by
      have : ¬ befB l[cntB t l] t = true := by rw [h0]; simp
      rw [befB_iff] at this ⊢
      unfold KD at hkd
      omega
    rcases Nat.eq_zero_or_pos i with e | e
    · subst e; exact h1
    · have h2 := List.pairwise_iff_getElem.1 h (cntB t l) (cntB t l + i) (by omega) (by omega) (by omega)
      rw [befB_iff] at *; omega
  · obtain ⟨i, hi, rfl⟩ := List.getElem_of_mem ha
    rw [List.length_take] at hi
    rw [List.getElem_take]
    have h1 := cntB_bef t l i (by omega)
    rw [getD_get (by omega)] at h1
    rcases List.mem_cons.1 hb with rfl | hb
    · exact h1
    · obtain ⟨j, hj, rfl⟩ := List.getElem_of_mem hb
      rw [List.length_drop] at hj
      rw [List.getElem_drop]
      exact List.pairwise_iff_getElem.1 h i (cntB t l + j) (by omega) (by omega) (by omega)
/-- The first k terms, put in one after the other. -/
def insK (l : List T3) : Nat → List T3
  | 0 => []
  | k + 1 => insT (insK l k) (tAt l k)
@[simp] theorem insK_len (l : List T3) : ∀ k, (insK l k).length = k
  | 0 => rfl
  | k + 1 => by unfold insK; rw [insT_len, insK_len l k]
theorem insK_mem {l : List T3} {u : T3} : ∀ k, k ≤ l.length → (u ∈ insK l k ↔ u ∈ l.take k)
  | 0, _ => by simp [insK]
  | k + 1, hk => by
    unfold insK
    rw [insT_mem, insK_mem k (by omega), List.take_succ_eq_append_getElem (by omega), List.mem_append, List.mem_singleton, getD_get (by omega)]
    exact Or.comm
theorem insK_kd {l : List T3} (h : l.Pairwise KD) {k : Nat} (hk : k < l.length) : ∀ u ∈ insK l k, KD u (tAt l k) := fun u hu => by
  rw [insK_mem k (by omega)] at hu
  obtain ⟨i, hi, rfl⟩ := List.getElem_of_mem hu
  rw [List.length_take] at hi
  rw [List.getElem_take, getD_get hk]
  exact List.pairwise_iff_getElem.1 h i k (by omega) hk (by omega)
theorem insK_bef {l : List T3} (h : l.Pairwise KD) : ∀ k, k ≤ l.length → (insK l k).Pairwise fun a b => befB a b = true
  | 0, _ => by simp [insK]
  | k + 1, hk => insT_bef (insK_bef h k (by omega)) (insK_kd h (by omega))
theorem insK_srt {l : List T3} (h : l.Pairwise KD) : insK l l.length = srt l :=
  bef_unique (insK_bef h _ (Nat.le_refl _)) (srt_bef h) fun t => by
    rw [insK_mem _ (Nat.le_refl _), List.take_length, (srt_perm l).mem_iff]
end Go.Proofs.Ytfgpmjboplollaa
