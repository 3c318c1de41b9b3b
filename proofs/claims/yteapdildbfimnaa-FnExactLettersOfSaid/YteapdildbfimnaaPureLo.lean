/- The letters of a picture, each once, in order: plain facts. No conditions. -/
import Derived.Test.YteapdildbfimnaaFnSrtD
import Derived.Test.YteapdildbfimnaaPureMx
namespace Go.Proofs.Yteapdildbfimnaa
open Go.RowKit Go.Proofs
set_option linter.unusedSimpArgs false
set_option linter.unusedVariables false

theorem strict_ext : ∀ (xs ys : List Int), xs.Pairwise (· < ·) → ys.Pairwise (· < ·) → (∀ c, c ∈ xs ↔ c ∈ ys) → xs = ys
  | [], [], _, _, _ => rfl
  | [], y :: ys, _, _, h => absurd ((h y).2 (List.mem_cons_self ..)) (by simp)
  | x :: xs, [], _, _, h => absurd ((h x).1 (List.mem_cons_self ..)) (by simp)
  | x :: xs, y :: ys, hx, hy, h => by
    obtain ⟨hx1, hx2⟩ := List.pairwise_cons.1 hx
    obtain ⟨hy1, hy2⟩ := List.pairwise_cons.1 hy
    have e : x = y := by
      have h1 := (h x).1 (List.mem_cons_self ..)
      have h2 := (h y).2 (List.mem_cons_self ..)
      rcases List.mem_cons.1 h1 with h1 | h1
      · exact h1
      · rcases List.mem_cons.1 h2 with h2 | h2
        · exact h2.symm
        · have := hx1 y h2; have := hy1 x h1; omega
    subst e
    congr 1
    refine strict_ext xs ys hx2 hy2 fun c => ⟨fun hc => ?_, fun hc => ?_⟩
    · rcases List.mem_cons.1 ((h c).1 (List.mem_cons_of_mem _ hc)) with h1 | h1
      · have := hx1 c hc; omega
      · exact h1
    · rcases List.mem_cons.1 ((h c).2 (List.mem_cons_of_mem _ hc)) with h1 | h1
      · have := hy1 c hc; omega
      · exact h1

theorem kV_mem (d : Nat → Int) (c : Int) : ∀ m, c ∈ kV d m ↔ ∃ i, i < m ∧ d i = c
  | 0 => by simp [kV]
  | m + 1 => by
    have ih := kV_mem d c m
    unfold kV
    by_cases hk : kpB d m = true
    · rw [if_pos hk, List.mem_append, List.mem_singleton, ih]
      constructor
      · rintro (⟨i, h1, h2⟩ | rfl)
        · exact ⟨i, by omega, h2⟩
        · exact ⟨m, by omega, rfl⟩
      · rintro ⟨i, h1, h2⟩
        by_cases e : i = m
        · subst e; exact .inr h2.symm
        · exact .inl ⟨i, by omega, h2⟩
    · rw [if_neg hk, ih]
      have hk2 : ¬ (m = 0 ∨ d (m - 1) ≠ d m) := fun h => hk (decide_eq_true h)
      constructor
      · rintro ⟨i, h1, h2⟩; exact ⟨i, by omega, h2⟩
      · rintro ⟨i, h1, h2⟩
        by_cases e : i = m
        · subst e
          refine ⟨i - 1, by omega, ?_⟩
          rw [← h2]
          exact Classical.byContradiction fun h => hk2 (.inr h)
        · exact ⟨i, by omega, h2⟩
theorem kV_sorted {d : Nat → Int} {n : Nat} (hs : Srt 0 n d) : ∀ m, m ≤ n → (kV d m).Pairwise (· < ·)
  | 0, _ => List.Pairwise.nil
  | m + 1, hm => by
    have ih := kV_sorted hs m (by omega)
    unfold kV
    by_cases hk : kpB d m = true
    · rw [if_pos hk]
      refine List.pairwise_append.2 ⟨ih, List.pairwise_singleton _ _, fun x hx y hy => ?_⟩
      rw [List.mem_singleton] at hy
      subst hy
      obtain ⟨i, hi, rfl⟩ := (kV_mem d x m).1 hx
      have hk2 := of_decide_eq_true hk
      have hne : d (m - 1) ≠ d m := by
        rcases hk2 with h | h
        · omega
        · exact h
      have h1 := hs i (m - 1)
      have h2 := hs (m - 1) m (by omega) (by omega) (by omega)
      by_cases e : i = m - 1
      · subst e; omega
      · have := h1 (by omega) (by omega) (by omega); omega
    · rw [if_neg hk]; exact ih

def alpha : List Int := [42, 97, 98, 99, 100, 101, 102, 103, 104, 105, 106, 107, 108]
theorem alpha_mem {n : Int} : n ∈ alpha ↔ ltrI n = true := by
  unfold alpha ltrI
  simp only [List.mem_cons, List.not_mem_nil, or_false, Bool.or_eq_true, Bool.and_eq_true, decide_eq_true_eq, beq_iff_eq]
  omega
theorem alpha_sorted : alpha.Pairwise (· < ·) := by decide
/-- The letters that the picture has. -/
def ltL (l : List ByteArray) : List Int := alpha.filter fun c => decide (0 < cntP l c l.length)
theorem byteI_mem {b : ByteArray} {c : Int} : (∃ i, i < lenB b ∧ byteI b i = c) ↔ ∃ x ∈ bytesOf b, (x.toNat : Int) = c := by
  constructor
  · rintro ⟨i, hi, rfl⟩
    have hi : i < (bytesOf b).length := hi
    exact ⟨(bytesOf b)[i], List.getElem_mem hi, by unfold byteI; simp [List.getD, hi]⟩
  · rintro ⟨x, hx, rfl⟩
    obtain ⟨i, hi, rfl⟩ := List.mem_iff_getElem.1 hx
    exact ⟨i, hi, by unfold byteI; simp [List.getD, hi]⟩
theorem cntJ_pos {b : ByteArray} {c : Int} : ∀ j, 0 < cntJ b c j ↔ ∃ i, i < j ∧ byteI b i = c
  | 0 => by simp [cntJ]
  | j + 1 => by
    have ih := cntJ_pos (b := b) (c := c) j
    unfold cntJ
    by_cases h : byteI b j = c
    · rw [if_pos h]
      exact ⟨fun _ => ⟨j, by omega, h⟩, fun _ => by omega⟩
    · rw [if_neg h, Nat.add_zero, ih]
      constructor
      · rintro ⟨i, h1, h2⟩; exact ⟨i, by omega, h2⟩
      · rintro ⟨i, h1, h2⟩
        by_cases e : i = j
        · subst e; exact absurd h2 h
        · exact ⟨i, by omega, h2⟩
theorem cntP_pos {l : List ByteArray} {c : Int} : ∀ k, 0 < cntP l c k ↔ ∃ r, r < k ∧ ∃ i, i < lenB (stAt l r) ∧ byteI (stAt l r) i = c
  | 0 => by simp [cntP]
  | k + 1 => by
    have ih := cntP_pos (l := l) (c := c) k
    have hj := cntJ_pos (b := stAt l k) (c := c) (lenB (stAt l k))
    unfold cntP
    constructor
    · intro h
      by_cases h1 : 0 < cntP l c k
      · obtain ⟨r, hr, h2⟩ := ih.1 h1; exact ⟨r, by omega, h2⟩
      · obtain ⟨i, hi, h2⟩ := hj.1 (by omega); exact ⟨k, by omega, i, hi, h2⟩
    · rintro ⟨r, hr, h2⟩
      by_cases e : r = k
      · subst e; have := hj.2 h2; omega
      · have := ih.2 ⟨r, by omega, h2⟩; omega
theorem join_mem {l : List ByteArray} {x : UInt8} : x ∈ bytesOf (joinB l ⟨#[]⟩) ↔ ∃ r, r < l.length ∧ x ∈ bytesOf (stAt l r) := by
  have e : bytesOf (joinB l ⟨#[]⟩) = (l.map bytesOf).flatten := by
    rw [joinB_bytes]
    match l with
    | [] => rfl
    | b :: r =>
      rw [List.map_cons, Lib.join_cons]
      unfold Lib.joinTail
      have e0 : ∀ L : List (List UInt8), L.map (fun x => bytesOf ⟨#[]⟩ ++ x) = L := fun L => by
        have : (fun x : List UInt8 => bytesOf ⟨#[]⟩ ++ x) = id := by funext x; rfl
        rw [this, List.map_id]
      rw [e0]; rfl
  rw [e, List.mem_flatten]
  constructor
  · rintro ⟨y, hy, hx⟩
    obtain ⟨b, hb, rfl⟩ := List.mem_map.1 hy
    obtain ⟨r, hr, rfl⟩ := List.mem_iff_getElem.1 hb
    exact ⟨r, hr, by unfold stAt; simpa [List.getD, hr] using hx⟩
  · rintro ⟨r, hr, hx⟩
    refine ⟨_, List.mem_map.2 ⟨l[r], List.getElem_mem hr, rfl⟩, ?_⟩
    unfold stAt at hx
    simpa [List.getD, hr] using hx
theorem jb_pos {l : List ByteArray} {c : Int} : (∃ i, i < lenB (joinB l ⟨#[]⟩) ∧ byteI (joinB l ⟨#[]⟩) i = c) ↔ 0 < cntP l c l.length := by
  rw [byteI_mem, cntP_pos]
  constructor
  · rintro ⟨x, hx, h⟩
    obtain ⟨r, hr, h2⟩ := join_mem.1 hx
    exact ⟨r, hr, byteI_mem.2 ⟨x, h2, h⟩⟩
  · rintro ⟨r, hr, h⟩
    obtain ⟨x, hx, h2⟩ := byteI_mem.1 h
    exact ⟨x, join_mem.2 ⟨r, hr, hx⟩, h2⟩
theorem allN_all {n : Nat} {p : Nat → Bool} (h : allN n p = true) : ∀ j, j < n → p j = true := fun j hj => by
  cases hp : p j with
  | true => rfl
  | false => rw [allN_false hj hp] at h; cases h
theorem letters_all {l : List ByteArray} (h : picB l = true) {r i : Nat} (hr : r < l.length) (hi : i < lenB (stAt l r)) : ltrI (byteI (stAt l r) i) = true := by
  unfold picB at h
  simp only [Bool.and_eq_true] at h
  have h1 := allN_all h.2 r hr
  unfold rowB at h1
  simp only [Bool.and_eq_true] at h1
  exact allN_all h1.2 i hi
theorem cntF_pos {d : Nat → Int} {x : Int} : ∀ n, 0 < cntF d x n ↔ ∃ i, i < n ∧ d i = x
  | 0 => by simp [cntF]
  | n + 1 => by
    have ih := cntF_pos (d := d) (x := x) n
    unfold cntF
    by_cases h : d n = x
    · rw [if_pos h]
      exact ⟨fun _ => ⟨n, by omega, h⟩, fun _ => by omega⟩
    · rw [if_neg h, Nat.add_zero, ih]
      constructor
      · rintro ⟨i, h1, h2⟩; exact ⟨i, by omega, h2⟩
      · rintro ⟨i, h1, h2⟩
        by_cases e : i = n
        · subst e; exact absurd h2 h
        · exact ⟨i, by omega, h2⟩
/-- What is left of the sorted bytes: the letters. -/
theorem letters_eq {l : List ByteArray} (h : picB l = true) {d : Nat → Int} (hp : Pm 0 (lenB (joinB l ⟨#[]⟩)) (byteI (joinB l ⟨#[]⟩)) d) (hs : Srt 0 (lenB (joinB l ⟨#[]⟩)) d) : kV d (lenB (joinB l ⟨#[]⟩)) = ltL l := by
  refine strict_ext _ _ (kV_sorted hs _ (Nat.le_refl _)) (alpha_sorted.sublist (List.filter_sublist)) fun c => ?_
  have e : (∃ i, i < lenB (joinB l ⟨#[]⟩) ∧ d i = c) ↔ 0 < cntP l c l.length := by
    rw [← cntF_pos, hp.cnt c _ (Nat.le_refl _), cntF_pos, jb_pos]
  rw [kV_mem, e]
  unfold ltL
  rw [List.mem_filter, decide_eq_true_eq]
  constructor
  · intro hc
    refine ⟨?_, hc⟩
    obtain ⟨r, hr, i, hi, rfl⟩ := (cntP_pos _).1 hc
    exact alpha_mem.2 (letters_all h hr hi)
  · exact fun hc => hc.2
end Go.Proofs.Yteapdildbfimnaa
