/- Parts of a picture, plainly: places that are linked, their least places, and the search that marks all places of a part. No conditions. -/
import Derived.Test.YtpimjkhfookipaaPurePic
import Derived.Test.YtpimjkhfookipaaPureNd
namespace Go.Proofs.Ytpimjkhfookipaa
set_option linter.unusedSimpArgs false
set_option linter.unusedVariables false

/-- Linked by steps of A, either way. -/
inductive Cn (A : Nat → Nat → Prop) (i : Nat) : Nat → Prop where
  | refl : Cn A i i
  | fwd {j k : Nat} : Cn A i j → A j k → Cn A i k
  | bwd {j k : Nat} : Cn A i j → A k j → Cn A i k
theorem Cn.trans {A : Nat → Nat → Prop} {i j k : Nat} (h : Cn A i j) (h' : Cn A j k) : Cn A i k := by
  induction h' with
  | refl => exact h
  | fwd _ a ih => exact ih.fwd a
  | bwd _ a ih => exact ih.bwd a
theorem Cn.symm {A : Nat → Nat → Prop} {i j : Nat} (h : Cn A i j) : Cn A j i := by
  induction h with
  | refl => exact .refl
  | fwd _ a ih => exact (Cn.bwd .refl a).trans ih
  | bwd _ a ih => exact (Cn.fwd .refl a).trans ih
theorem least_ex {P : Nat → Prop} : ∀ n, P n → ∃ m, P m ∧ ∀ j, P j → m ≤ j := by
  intro n
  induction n using Nat.strongRecOn with
  | ind n ih =>
    intro h
    by_cases e : ∃ j, j < n ∧ P j
    · obtain ⟨j, h1, h2⟩ := e
      exact ih j h1 h2
    · exact ⟨n, h, fun j hj => Nat.not_lt.1 fun hlt => e ⟨j, hlt, hj⟩⟩

/-- L gives the least place that is linked. -/
structure IsLab (A : Nat → Nat → Prop) (L : Nat → Nat) : Prop where
  cn : ∀ i, Cn A i (L i)
  least : ∀ i j, Cn A i j → L i ≤ j
theorem lab_ex (A : Nat → Nat → Prop) : ∃ L, IsLab A L := by
  have h : ∀ i, ∃ m, Cn A i m ∧ ∀ j, Cn A i j → m ≤ j := fun i => least_ex i (Cn.refl (A := A))
  exact ⟨fun i => Classical.choose (h i), fun i => (Classical.choose_spec (h i)).1, fun i => (Classical.choose_spec (h i)).2⟩
section
variable {A : Nat → Nat → Prop} {L : Nat → Nat}
theorem IsLab.le (h : IsLab A L) (i : Nat) : L i ≤ i := h.least i i .refl
theorem IsLab.eq (h : IsLab A L) {i j : Nat} (hc : Cn A i j) : L i = L j := Nat.le_antisymm (h.least _ _ (hc.trans (h.cn j))) (h.least _ _ (hc.symm.trans (h.cn i)))
theorem IsLab.idem (h : IsLab A L) (i : Nat) : L (L i) = L i := (h.eq (h.cn i)).symm
theorem IsLab.of_eq (h : IsLab A L) {i j : Nat} (e : L i = L j) : Cn A i j := (h.cn i).trans (by rw [e]; exact (h.cn j).symm)
/-- What the reference ends with is the least places. -/
theorem IsLab.is (h : IsLab A L) {n : Nat} (hA : ∀ i k, A i k → i < n ∧ k < n) {out : Nat → Nat} (h1 : ∀ i, i < n → out i ≤ i ∧ Cn A i (out i)) (h2 : ∀ i k, A i k → out i = out k) : ∀ i, i < n → out i = L i := by
  have h3 : ∀ i j, Cn A i j → out i = out j := fun i j hc => by
    induction hc with
    | refl => rfl
    | fwd _ a ih => rw [ih, h2 _ _ a]
    | bwd _ a ih => rw [ih, h2 _ _ a]
  intro i hi
  have h4 := h3 i (L i) (h.cn i)
  have h5 := h.le i
  have h6 := (h1 (L i) (by omega)).1
  have h7 := h.least i _ (h1 i hi).2
  omega
end

theorem cntN_ext {f g : Nat → Bool} : ∀ {n}, (∀ q, q < n → f q = g q) → cntN f n = cntN g n
  | 0, _ => rfl
  | n + 1, h => by
    show cntN f n + _ = cntN g n + _
    rw [cntN_ext (n := n) fun q hq => h q (by omega), h n (by omega)]
theorem cntN_zero {f : Nat → Bool} : ∀ {n}, (∀ q, q < n → f q = false) → cntN f n = 0
  | 0, _ => rfl
  | n + 1, h => by
    show cntN f n + _ = 0
    rw [cntN_zero (n := n) fun q hq => h q (by omega), h n (by omega)]; rfl
theorem cntN_ins {f g : Nat → Bool} {i : Nat} : ∀ {n}, i < n → f i = false → g i = true → (∀ q, q < n → q ≠ i → g q = f q) → cntN g n = cntN f n + 1
  | 0, h, _, _, _ => by omega
  | n + 1, h, h1, h2, h3 => by
    show cntN g n + _ = cntN f n + _ + 1
    by_cases e : i = n
    · subst e
      rw [h1, h2, cntN_ext (n := i) fun q hq => h3 q (by omega) (by omega)]; rfl
    · rw [cntN_ins (n := n) (by omega) h1 h2 fun q hq => h3 q (by omega), h3 n (by omega) (fun h => e h.symm)]
      omega
theorem cntN_pos {f : Nat → Bool} {i : Nat} : ∀ {n}, i < n → f i = true → 0 < cntN f n
  | 0, h, _ => by omega
  | n + 1, h, h1 => by
    show 0 < cntN f n + _
    by_cases e : i = n
    · subst e; rw [h1]; exact Nat.succ_pos _
    · have := cntN_pos (n := n) (i := i) (by omega) h1; omega

/-! ### Places -/
abbrev Pt := Int × Int
def inP (H W : Nat) (q : Pt) : Prop := 0 ≤ q.1 ∧ q.1 < H ∧ 0 ≤ q.2 ∧ q.2 < W
def ixP (W : Nat) (q : Pt) : Nat := q.1.toNat * W + q.2.toNat
def ptP (W i : Nat) : Pt := (((i / W : Nat) : Int), ((i % W : Nat) : Int))
def nbP (q : Pt) : List Pt := [(q.1 + 0, q.2 + 1), (q.1 + 1, q.2 + 0), (q.1 + 0, q.2 + -1), (q.1 + -1, q.2 + 0)]
/-- A step of the reference's: to the right or down, to the same letter. -/
def Ad (H W : Nat) (g : Nat → Int) (i k : Nat) : Prop := i < H * W ∧ k < H * W ∧ ((k = i + 1 ∧ k % W ≠ 0) ∨ k = i + W) ∧ g i = g k

theorem dm_div {W x y : Nat} (h : y < W) : (x * W + y) / W = x := by
  rw [Nat.add_comm, Nat.add_mul_div_right _ _ (by omega), Nat.div_eq_of_lt h, Nat.zero_add]
theorem dm_mod {W x y : Nat} (h : y < W) : (x * W + y) % W = y := by
  rw [Nat.add_comm, Nat.add_mul_mod_self_right, Nat.mod_eq_of_lt h]
theorem dm_lt {H W x y : Nat} (hx : x < H) (hy : y < W) : x * W + y < H * W := by
  have h1 : (x + 1) * W ≤ H * W := Nat.mul_le_mul_right _ hx
  rw [Nat.succ_mul] at h1
  omega
theorem dm_is (W i : Nat) : i / W * W + i % W = i := by rw [Nat.mul_comm]; exact Nat.div_add_mod i W
theorem dm_row {H W i : Nat} (h : i < H * W) : i / W < H := Nat.div_lt_of_lt_mul (by rw [Nat.mul_comm]; exact h)
theorem dm_pos {H W i : Nat} (h : i < H * W) : 0 < W := by
  rcases Nat.eq_zero_or_pos W with e | e
  · subst e; simp at h
  · exact e

theorem ptP_in {H W i : Nat} (h : i < H * W) : inP H W (ptP W i) := by
  have h1 := dm_row h
  have h2 := Nat.mod_lt i (dm_pos h)
  show 0 ≤ ((i / W : Nat) : Int) ∧ ((i / W : Nat) : Int) < H ∧ 0 ≤ ((i % W : Nat) : Int) ∧ ((i % W : Nat) : Int) < W
  generalize i / W = a at *
  generalize i % W = b at *
  omega
theorem ixP_pt (W i : Nat) : ixP W (ptP W i) = i := by
  show ((i / W : Nat) : Int).toNat * W + ((i % W : Nat) : Int).toNat = i
  rw [Int.toNat_natCast, Int.toNat_natCast]; exact dm_is W i
theorem ixP_lt {H W : Nat} {q : Pt} (h : inP H W q) : ixP W q < H * W := by
  obtain ⟨h1, h2, h3, h4⟩ := h
  exact dm_lt (by omega) (by omega)
theorem ptP_ix {H W : Nat} {q : Pt} (h : inP H W q) : ptP W (ixP W q) = q := by
  obtain ⟨h1, h2, h3, h4⟩ := h
  show (((( q.1.toNat * W + q.2.toNat) / W : Nat) : Int), (((q.1.toNat * W + q.2.toNat) % W : Nat) : Int)) = q
  rw [dm_div (by omega), dm_mod (by omega)]
  exact Prod.ext (by show ((q.1.toNat : Nat) : Int) = q.1; omega) (by show ((q.2.toNat : Nat) : Int) = q.2; omega)
theorem ixP_inj {H W : Nat} {q q' : Pt} (h : inP H W q) (h' : inP H W q') (e : ixP W q = ixP W q') : q = q' := by
  rw [← ptP_ix h, ← ptP_ix h', e]

theorem nb_right {H W : Nat} {g : Nat → Int} {x y : Nat} (hx : x < H) (hy : y + 1 < W) (e : g (x * W + y) = g (x * W + (y + 1))) : Ad H W g (x * W + y) (x * W + (y + 1)) :=
  ⟨dm_lt hx (by omega), dm_lt hx hy, .inl ⟨rfl, by rw [dm_mod hy]; omega⟩, e⟩
theorem nb_down {H W : Nat} {g : Nat → Int} {x y : Nat} (hx : x + 1 < H) (hy : y < W) (e : g (x * W + y) = g ((x + 1) * W + y)) : Ad H W g (x * W + y) ((x + 1) * W + y) :=
  ⟨dm_lt (by omega) hy, dm_lt hx hy, .inr (by rw [Nat.succ_mul]; omega), e⟩
theorem nb_cn {H W : Nat} {g : Nat → Int} {q q' : Pt} (h : inP H W q) (h' : inP H W q') (hn : q' ∈ nbP q) (e : g (ixP W q) = g (ixP W q')) : Cn (Ad H W g) (ixP W q) (ixP W q') := by
  obtain ⟨h1, h2, h3, h4⟩ := h
  obtain ⟨h1', h2', h3', h4'⟩ := h'
  simp only [nbP, List.mem_cons, List.not_mem_nil, or_false] at hn
  unfold ixP at *
  rcases hn with rfl | rfl | rfl | rfl
  · simp only at *
    rw [show (q.1 + 0).toNat = q.1.toNat by omega, show (q.2 + 1).toNat = q.2.toNat + 1 by omega] at *
    exact .fwd .refl (nb_right (by omega) (by omega) e)
  · simp only at *
    rw [show (q.1 + 1).toNat = q.1.toNat + 1 by omega, show (q.2 + 0).toNat = q.2.toNat by omega] at *
    exact .fwd .refl (nb_down (by omega) (by omega) e)
  · simp only at *
    rw [show (q.1 + 0).toNat = q.1.toNat by omega] at *
    have e2 : q.2.toNat = (q.2 + -1).toNat + 1 := by omega
    generalize (q.2 + -1).toNat = z at e2 e ⊢
    rw [e2] at e ⊢
    exact .bwd .refl (nb_right (by omega) (by omega) e.symm)
  · simp only at *
    rw [show (q.2 + 0).toNat = q.2.toNat by omega] at *
    have e2 : q.1.toNat = (q.1 + -1).toNat + 1 := by omega
    generalize (q.1 + -1).toNat = z at e2 e ⊢
    rw [e2] at e ⊢
    exact .bwd .refl (nb_down (by omega) (by omega) e.symm)
theorem ad_nb {H W : Nat} {g : Nat → Int} {i k : Nat} (h : Ad H W g i k) : ptP W k ∈ nbP (ptP W i) ∧ ptP W i ∈ nbP (ptP W k) := by
  obtain ⟨h1, h2, h3, h4⟩ := h
  have hW := dm_pos h1
  have hi := dm_is W i
  have hm := Nat.mod_lt i hW
  have hkey : (k / W = i / W ∧ k % W = i % W + 1) ∨ (k / W = i / W + 1 ∧ k % W = i % W) := by
    rcases h3 with ⟨h3, h5⟩ | h3
    · have hlt : i % W + 1 < W := by
        rcases Nat.lt_or_ge (i % W + 1) W with h6 | h6
        · exact h6
        · exfalso
          have e : k = (i / W + 1) * W := by rw [Nat.succ_mul]; omega
          rw [e, Nat.mul_mod_left] at h5
          exact h5 rfl
      have e : k = i / W * W + (i % W + 1) := by omega
      exact .inl ⟨by rw [e]; exact dm_div hlt, by rw [e]; exact dm_mod hlt⟩
    · have e : k = (i / W + 1) * W + i % W := by rw [Nat.succ_mul]; omega
      refine .inr ⟨?_, ?_⟩
      · rw [e]; exact dm_div hm
      · rw [e]; exact dm_mod hm
  simp only [nbP, ptP, List.mem_cons, List.not_mem_nil, or_false, Prod.mk.injEq]
  rcases hkey with ⟨e1, e2⟩ | ⟨e1, e2⟩
  · rw [e1, e2]
    exact ⟨.inl ⟨by omega, by omega⟩, .inr (.inr (.inl ⟨by omega, by omega⟩))⟩
  · rw [e1, e2]
    exact ⟨.inr (.inl ⟨by omega, by omega⟩), .inr (.inr (.inr ⟨by omega, by omega⟩))⟩
theorem cn_g {H W : Nat} {g : Nat → Int} {i j : Nat} (h : Cn (Ad H W g) i j) : g i = g j := by
  induction h with
  | refl => rfl
  | fwd _ a ih => rw [ih, a.2.2.2]
  | bwd _ a ih => rw [ih, a.2.2.2]
theorem cn_lt {H W : Nat} {g : Nat → Int} {i j : Nat} (hi : i < H * W) (h : Cn (Ad H W g) i j) : j < H * W := by
  induction h with
  | refl => exact hi
  | fwd _ a ih => exact a.2.1
  | bwd _ a ih => exact a.1

/-! ### The search -/
section
variable {H W : Nat} {g : Nat → Int} {L : Nat → Nat}
/-- S holds the places of all parts that begin before t. -/
def SeenOk (H W : Nat) (L : Nat → Nat) (t : Nat) (S : List Pt) : Prop := ∀ q, q ∈ S ↔ inP H W q ∧ L (ixP W q) < t
/-- Places that the search has met, and how many of them are of part t. -/
def metN (H W : Nat) (L : Nat → Nat) (t : Nat) (S : List Pt) : Nat := cntN (fun i => decide (L i = t) && decide (ptP W i ∈ S)) (H * W)
def allN' (H W : Nat) (S : List Pt) : Nat := cntN (fun i => decide (ptP W i ∈ S)) (H * W)
structure BfOk (H W : Nat) (g : Nat → Int) (L : Nat → Nat) (t : Nat) (S Q : List Pt) (m : Nat) : Prop where
  sin : ∀ q ∈ S, inP H W q
  lo : ∀ q, inP H W q → L (ixP W q) < t → q ∈ S
  hi : ∀ q ∈ S, L (ixP W q) ≤ t
  qt : ∀ q ∈ Q, inP H W q → g (ixP W q) = g t → L (ixP W q) = t
  cl : ∀ q ∈ S, L (ixP W q) = t → ∀ q' ∈ nbP q, q' ∈ Q ∨ q' ∈ S ∨ ¬ inP H W q' ∨ g (ixP W q') ≠ g t
  st : ptP W t ∈ Q ∨ ptP W t ∈ S
  sz : m = metN H W L t S
  qb : ∀ q ∈ Q, -1 ≤ q.1 ∧ q.1 ≤ H ∧ -1 ≤ q.2 ∧ q.2 ≤ W
  qn : Q.length + 5 * (H * W - allN' H W S) ≤ 1 + 5 * (H * W)

theorem BfOk.start (hL : IsLab (Ad H W g) L) {t : Nat} {S : List Pt} (ht : t < H * W) (h : SeenOk H W L t S) (e : L t = t) : BfOk H W g L t S [ptP W t] 0 where
  sin q hq := ((h q).1 hq).1
  lo q h1 h2 := (h q).2 ⟨h1, h2⟩
  hi q hq := Nat.le_of_lt ((h q).1 hq).2
  qt q hq h1 h2 := by
    simp only [List.mem_singleton] at hq
    subst hq
    rw [ixP_pt]; exact e
  cl q hq e2 := by have := ((h q).1 hq).2; omega
  st := .inl (by simp)
  sz := by
    refine (cntN_zero fun i hi => ?_).symm
    rw [Bool.and_eq_false_iff]
    by_cases e2 : L i = t
    · refine .inr (decide_eq_false fun hq => ?_)
      have := ((h _).1 hq).2
      rw [ixP_pt] at this; omega
    · exact .inl (decide_eq_false e2)
  qb q hq := by
    simp only [List.mem_singleton] at hq
    subst hq
    obtain ⟨h1, h2, h3, h4⟩ := ptP_in ht
    exact ⟨by omega, by omega, by omega, by omega⟩
  qn := by simp only [List.length_singleton]; omega

theorem BfOk.skip {t : Nat} {S Q : List Pt} {q : Pt} {m : Nat} (ht : t < H * W) (h : BfOk H W g L t S (q :: Q) m) (hs : q ∈ S ∨ ¬ inP H W q ∨ g (ixP W q) ≠ g t) : BfOk H W g L t S Q m where
  sin := h.sin
  lo := h.lo
  hi := h.hi
  qt p hp := h.qt p (List.mem_cons_of_mem _ hp)
  cl p hp e q' hq' := by
    rcases h.cl p hp e q' hq' with h1 | h1
    · rcases List.mem_cons.1 h1 with h1 | h1
      · subst h1; exact .inr hs
      · exact .inl h1
    · exact .inr h1
  st := by
    rcases h.st with h1 | h1
    · rcases List.mem_cons.1 h1 with h1 | h1
      · subst h1
        rcases hs with hs | hs | hs
        · exact .inr hs
        · exact absurd (ptP_in ht) hs
        · rw [ixP_pt] at hs; exact absurd rfl hs
      · exact .inl h1
    · exact .inr h1
  sz := h.sz
  qb p hp := h.qb p (List.mem_cons_of_mem _ hp)
  qn := by have := h.qn; simp only [List.length_cons] at this; omega

theorem allN_add {S : List Pt} {q : Pt} (h : inP H W q) (hn : q ∉ S) : allN' H W (S ++ [q]) = allN' H W S + 1 := by
  refine cntN_ins (i := ixP W q) (ixP_lt h) ?_ ?_ fun i hi hne => ?_
  · rw [ptP_ix h]; exact decide_eq_false hn
  · rw [ptP_ix h]; exact decide_eq_true (by simp)
  · have : ptP W i ≠ q := fun e => hne (by rw [← e, ixP_pt])
    simp [List.mem_append, this]
theorem metN_add {t : Nat} {S : List Pt} {q : Pt} (h : inP H W q) (hn : q ∉ S) (e : L (ixP W q) = t) : metN H W L t (S ++ [q]) = metN H W L t S + 1 := by
  refine cntN_ins (i := ixP W q) (ixP_lt h) ?_ ?_ fun i hi hne => ?_
  · rw [ptP_ix h]; simp [hn]
  · rw [ptP_ix h]; simp [e]
  · have : ptP W i ≠ q := fun e => hne (by rw [← e, ixP_pt])
    simp [List.mem_append, this]

theorem BfOk.add (hL : IsLab (Ad H W g) L) {t : Nat} {S Q : List Pt} {q : Pt} {m : Nat} (h : BfOk H W g L t S (q :: Q) m) (hn : q ∉ S) (hi : inP H W q) (hg : g (ixP W q) = g t) : BfOk H W g L t (S ++ [q]) (Q ++ nbP q) (m + 1) := by
  have et : L (ixP W q) = t := h.qt q (by simp) hi hg
  have ea := allN_add (S := S) hi hn
  exact {
    sin := fun p hp => by
      rcases List.mem_append.1 hp with hp | hp
      · exact h.sin p hp
      · rw [List.mem_singleton] at hp; subst hp; exact hi
    lo := fun p h1 h2 => List.mem_append_left _ (h.lo p h1 h2)
    hi := fun p hp => by
      rcases List.mem_append.1 hp with hp | hp
      · exact h.hi p hp
      · rw [List.mem_singleton] at hp; subst hp; omega
    qt := fun p hp h1 h2 => by
      rcases List.mem_append.1 hp with hp | hp
      · exact h.qt p (List.mem_cons_of_mem _ hp) h1 h2
      · rw [← et]; exact (hL.eq (nb_cn hi h1 hp (by rw [hg, h2]))).symm
    cl := fun p hp e q' hq' => by
      rcases List.mem_append.1 hp with hp | hp
      · rcases h.cl p hp e q' hq' with h1 | h1 | h1
        · rcases List.mem_cons.1 h1 with h1 | h1
          · subst h1; exact .inr (.inl (by simp))
          · exact .inl (List.mem_append_left _ h1)
        · exact .inr (.inl (List.mem_append_left _ h1))
        · exact .inr (.inr h1)
      · rw [List.mem_singleton] at hp; subst hp
        exact .inl (List.mem_append_right _ hq')
    st := by
      rcases h.st with h1 | h1
      · rcases List.mem_cons.1 h1 with h1 | h1
        · rw [h1]; exact .inr (by simp)
        · exact .inl (List.mem_append_left _ h1)
      · exact .inr (List.mem_append_left _ h1)
    sz := by rw [metN_add hi hn et, h.sz]
    qb := fun p hp => by
      rcases List.mem_append.1 hp with hp | hp
      · exact h.qb p (List.mem_cons_of_mem _ hp)
      · obtain ⟨h1, h2, h3, h4⟩ := hi
        simp only [nbP, List.mem_cons, List.not_mem_nil, or_false] at hp
        rcases hp with rfl | rfl | rfl | rfl <;> (refine ⟨?_, ?_, ?_, ?_⟩ <;> simp only <;> omega)
    qn := by
      have h1 := h.qn
      have h2 := cntN_le (fun i => decide (ptP W i ∈ S ++ [q])) (H * W)
      change allN' H W (S ++ [q]) ≤ _ at h2
      simp only [List.length_cons, List.length_append, nbP, List.length_nil] at h1 ⊢
      omega }

/-- How far the search is from its end. -/
def bfM (H W : Nat) (S Q : List Pt) : Nat := Q.length + 5 * (H * W - allN' H W S)
theorem bfM_skip {S Q : List Pt} {q : Pt} : bfM H W S Q < bfM H W S (q :: Q) := by unfold bfM; simp
theorem bfM_add {S Q : List Pt} {q : Pt} (hi : inP H W q) (hn : q ∉ S) : bfM H W (S ++ [q]) (Q ++ nbP q) < bfM H W S (q :: Q) := by
  unfold bfM
  have ea := allN_add (S := S) hi hn
  have h2 := cntN_le (fun i => decide (ptP W i ∈ S ++ [q])) (H * W)
  change allN' H W (S ++ [q]) ≤ _ at h2
  simp only [List.length_cons, List.length_append, nbP, List.length_nil]
  omega

/-- All places of part t. -/
def sizeN (H W : Nat) (L : Nat → Nat) (t : Nat) : Nat := cntN (fun i => decide (L i = t)) (H * W)
theorem BfOk.fin (hL : IsLab (Ad H W g) L) {t : Nat} {S : List Pt} {m : Nat} (ht : t < H * W) (h : BfOk H W g L t S [] m) (e : L t = t) : SeenOk H W L (t + 1) S ∧ m = sizeN H W L t := by
  have h0 : ptP W t ∈ S := h.st.resolve_left (by simp)
  have hall : ∀ k, Cn (Ad H W g) t k → ptP W k ∈ S := fun k hc => by
    have hstep : ∀ {j k : Nat}, Cn (Ad H W g) t j → ptP W j ∈ S → k < H * W → ptP W k ∈ nbP (ptP W j) → g j = g k → ptP W k ∈ S := fun {j k} hj hm hk hb he => by
      have e1 : L (ixP W (ptP W j)) = t := by rw [ixP_pt, ← hL.eq hj, e]
      rcases h.cl _ hm e1 _ hb with h1 | h1 | h1 | h1
      · simp at h1
      · exact h1
      · exact absurd (ptP_in hk) h1
      · exact absurd (by rw [ixP_pt, ← he, cn_g hj]) h1
    induction hc with
    | refl => exact h0
    | fwd hj a ih => exact hstep hj ih a.2.1 (ad_nb a).1 a.2.2.2
    | bwd hj a ih => exact hstep hj ih a.1 (ad_nb a).2 a.2.2.2.symm
  refine ⟨fun q => ⟨fun hq => ⟨h.sin q hq, by have := h.hi q hq; omega⟩, fun ⟨hi, hlt⟩ => ?_⟩, ?_⟩
  · rcases Nat.lt_or_ge (L (ixP W q)) t with h1 | h1
    · exact h.lo q hi h1
    · have e2 : L (ixP W q) = t := by omega
      have := hall (ixP W q) (hL.of_eq (by rw [e, e2]))
      rwa [ptP_ix hi] at this
  · rw [h.sz]
    refine cntN_ext fun i hi => ?_
    by_cases e2 : L i = t
    · have := hall i (hL.of_eq (by rw [e, e2]))
      simp [e2, this]
    · simp [e2]
theorem SeenOk.next (hL : IsLab (Ad H W g) L) {t : Nat} {S : List Pt} (h : SeenOk H W L t S) (e : L t ≠ t) : SeenOk H W L (t + 1) S := fun q => by
  rw [h q]
  refine ⟨fun ⟨h1, h2⟩ => ⟨h1, by omega⟩, fun ⟨h1, h2⟩ => ⟨h1, ?_⟩⟩
  have : L (ixP W q) ≠ t := fun e2 => e (by rw [← e2]; exact hL.idem _)
  omega
theorem SeenOk.has {t : Nat} {S : List Pt} (hL : IsLab (Ad H W g) L) (ht : t < H * W) (h : SeenOk H W L t S) (e : L t ≠ t) : ptP W t ∈ S := by
  rw [h]
  refine ⟨ptP_in ht, ?_⟩
  have := hL.le t
  rw [ixP_pt]; omega
theorem sizeN_pos {t : Nat} (ht : t < H * W) (e : L t = t) : 0 < sizeN H W L t := cntN_pos ht (decide_eq_true e)
theorem sizeN_none (hL : IsLab (Ad H W g) L) {t : Nat} (e : L t ≠ t) : sizeN H W L t = 0 := cntN_zero fun i hi => decide_eq_false fun e2 => e (by rw [← e2]; exact hL.idem _)

/-- The parts that begin before t, each with its letter and size. -/
def partsL (H W : Nat) (g : Nat → Int) (L : Nat → Nat) : Nat → List (Int × Nat)
  | 0 => []
  | t + 1 => if L t = t then partsL H W g L t ++ [(g t, sizeN H W L t)] else partsL H W g L t
theorem partsL_yes {t : Nat} (e : L t = t) : partsL H W g L (t + 1) = partsL H W g L t ++ [(g t, sizeN H W L t)] := by show (if _ then _ else _) = _; rw [if_pos e]
theorem partsL_no {t : Nat} (e : L t ≠ t) : partsL H W g L (t + 1) = partsL H W g L t := by show (if _ then _ else _) = _; rw [if_neg e]
theorem partsL_len : ∀ t, (partsL H W g L t).length = cntN (fun i => decide (L i = i)) t
  | 0 => rfl
  | t + 1 => by
    show _ = cntN _ t + (if decide (L t = t) = true then 1 else 0)
    by_cases e : L t = t
    · rw [partsL_yes e, List.length_append, partsL_len t, decide_eq_true e]; rfl
    · rw [partsL_no e, partsL_len t, decide_eq_false e]; rfl

/-- The search of part t, whether t begins a part or not. -/
def BfI (H W : Nat) (g : Nat → Int) (L : Nat → Nat) (t : Nat) (S0 S Q : List Pt) (m : Nat) : Prop := (L t = t ∧ BfOk H W g L t S Q m) ∨ (L t ≠ t ∧ S = S0 ∧ m = 0 ∧ (Q = [] ∨ Q = [ptP W t]))
theorem BfI.start (hL : IsLab (Ad H W g) L) {t : Nat} {S : List Pt} (ht : t < H * W) (h : SeenOk H W L t S) : BfI H W g L t S S [ptP W t] 0 := by
  by_cases e : L t = t
  · exact .inl ⟨e, BfOk.start hL ht h e⟩
  · exact .inr ⟨e, rfl, rfl, .inr rfl⟩
theorem BfI.skip {t : Nat} {S0 S Q : List Pt} {q : Pt} {m : Nat} (ht : t < H * W) (h : BfI H W g L t S0 S (q :: Q) m) (hs : q ∈ S ∨ ¬ inP H W q ∨ g (ixP W q) ≠ g t) : BfI H W g L t S0 S Q m := by
  rcases h with ⟨e, h⟩ | ⟨e, h1, h2, h3⟩
  · exact .inl ⟨e, h.skip ht hs⟩
  · rcases h3 with h3 | h3
    · cases h3
    · injection h3 with h3 h4; exact .inr ⟨e, h1, h2, .inl h4⟩
theorem BfI.add (hL : IsLab (Ad H W g) L) {t : Nat} {S0 S Q : List Pt} {q : Pt} {m : Nat} (ht : t < H * W) (h0 : SeenOk H W L t S0) (h : BfI H W g L t S0 S (q :: Q) m) (hn : q ∉ S) (hi : inP H W q) (hg : g (ixP W q) = g t) : BfI H W g L t S0 (S ++ [q]) (Q ++ nbP q) (m + 1) := by
  rcases h with ⟨e, h⟩ | ⟨e, h1, h2, h3⟩
  · exact .inl ⟨e, h.add hL hn hi hg⟩
  · rcases h3 with h3 | h3
    · cases h3
    · injection h3 with h3 h4
      subst h3 h1
      exact absurd (h0.has hL ht e) hn
theorem BfI.qb {t : Nat} {S0 S Q : List Pt} {m : Nat} (ht : t < H * W) (h : BfI H W g L t S0 S Q m) : ∀ q ∈ Q, -1 ≤ q.1 ∧ q.1 ≤ H ∧ -1 ≤ q.2 ∧ q.2 ≤ W := by
  rcases h with ⟨e, h⟩ | ⟨e, h1, h2, h3⟩
  · exact h.qb
  · intro q hq
    rcases h3 with rfl | rfl
    · cases hq
    · rw [List.mem_singleton] at hq
      subst hq
      obtain ⟨h1, h2, h3, h4⟩ := ptP_in ht
      exact ⟨by omega, by omega, by omega, by omega⟩
theorem BfI.len {t : Nat} {S0 S Q : List Pt} {m : Nat} (h : BfI H W g L t S0 S Q m) : Q.length ≤ 1 + 5 * (H * W) ∧ m ≤ H * W := by
  rcases h with ⟨e, h⟩ | ⟨e, h1, h2, h3⟩
  · exact ⟨by have := h.qn; omega, by rw [h.sz]; exact cntN_le _ _⟩
  · refine ⟨?_, by omega⟩
    rcases h3 with rfl | rfl
    · simp
    · simp
theorem BfI.fin (hL : IsLab (Ad H W g) L) {t : Nat} {S0 S : List Pt} {m : Nat} (ht : t < H * W) (h0 : SeenOk H W L t S0) (h : BfI H W g L t S0 S [] m) : SeenOk H W L (t + 1) S ∧ ((0 < m ∧ partsL H W g L (t + 1) = partsL H W g L t ++ [(g t, m)]) ∨ (m = 0 ∧ partsL H W g L (t + 1) = partsL H W g L t)) := by
  rcases h with ⟨e, h⟩ | ⟨e, h1, h2, h3⟩
  · obtain ⟨h1, h2⟩ := h.fin hL ht e
    exact ⟨h1, .inl ⟨by rw [h2]; exact sizeN_pos ht e, by rw [partsL_yes e, h2]⟩⟩
  · subst h1
    exact ⟨h0.next hL e, .inr ⟨h2, partsL_no e⟩⟩

/-- The first of the greatest. -/
def bestJ (f : Nat → Nat) : Nat → Nat
  | 0 => 0
  | k + 1 => if f (bestJ f k) < f k then k else bestJ f k
/-- The first part of the greatest size, and what stands where there is none. -/
def mostL : List (Int × Nat) → Int × Nat → Int × Nat
  | [], b => b
  | x :: l, b => mostL l (if b.2 < x.2 then x else b)
theorem mostL_app : ∀ (l l' : List (Int × Nat)) (b : Int × Nat), mostL (l ++ l') b = mostL l' (mostL l b)
  | [], _, _ => rfl
  | x :: l, l', b => mostL_app l l' _
theorem most_is (hL : IsLab (Ad H W g) L) {t : Nat} (h0 : 0 < t) (ht : t ≤ H * W) : mostL (partsL H W g L t) (0, 0) = (g (bestJ (sizeN H W L) t), sizeN H W L (bestJ (sizeN H W L) t)) := by
  induction t with
  | zero => omega
  | succ t ih =>
    rcases Nat.eq_zero_or_pos t with e | h1
    · subst e
      have e0 : L 0 = 0 := by have := hL.le 0; omega
      rw [partsL_yes e0]
      have := sizeN_pos (L := L) (show 0 < H * W by omega) e0
      show (if 0 < sizeN H W L 0 then _ else _) = _
      rw [if_pos this]
      show _ = (g (if _ then _ else _), _)
      simp [bestJ]
    · have ih := ih h1 (by omega)
      show _ = (g (if _ then _ else _), sizeN H W L (if _ then _ else _))
      by_cases e : L t = t
      · rw [partsL_yes e, mostL_app, ih]
        show (if _ then _ else _) = _
        split
        · rfl
        · rfl
      · rw [partsL_no e, ih, if_neg (by rw [sizeN_none hL e]; omega)]
end
end Go.Proofs.Ytpimjkhfookipaa
