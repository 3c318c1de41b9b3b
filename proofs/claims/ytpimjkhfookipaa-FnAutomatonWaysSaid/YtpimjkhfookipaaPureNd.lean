/- States that steps reach, plainly: marks in rounds, and a list of reached ones. No conditions. -/
import Derived.Test.YtpimjkhfookipaaPure
namespace Go.Proofs.Ytpimjkhfookipaa
set_option linter.unusedSimpArgs false
set_option linter.unusedVariables false

/-- Row s: the first t entries looked at. -/
def inT (E : Nat → Nat → Bool) (s : Nat) : Nat → (Nat → Bool) → Nat → Bool
  | 0, mk => mk
  | t + 1, mk => fun q => if q = s then (inT E s t mk s || (E s t && inT E s t mk t)) else inT E s t mk q
/-- The first s rows. -/
def inS (E : Nat → Nat → Bool) (n : Nat) : Nat → (Nat → Bool) → Nat → Bool
  | 0, mk => mk
  | s + 1, mk => inT E s n (inS E n s mk)
/-- The first m letters. -/
def inM (E : Nat → Nat → Nat → Bool) (n : Nat) : Nat → (Nat → Bool) → Nat → Bool
  | 0, mk => mk
  | m + 1, mk => inS (E m) n n (inM E n m mk)
/-- r rounds. -/
def rnd (E : Nat → Nat → Nat → Bool) (n L : Nat) : Nat → (Nat → Bool) → Nat → Bool
  | 0, mk => mk
  | r + 1, mk => inM E n L (rnd E n L r mk)

theorem inT_mono (E : Nat → Nat → Bool) (s : Nat) : ∀ t mk q, mk q = true → inT E s t mk q = true
  | 0, _, _, h => h
  | t + 1, mk, q, h => by
    have ih := inT_mono E s t mk q h
    show (if q = s then _ else _) = true
    by_cases e : q = s
    · subst e; rw [if_pos rfl, ih]; rfl
    · rw [if_neg e]; exact ih
theorem inS_mono (E : Nat → Nat → Bool) (n : Nat) : ∀ s mk q, mk q = true → inS E n s mk q = true
  | 0, _, _, h => h
  | s + 1, mk, q, h => inT_mono E s n _ q (inS_mono E n s mk q h)
theorem inM_mono (E : Nat → Nat → Nat → Bool) (n : Nat) : ∀ m mk q, mk q = true → inM E n m mk q = true
  | 0, _, _, h => h
  | m + 1, mk, q, h => inS_mono (E m) n n _ q (inM_mono E n m mk q h)
theorem rnd_mono (E : Nat → Nat → Nat → Bool) (n L : Nat) : ∀ r mk q, mk q = true → rnd E n L r mk q = true
  | 0, _, _, h => h
  | r + 1, mk, q, h => inM_mono E n L _ q (rnd_mono E n L r mk q h)
theorem inT_hit {E : Nat → Nat → Bool} {s : Nat} : ∀ {T t : Nat} {mk : Nat → Bool}, t < T → E s t = true → mk t = true → inT E s T mk s = true
  | 0, t, mk, h, _, _ => by omega
  | T + 1, t, mk, h, he, hm => by
    show (if s = s then (inT E s T mk s || (E s T && inT E s T mk T)) else _) = true
    rw [if_pos rfl]
    by_cases e : t = T
    · subst e; rw [he, inT_mono E s t mk t hm]; simp
    · rw [inT_hit (show t < T by omega) he hm]; rfl
theorem inS_hit {E : Nat → Nat → Bool} {n : Nat} : ∀ {S s t : Nat} {mk : Nat → Bool}, s < S → t < n → E s t = true → mk t = true → inS E n S mk s = true
  | 0, s, t, mk, h, _, _, _ => by omega
  | S + 1, s, t, mk, h, ht, he, hm => by
    show inT E S n (inS E n S mk) s = true
    by_cases e : s = S
    · subst e; exact inT_hit ht he (inS_mono E n s mk t hm)
    · exact inT_mono E S n _ s (inS_hit (show s < S by omega) ht he hm)
theorem inM_hit {E : Nat → Nat → Nat → Bool} {n : Nat} : ∀ {M m s t : Nat} {mk : Nat → Bool}, m < M → s < n → t < n → E m s t = true → mk t = true → inM E n M mk s = true
  | 0, m, s, t, mk, h, _, _, _, _ => by omega
  | M + 1, m, s, t, mk, h, hs, ht, he, hm => by
    show inS (E M) n n (inM E n M mk) s = true
    by_cases e : m = M
    · subst e; exact inS_hit hs ht he (inM_mono E n m mk t hm)
    · exact inS_mono (E M) n n _ s (inM_hit (show m < M by omega) hs ht he hm)
theorem inT_sound {E : Nat → Nat → Bool} {n s : Nat} {P : Nat → Prop} (hs : s < n) (hP : ∀ s t, s < n → t < n → E s t = true → P t → P s) : ∀ (T : Nat) (mk : Nat → Bool), T ≤ n → (∀ q, q < n → mk q = true → P q) → ∀ q, q < n → inT E s T mk q = true → P q
  | 0, mk, _, h, q, hq, hm => h q hq hm
  | T + 1, mk, hT, h, q, hq, hm => by
    have ih := inT_sound hs hP T mk (by omega) h
    have hm : (if q = s then (inT E s T mk s || (E s T && inT E s T mk T)) else inT E s T mk q) = true := hm
    by_cases e : q = s
    · subst e
      rw [if_pos rfl, Bool.or_eq_true, Bool.and_eq_true] at hm
      rcases hm with hm | ⟨h1, h2⟩
      · exact ih q hq hm
      · exact hP q T hq (by omega) h1 (ih T (by omega) h2)
    · rw [if_neg e] at hm; exact ih q hq hm
theorem inS_sound {E : Nat → Nat → Bool} {n : Nat} {P : Nat → Prop} (hP : ∀ s t, s < n → t < n → E s t = true → P t → P s) : ∀ (S : Nat) (mk : Nat → Bool), S ≤ n → (∀ q, q < n → mk q = true → P q) → ∀ q, q < n → inS E n S mk q = true → P q
  | 0, mk, _, h, q, hq, hm => h q hq hm
  | S + 1, mk, hS, h, q, hq, hm => inT_sound (s := S) (by omega) hP n (inS E n S mk) (Nat.le_refl _) (inS_sound hP S mk (by omega) h) q hq hm
theorem inM_sound {E : Nat → Nat → Nat → Bool} {n L : Nat} {P : Nat → Prop} (hP : ∀ m s t, m < L → s < n → t < n → E m s t = true → P t → P s) : ∀ (M : Nat) (mk : Nat → Bool), M ≤ L → (∀ q, q < n → mk q = true → P q) → ∀ q, q < n → inM E n M mk q = true → P q
  | 0, mk, _, h, q, hq, hm => h q hq hm
  | M + 1, mk, hM, h, q, hq, hm => inS_sound (fun s t => hP M s t (by omega)) n (inM E n M mk) (Nat.le_refl _) (inM_sound hP M mk (by omega) h) q hq hm
theorem rnd_sound {E : Nat → Nat → Nat → Bool} {n L : Nat} {P : Nat → Prop} (hP : ∀ m s t, m < L → s < n → t < n → E m s t = true → P t → P s) : ∀ (r : Nat) (mk : Nat → Bool), (∀ q, q < n → mk q = true → P q) → ∀ q, q < n → rnd E n L r mk q = true → P q
  | 0, mk, h, q, hq, hm => h q hq hm
  | r + 1, mk, h, q, hq, hm => inM_sound hP L (rnd E n L r mk) (Nat.le_refl _) (rnd_sound hP r mk h) q hq hm
theorem rnd_add (E : Nat → Nat → Nat → Bool) (n L a : Nat) (mk : Nat → Bool) : ∀ b, rnd E n L (a + b) mk = rnd E n L b (rnd E n L a mk)
  | 0 => rfl
  | b + 1 => by show inM E n L (rnd E n L (a + b) mk) = _; rw [rnd_add E n L a mk b]; rfl

/-- How many of the first n are marked. -/
def cntN (f : Nat → Bool) : Nat → Nat
  | 0 => 0
  | n + 1 => cntN f n + if f n = true then 1 else 0
theorem cntN_le (f : Nat → Bool) : ∀ n, cntN f n ≤ n
  | 0 => Nat.le_refl _
  | n + 1 => by have := cntN_le f n; unfold cntN; split <;> omega
theorem cntN_mono {f g : Nat → Bool} : ∀ {n}, (∀ q, q < n → f q = true → g q = true) → cntN f n ≤ cntN g n
  | 0, _ => Nat.le_refl _
  | n + 1, h => by
    have ih := cntN_mono (n := n) fun q hq => h q (by omega)
    unfold cntN
    by_cases e : f n = true
    · rw [if_pos e, if_pos (h n (by omega) e)]; omega
    · rw [if_neg e]; omega
theorem cntN_lt {f g : Nat → Bool} : ∀ {n q}, (∀ q, q < n → f q = true → g q = true) → q < n → f q = false → g q = true → cntN f n < cntN g n
  | 0, q, _, hq, _, _ => by omega
  | n + 1, q, h, hq, h1, h2 => by
    unfold cntN
    by_cases e : q = n
    · subst e
      have := cntN_mono (n := q) fun q hq => h q (by omega)
      rw [h2, h1]; simp; omega
    · have ih := cntN_lt (n := n) (q := q) (fun q hq => h q (by omega)) (by omega) h1 h2
      by_cases e : f n = true
      · rw [if_pos e, if_pos (h n (by omega) e)]; omega
      · rw [if_neg e]; omega
theorem cntN_all {f : Nat → Bool} : ∀ {n}, n ≤ cntN f n → ∀ q, q < n → f q = true
  | 0, _, q, hq => by omega
  | n + 1, h, q, hq => by
    have h1 := cntN_le f n
    unfold cntN at h
    by_cases e : f n = true
    · rw [if_pos e] at h
      by_cases e2 : q = n
      · subst e2; exact e
      · exact cntN_all (n := n) (by omega) q (by omega)
    · rw [if_neg e] at h; omega

/-- What n rounds mark is closed. -/
theorem rnd_closed {E : Nat → Nat → Nat → Bool} {n L : Nat} (mk : Nat → Bool) {m s t : Nat} (hm : m < L) (hs : s < n) (ht : t < n) (he : E m s t = true) (h : rnd E n L n mk t = true) : rnd E n L n mk s = true := by
  by_cases hst : ∃ r, r < n ∧ ∀ q, q < n → rnd E n L (r + 1) mk q = true → rnd E n L r mk q = true
  · obtain ⟨r, hr, hq⟩ := hst
    have hcl : ∀ m s t, m < L → s < n → t < n → E m s t = true → rnd E n L r mk t = true → rnd E n L r mk s = true := fun m s t hm hs ht he h => hq s hs (inM_hit hm hs ht he h)
    have e : rnd E n L n mk = rnd E n L (n - r) (rnd E n L r mk) := by rw [← rnd_add, show r + (n - r) = n by omega]
    have hdown : ∀ q, q < n → rnd E n L n mk q = true → rnd E n L r mk q = true := fun q hq h => by
      rw [e] at h
      exact rnd_sound (P := fun q => rnd E n L r mk q = true) hcl (n - r) (rnd E n L r mk) (fun _ _ h => h) q hq h
    have := hcl m s t hm hs ht he (hdown t ht h)
    rw [e]; exact rnd_mono E n L _ _ s this
  · have hc : ∀ r, r ≤ n → r ≤ cntN (rnd E n L r mk) n := by
      intro r
      induction r with
      | zero => intro _; omega
      | succ r ih =>
        intro hr
        have h1 := ih (by omega)
        obtain ⟨q, hq, h2, h3⟩ : ∃ q, q < n ∧ rnd E n L (r + 1) mk q = true ∧ rnd E n L r mk q = false := by
          apply Classical.byContradiction
          intro hno
          apply hst
          refine ⟨r, by omega, fun q hq h => ?_⟩
          cases e : rnd E n L r mk q with
          | true => rfl
          | false => exact (hno ⟨q, hq, h, e⟩).elim
        have := cntN_lt (f := rnd E n L r mk) (g := rnd E n L (r + 1) mk) (fun q _ h => inM_mono E n L _ q h) hq h3 h2
        omega
    exact cntN_all (hc n (Nat.le_refl _)) s hs

/-! ### The list of reached ones -/
def hasI (l : List Int) (k : Int) : Bool := l.any fun x => x == k
theorem hasI_iff {l : List Int} {k : Int} : hasI l k = true ↔ k ∈ l := by simp [hasI]
theorem hasI_no {l : List Int} {k : Int} : hasI l k = false ↔ k ∉ l := by
  rw [← hasI_iff]; simp
theorem hasI_at {l : List Int} {k : Int} {i : Nat} (hi : i < l.length) (h : l.getD i 0 = k) : hasI l k = true := by
  rw [hasI_iff, ← h, List.getD_eq_getElem?_getD, List.getElem?_eq_getElem hi]
  exact List.getElem_mem _
theorem hasI_none {l : List Int} {k : Int} (h : ∀ i, i < l.length → ¬ l.getD i 0 = k) : hasI l k = false := by
  rw [hasI_no]
  intro hk
  obtain ⟨i, hi, e⟩ := List.getElem_of_mem hk
  apply h i hi
  rw [List.getD_eq_getElem?_getD, List.getElem?_eq_getElem hi]; exact e
def cntI (k : Int) : List Int → Nat
  | [] => 0
  | x :: l => if x < k then cntI k l + 1 else 0
def putI (l : List Int) (k : Int) : List Int := l.take (cntI k l) ++ (k :: l.drop (cntI k l))
theorem cntI_le (k : Int) : ∀ l, cntI k l ≤ l.length
  | [] => Nat.zero_le _
  | x :: l => by have := cntI_le k l; unfold cntI; split <;> simp <;> omega
@[simp] theorem putI_len (l : List Int) (k : Int) : (putI l k).length = l.length + 1 := by
  have := cntI_le k l
  simp [putI]; omega
theorem putI_mem {l : List Int} {k x : Int} : x ∈ putI l k ↔ x = k ∨ x ∈ l := by
  unfold putI
  rw [List.mem_append, List.mem_cons]
  have : x ∈ l ↔ x ∈ l.take (cntI k l) ∨ x ∈ l.drop (cntI k l) := by
    rw [← List.mem_append, List.take_append_drop]
  rw [this]
  constructor
  · rintro (h | h | h) <;> simp [h]
  · rintro (h | h | h) <;> simp [h]
theorem cntI_bef (k : Int) : ∀ (l : List Int) (j : Nat), j < cntI k l → l.getD j 0 < k
  | [], j, h => by simp [cntI] at h
  | x :: l, 0, h => by
    unfold cntI at h
    split at h
    · rename_i e; exact e
    · simp at h
  | x :: l, j + 1, h => by
    unfold cntI at h
    split at h
    · exact cntI_bef k l j (by omega)
    · simp at h
theorem cntI_no (k : Int) : ∀ (l : List Int), cntI k l < l.length → ¬ l.getD (cntI k l) 0 < k
  | [], h => by simp at h
  | x :: l, h => by
    unfold cntI at h ⊢
    by_cases e : x < k
    · rw [if_pos e] at h ⊢
      exact cntI_no k l (by simpa using h)
    · rw [if_neg e] at h ⊢
      simpa using e
theorem cntI_at {k : Int} {l : List Int} {c : Nat} (hc : c ≤ l.length) (h : ∀ j, j < c → l.getD j 0 < k) (h2 : c < l.length → ¬ l.getD c 0 < k) : cntI k l = c := by
  rcases Nat.lt_trichotomy (cntI k l) c with h3 | h3 | h3
  · exact absurd (h _ h3) (cntI_no k l (by omega))
  · exact h3
  · have h4 := cntI_le k l
    exact absurd (cntI_bef k l c h3) (h2 (by omega))
theorem putI_get (l : List Int) (k : Int) (i : Nat) : (putI l k).getD i 0 = if i < cntI k l then l.getD i 0 else if i = cntI k l then k else l.getD (i - 1) 0 := by
  have hl := cntI_le k l
  unfold putI
  simp only [List.getD]
  by_cases h : i < cntI k l
  · rw [if_pos h, List.getElem?_append_left (by simp; omega), List.getElem?_take_of_lt h]
  · rw [if_neg h, List.getElem?_append_right (by simp; omega), List.length_take, Nat.min_eq_left hl]
    by_cases e : i = cntI k l
    · rw [if_pos e, e, Nat.sub_self]; rfl
    · rw [if_neg e, show i - cntI k l = (i - 1 - cntI k l) + 1 by omega, List.getElem?_cons_succ, List.getElem?_drop, show cntI k l + (i - 1 - cntI k l) = i - 1 by omega]

/-- What the list of reached ones, and of those whose steps are still to be looked at, bear. done: all steps of x have been looked at. -/
structure ReachOk (E : Nat → Nat → Nat → Bool) (n L : Nat) (mk : Nat → Bool) (out open_ : List Int) : Prop where
  bnd : ∀ x ∈ out, 0 ≤ x ∧ x < n ∧ rnd E n L n mk x.toNat = true
  init : ∀ q, q < n → mk q = true → (q : Int) ∈ out
  sub : ∀ x ∈ open_, x ∈ out
  len : out.length ≤ cntN (fun q => hasI out q) n
  olen : open_.length ≤ out.length
/-- All steps to x have been looked at. -/
def Done (E : Nat → Nat → Nat → Bool) (n L : Nat) (out : List Int) (x : Int) : Prop := ∀ m s, m < L → s < n → E m s x.toNat = true → (s : Int) ∈ out

theorem ReachOk.all {E : Nat → Nat → Nat → Bool} {n L : Nat} {mk : Nat → Bool} {out : List Int} (h : ReachOk E n L mk out []) (hd : ∀ x ∈ out, Done E n L out x) (q : Nat) (hq : q < n) : hasI out q = rnd E n L n mk q := by
  cases e : rnd E n L n mk q with
  | true =>
    rw [hasI_iff]
    exact rnd_sound (P := fun q => (q : Int) ∈ out) (fun m s t hm hs ht he hP => hd t hP m s hm hs (by simpa using he)) n mk (fun q hq h0 => h.init q hq h0) q hq e
  | false =>
    rw [hasI_no]
    intro hx
    have := (h.bnd q hx).2.2
    rw [Int.toNat_natCast, e] at this; cases this
theorem ReachOk.le {E : Nat → Nat → Nat → Bool} {n L : Nat} {mk : Nat → Bool} {out open_ : List Int} (h : ReachOk E n L mk out open_) : out.length ≤ n := by
  have := h.len; have := cntN_le (fun q => hasI out q) n; omega
theorem ReachOk.pop {E : Nat → Nat → Nat → Bool} {n L : Nat} {mk : Nat → Bool} {out open_ : List Int} {x : Int} (h : ReachOk E n L mk out (x :: open_)) : ReachOk E n L mk out open_ :=
  ⟨h.bnd, h.init, fun y hy => h.sub y (by simp [hy]), h.len, by have := h.olen; simp at this; omega⟩
theorem ReachOk.push {E : Nat → Nat → Nat → Bool} {n L : Nat} {mk : Nat → Bool} {out open_ : List Int} {m s : Nat} {x : Int} (h : ReachOk E n L mk out open_) (hx : x ∈ out) (hm : m < L) (hs : s < n) (he : E m s x.toNat = true) (hno : (s : Int) ∉ out) :
    ReachOk E n L mk (putI out s) (open_ ++ [(s : Int)]) := by
  have hb := h.bnd x hx
  refine ⟨fun y hy => ?_, fun q hq h0 => putI_mem.2 (.inr (h.init q hq h0)), fun y hy => ?_, ?_, ?_⟩
  · rcases putI_mem.1 hy with rfl | hy
    · exact ⟨by omega, by omega, by simpa using rnd_closed mk hm hs (by omega) he hb.2.2⟩
    · exact h.bnd y hy
  · rcases List.mem_append.1 hy with hy | hy
    · exact putI_mem.2 (.inr (h.sub y hy))
    · exact putI_mem.2 (.inl (by simpa using hy))
  · have h1 := h.len
    have := cntN_lt (f := fun q => hasI out q) (g := fun q => hasI (putI out s) q) (n := n) (q := s) (fun q hq h0 => hasI_iff.2 (putI_mem.2 (.inr (hasI_iff.1 h0)))) hs (hasI_no.2 hno) (hasI_iff.2 (putI_mem.2 (.inl rfl)))
    rw [putI_len]; omega
  · have := h.olen
    rw [putI_len, List.length_append, List.length_singleton]; omega
theorem Done.mono {E : Nat → Nat → Nat → Bool} {n L : Nat} {out out' : List Int} {x : Int} (h : Done E n L out x) (hs : ∀ y ∈ out, y ∈ out') : Done E n L out' x := fun m s hm hs' he => hs _ (h m s hm hs' he)
end Go.Proofs.Ytpimjkhfookipaa
