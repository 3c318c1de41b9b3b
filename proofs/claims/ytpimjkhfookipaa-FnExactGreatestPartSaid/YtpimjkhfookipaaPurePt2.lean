/- The reference's way to the least places, plainly: labels that fall. No conditions. -/
import Derived.Test.YtpimjkhfookipaaPurePt
namespace Go.Proofs.Ytpimjkhfookipaa
set_option linter.unusedSimpArgs false
set_option linter.unusedVariables false

def setN (f : Nat → Nat) (j v : Nat) : Nat → Nat := fun q => if q = j then v else f q
def sumN (f : Nat → Nat) : Nat → Nat
  | 0 => 0
  | n + 1 => sumN f n + f n
theorem sumN_ext {f g : Nat → Nat} : ∀ {n}, (∀ q, q < n → f q = g q) → sumN f n = sumN g n
  | 0, _ => rfl
  | n + 1, h => by
    show sumN f n + f n = sumN g n + g n
    rw [sumN_ext (n := n) fun q hq => h q (by omega), h n (by omega)]
theorem sumN_set {f : Nat → Nat} {j v : Nat} : ∀ {n}, j < n → sumN (setN f j v) n + f j = sumN f n + v
  | 0, h => by omega
  | n + 1, h => by
    show sumN (setN f j v) n + setN f j v n + f j = sumN f n + f n + v
    by_cases e : j = n
    · subst e
      rw [sumN_ext (f := setN f j v) (g := f) (n := j) fun q hq => if_neg (by omega), show setN f j v j = v from if_pos rfl]
      omega
    · have := sumN_set (f := f) (j := j) (v := v) (n := n) (by omega)
      rw [show setN f j v n = f n from if_neg (fun h => e h.symm)]
      omega

section
variable {H W : Nat} {g : Nat → Int}
/-- The place to the right (0) or below (1). -/
def sdP (W i s : Nat) : Nat := if s = 0 then i + 1 else i + W
/-- A step by side s. -/
def As (H W : Nat) (g : Nat → Int) (s i : Nat) : Prop := i < H * W ∧ sdP W i s < H * W ∧ (s = 0 → sdP W i s % W ≠ 0) ∧ g i = g (sdP W i s)
theorem As.ad {s i : Nat} (h : As H W g s i) (hs : s < 2) : Ad H W g i (sdP W i s) := by
  obtain ⟨h1, h2, h3, h4⟩ := h
  refine ⟨h1, h2, ?_, h4⟩
  rcases (show s = 0 ∨ s = 1 by omega) with rfl | rfl
  · exact .inl ⟨rfl, h3 rfl⟩
  · exact .inr rfl
theorem As.of_ad {i k : Nat} (h : Ad H W g i k) : ∃ s, s < 2 ∧ As H W g s i ∧ k = sdP W i s := by
  obtain ⟨h1, h2, h3, h4⟩ := h
  rcases h3 with ⟨rfl, h3⟩ | rfl
  · exact ⟨0, by omega, ⟨h1, h2, fun _ => h3, h4⟩, rfl⟩
  · exact ⟨1, by omega, ⟨h1, h2, (fun h => nomatch h), h4⟩, rfl⟩

/-- Labels that lead to linked places before. -/
def LbOk (H W : Nat) (g : Nat → Int) (out : Nat → Nat) : Prop := ∀ i, i < H * W → out i ≤ i ∧ Cn (Ad H W g) i (out i)
theorem LbOk.start : LbOk H W g (fun i => i) := fun i hi => ⟨Nat.le_refl _, .refl⟩
theorem LbOk.lt {out : Nat → Nat} (h : LbOk H W g out) {i : Nat} (hi : i < H * W) : out i < H * W := by have := (h i hi).1; omega
def joinL (out : Nat → Nat) (i k : Nat) : Nat → Nat := setN (setN out i (min (out i) (out k))) k (min (out i) (out k))
theorem LbOk.join {out : Nat → Nat} (h : LbOk H W g out) {i k : Nat} (ha : Ad H W g i k) : LbOk H W g (joinL out i k) := fun j hj => by
  have hi := ha.1
  have hk := ha.2.1
  obtain ⟨h1, h2⟩ := h i hi
  obtain ⟨h3, h4⟩ := h k hk
  have hcm : ∀ x, Cn (Ad H W g) x i → Cn (Ad H W g) x (min (out i) (out k)) := fun x hx => by
    rcases (show min (out i) (out k) = out i ∨ min (out i) (out k) = out k by omega) with e | e
    · rw [e]; exact hx.trans h2
    · rw [e]; exact (hx.fwd ha).trans h4
  unfold joinL setN
  by_cases e : j = k
  · subst e
    rw [if_pos rfl]
    exact ⟨by omega, hcm _ (.bwd .refl ha)⟩
  · rw [if_neg e]
    by_cases e2 : j = i
    · subst e2
      rw [if_pos rfl]
      exact ⟨by omega, hcm _ .refl⟩
    · rw [if_neg e2]; exact h j hj
theorem join_sum {out : Nat → Nat} {i k n : Nat} (hi : i < n) (hk : k < n) (hne : i ≠ k) (h : out i ≠ out k) : sumN (joinL out i k) n < sumN out n := by
  have h1 := sumN_set (f := out) (j := i) (v := min (out i) (out k)) hi
  have h2 := sumN_set (f := setN out i (min (out i) (out k))) (j := k) (v := min (out i) (out k)) hk
  have e : setN out i (min (out i) (out k)) k = out k := if_neg (fun h => hne h.symm)
  rw [e] at h2
  unfold joinL
  omega

/-- What holds within a pass: z: the sum at its beginning; c: whether labels fell; i, s: what was looked at. -/
structure PsOk (H W : Nat) (g : Nat → Int) (z : Nat) (out : Nat → Nat) (c : Bool) (i s : Nat) : Prop where
  ok : LbOk H W g out
  yes : c = true → sumN out (H * W) < z
  no : c = false → sumN out (H * W) = z ∧ (∀ j q, j < i → q < 2 → As H W g q j → out j = out (sdP W j q)) ∧ ∀ q, q < s → q < 2 → As H W g q i → out i = out (sdP W i q)
theorem PsOk.start {out : Nat → Nat} (h : LbOk H W g out) : PsOk H W g (sumN out (H * W)) out false 0 0 :=
  ⟨h, fun h => (nomatch h), fun _ => ⟨rfl, fun j q hj => by omega, fun q hq => by omega⟩⟩
theorem PsOk.next {z i : Nat} {out : Nat → Nat} {c : Bool} (h : PsOk H W g z out c i 2) : PsOk H W g z out c (i + 1) 0 :=
  ⟨h.ok, h.yes, fun hc => ⟨(h.no hc).1, fun j q hj hq ha => by
    by_cases e : j = i
    · subst e; exact (h.no hc).2.2 q hq hq ha
    · exact (h.no hc).2.1 j q (by omega) hq ha, fun q hq => by omega⟩⟩
theorem PsOk.skip {z i s : Nat} {out : Nat → Nat} {c : Bool} (h : PsOk H W g z out c i s) (hs : As H W g s i → out i = out (sdP W i s)) : PsOk H W g z out c i (s + 1) :=
  ⟨h.ok, h.yes, fun hc => ⟨(h.no hc).1, (h.no hc).2.1, fun q hq hq2 ha => by
    by_cases e : q = s
    · subst e; exact hs ha
    · exact (h.no hc).2.2 q (by omega) hq2 ha⟩⟩
theorem sdP_ne {i s : Nat} (hW : 0 < W) : i ≠ sdP W i s := by unfold sdP; split <;> omega
theorem PsOk.join {z i s : Nat} {out : Nat → Nat} {c : Bool} (hW : 0 < W) (hs : s < 2) (h : PsOk H W g z out c i s) (ha : As H W g s i) (hne : out i ≠ out (sdP W i s)) : PsOk H W g z (joinL out i (sdP W i s)) true i (s + 1) := by
  have hd := ha.ad hs
  have hlt := join_sum hd.1 hd.2.1 (sdP_ne (i := i) (s := s) hW) hne
  refine ⟨h.ok.join hd, fun _ => ?_, fun h => (nomatch h)⟩
  cases c with
  | true => have := h.yes rfl; omega
  | false => have := (h.no rfl).1; omega
theorem PsOk.fin {z : Nat} {out : Nat → Nat} (h : PsOk H W g z out false (H * W) 0) {L : Nat → Nat} (hL : IsLab (Ad H W g) L) : ∀ i, i < H * W → out i = L i :=
  hL.is (fun i k ha => ⟨ha.1, ha.2.1⟩) h.ok fun i k ha => by
    obtain ⟨s, hs, hA, rfl⟩ := As.of_ad ha
    exact (h.no rfl).2.1 i s ha.1 hs hA
end
end Go.Proofs.Ytpimjkhfookipaa
