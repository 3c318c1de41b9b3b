/- Copies of lists of lists and of automata lie in new memory. Conditions: lists no longer than 2^40. -/
import Derived.Test.YtpimjkhfookipaaRowz
import Derived.Test.YtpimjkhfookipaaFnAut
import Derived.Test.YtpimjkhfookipaaLawLib
namespace Go.Proofs.Ytpimjkhfookipaa
open Go.RowKit Go.Proofs
set_option linter.unusedSimpArgs false
set_option linter.unusedVariables false

/-- Parts of a list that is being filled. -/
def partL (N n k : Nat) (p : Nat → V → Prop) (F : Nat → V) : Prop := k ≤ n ∧ ∀ i, i < k → p i (F i) ∧ (∀ b, Zof (F i) b → N ≤ b) ∧ ∀ j, j < k → j ≠ i → Apart (F i) (F j)
/-- A filled list. -/
def fullL (n : Nat) (e : TypeId) (p : Nat → V → Prop) : Res → Prop := fun r => ∃ F : Nat → V, (∀ i, i < n → p i (F i) ∧ ∀ j, j < n → j ≠ i → Apart (F i) (F j)) ∧ r = .one (.fr 1 n ⟨e, n, F⟩)
theorem fullL.shape {n : Nat} {e : TypeId} {p : Nat → V → Prop} (r : Res) (h : fullL n e p r) : r.shape 1 = true := by obtain ⟨F, _, rfl⟩ := h; rfl
def oneL (p : V → Prop) : Res → Prop := fun r => ∃ v, p v ∧ r = .one (.pv v)
theorem oneL.shape {p : V → Prop} (r : Res) (h : oneL p r) : r.shape 1 = true := by obtain ⟨F, _, rfl⟩ := h; rfl

theorem partL.grow {N n k : Nat} {p : Nat → V → Prop} {F : Nat → V} {v : V} (h : partL N n k p F) (hk : k < n) (hp : p k v) (hN : ∀ b, Zof v b → N ≤ b) (hd : ∀ i, i < k → Apart (F i) v) : partL N n (k + 1) p (fun i => if i = k then v else F i) := by
  refine ⟨by omega, fun i hi => ?_⟩
  by_cases e : i = k
  · subst e
    simp only [if_true]
    exact ⟨hp, hN, fun j hj hne => by rw [if_neg hne]; exact (hd j (by omega)).symm⟩
  · simp only [if_neg e]
    obtain ⟨h1, h2, h3⟩ := h.2 i (by omega)
    refine ⟨h1, h2, fun j hj hne => ?_⟩
    by_cases e2 : j = k
    · subst e2; rw [if_pos rfl]; exact hd i (by omega)
    · rw [if_neg e2]; exact h3 j (by omega) hne

theorem zst_blk {s : ASt} {id : Nat} {blk : Blk} {i : Nat} {v : V} {Z : Nat → Prop} (h1 : s.h[id]? = some (some blk)) (h2 : i < blk.n) (h3 : blk.f i = v) (h4 : ZIn Z v) : ZSt Z s := .inr ⟨id, blk, i, h1, h2, by rw [h3]; exact h4⟩
theorem zst_slot {s : ASt} {t : Nat} {v : V} {Z : Nat → Prop} (h1 : lookup s.σ t = some (.one (.pv v))) (h4 : ZIn Z v) : ZSt Z s := .inl ⟨t, v, h1, h4⟩
theorem NewV.apart {N : Nat} {s : ASt} {v v' : V} (h : NewV (fun Z => (∀ b, Z b → N ≤ b) ∧ ∀ Z', ZSt Z' s → Disj Z' Z) v) (h' : ∀ Z, ZIn Z v' → ZSt Z s) : Apart v' v := fun b ⟨Z', hZ', hb'⟩ ⟨Z, hZ, hb⟩ => (NewV.zin hZ h).2 Z' (h' Z' hZ') b hb' hb

theorem NewV.of_zof {N : Nat} : ∀ {v : V}, NewV (fun _ => True) v → (∀ b, Zof v b → N ≤ b) → NewV (fun Z => ∀ b, Z b → N ≤ b) v
  | .val _, _, _ => trivial
  | .row u Z sz n f, hv, h => ⟨fun b hb => h b ⟨Z, .row _ _ _ _, hb⟩, fun i hi => NewV.of_zof (hv.2 i hi) fun b ⟨Z', hZ, hb⟩ => h b ⟨Z', .inRow _ _ _ _ _ i hi hZ, hb⟩⟩
  | .grow u Z e sz n f, hv, h => ⟨fun b hb => h b ⟨Z, .grow _ _ _ _ _, hb⟩, fun i hi => NewV.of_zof (hv.2 i hi) fun b ⟨Z', hZ, hb⟩ => h b ⟨Z', .inGrow _ _ _ _ _ _ i hi hZ, hb⟩⟩
  | .agg n f, hv, h => fun i hi => NewV.of_zof (hv i hi) fun b ⟨Z', hZ, hb⟩ => h b ⟨Z', .inAgg _ _ i hi hZ, hb⟩
  | .seq _ _ _, hv, _ => hv.elim
  | .pin _ _, hv, _ => hv.elim
  | .clo _ _ _, hv, _ => hv.elim
  | .old _ _, hv, _ => hv.elim
  | .cur _ _ _ _, hv, _ => hv.elim

theorem isAut.mk {a e : List Int} {s : List (List (List Int))} {v0 v1 v2 : V} (h0 : isRow a v0) (h1 : isRow e v1) (h2 : isMats s v2) (a01 : Apart v0 v1) (a02 : Apart v0 v2) (a12 : Apart v1 v2) : isAut a e s (fun i => if i = 0 then v0 else if i = 1 then v1 else v2) := by
  refine ⟨h0, h1, h2, fun i hi j hj hne => ?_⟩
  rcases (show i = 0 ∨ i = 1 ∨ i = 2 by omega) with rfl | rfl | rfl <;> rcases (show j = 0 ∨ j = 1 ∨ j = 2 by omega) with rfl | rfl | rfl <;>
    first | exact (hne rfl).elim | exact a01 | exact a02 | exact a12 | exact a01.symm | exact a02.symm | exact a12.symm

theorem bare_seq {n : Nat} {f : Nat → V} (Z : Nat → Prop) : Bare (.old Z (.seq 1 n f)) (.seq 1 n f) := VE.rfl' (.seq 1 n f)
theorem isAut.ge {N : Nat} {q : (Nat → Prop) → Prop} {F : Nat → V} (h : NewV (fun Z => (∀ b, Z b → N ≤ b) ∧ q Z) (.agg 3 F)) : ∀ b, Zof (.agg 3 F) b → N ≤ b := NewV.ge h

open Go.RowKit Go.Proofs
set_option linter.unusedSimpArgs false
set_option linter.unusedVariables false

end Go.Proofs.Ytpimjkhfookipaa
