/- Copies of lists of lists and of automata lie in new memory. Conditions: lists no longer than 2^40. -/
import Derived.Test.YtpimjkhfookipaaDoorRowz
import Derived.Test.YtpimjkhfookipaaDoorFnAut
import Derived.Test.YtpimjkhfookipaaDoorLawLib
namespace Go.Proofs.YtpimjkhfookipaaDoor
open Go.RowKit Go.Proofs
set_option linter.unusedSimpArgs false
set_option linter.unusedVariables false

/-- Parts of a list that is being filled. -/
def partL (N n k : Nat) (p : Nat → V → Prop) (F : Nat → V) : Prop := k ≤ n ∧ ∀ i, i < k → p i (F i) ∧ (∀ b, Zof (F i) b → N ≤ b) ∧ ∀ j, j < k → j ≠ i → Apart (F i) (F j)
/-- A filled list. -/
def fullL (n : Nat) (e : TypeId) (p : Nat → V → Prop) : Res → Prop := fun r => ∃ F : Nat → V, (∀ i, i < n → p i (F i) ∧ ∀ j, j < n → j ≠ i → Apart (F i) (F j)) ∧ r = .one (.fr 1 n ⟨e, n, F⟩)
theorem fullL.shape {n : Nat} {e : TypeId} {p : Nat → V → Prop} (r : Res) (h : fullL n e p r) : r.shape 1 = true := by obtain ⟨F, _, rfl⟩ := h; rfl
def oneL (p : V → Prop) : Res → Prop := fun r => ∃ v, p v ∧ r = .one (.pv v)
theorem oneL.shape {p : V → Prop} (r : Res) (h : oneL p r) : r.shape 1 = true := by obtain ⟨F, _, rfl⟩ := h; rfl

theorem partL.grow {N n k : Nat} {p : Nat → V → Prop} {F : Nat → V} {v : V} (h : partL N n k p F) (hk : k < n) (hp : p k v) (hN : ∀ b, Zof v b → N ≤ b) (hd : ∀ i, i < k → Apart (F i) v) : partL N n (k + 1) p (fun i => if i = k then v else F i) := by
  refine ⟨by omega, fun i hi => ?_⟩
  by_cases e : i = k
  · subst e
    simp only [if_true]
    exact ⟨hp, hN, fun j hj hne => by rw [if_neg hne]; exact (hd j (by omega)).symm⟩
  · simp only [if_neg e]
    obtain ⟨h1, h2, h3⟩ := h.2 i (by omega)
    refine ⟨h1, h2, fun j hj hne => ?_⟩
    by_cases e2 : j = k
    · subst e2; rw [if_pos rfl]; exact hd i (by omega)
    · rw [if_neg e2]; exact h3 j (by omega) hne

theorem FnE.full_row {P : Program} {f : FuncId} {vs : List V} {n : Nat} {e : TypeId} {p : Nat → V → Prop} (h : FnE P f vs (fullL n e p)) : FnE P f vs (oneL (isL n p)) := by
  refine (h.toRow fun r ⟨F, _, hr⟩ => ⟨1, n, _, hr, by simp⟩).weaken ?_
  rintro r ⟨sz, n', b, u0, Z, ⟨F, hF, hr⟩, hz, rfl⟩
  injection hr with hr
  injection hr with h1 h2 h3
  subst h1 h2 h3
  refine ⟨_, ⟨u0, Z, F, rfl, fun i hi => ⟨(hF i hi).1, fun b hb ⟨Z', hZ, hb'⟩ => hz i (by omega) Z' hZ b hb hb', (hF i hi).2⟩⟩, rfl⟩

theorem FnE.row1 {P : Program} {f : FuncId} {vs : List V} {l : List Int} (h : Fn P f vs (.one (.fr 1 l.length (bints l)))) : FnE P f vs (oneL (isRow l)) :=
  (h.toRow (by simp [bints]) (fun i _ => ⟨_, rfl⟩)).weaken fun r ⟨u0, Z, hr⟩ => ⟨_, ⟨u0, Z, rfl⟩, hr⟩

theorem zst_blk {s : ASt} {id : Nat} {blk : Blk} {i : Nat} {v : V} {Z : Nat → Prop} (h1 : s.h[id]? = some (some blk)) (h2 : i < blk.n) (h3 : blk.f i = v) (h4 : ZIn Z v) : ZSt Z s := .inr ⟨id, blk, i, h1, h2, by rw [h3]; exact h4⟩
theorem zst_slot {s : ASt} {t : Nat} {v : V} {Z : Nat → Prop} (h1 : lookup s.σ t = some (.one (.pv v))) (h4 : ZIn Z v) : ZSt Z s := .inl ⟨t, v, h1, h4⟩
theorem NewV.apart {N : Nat} {s : ASt} {v v' : V} (h : NewV (fun Z => (∀ b, Z b → N ≤ b) ∧ ∀ Z', ZSt Z' s → Disj Z' Z) v) (h' : ∀ Z, ZIn Z v' → ZSt Z s) : Apart v' v := fun b ⟨Z', hZ', hb'⟩ ⟨Z, hZ, hb⟩ => (NewV.zin hZ h).2 Z' (h' Z' hZ') b hb' hb

theorem NewV.of_zof {N : Nat} : ∀ {v : V}, NewV (fun _ => True) v → (∀ b, Zof v b → N ≤ b) → NewV (fun Z => ∀ b, Z b → N ≤ b) v
  | .val _, _, _ => trivial
  | .row u Z sz n f, hv, h => ⟨fun b hb => h b ⟨Z, .row _ _ _ _, hb⟩, fun i hi => NewV.of_zof (hv.2 i hi) fun b ⟨Z', hZ, hb⟩ => h b ⟨Z', .inRow _ _ _ _ _ i hi hZ, hb⟩⟩
  | .grow u Z e sz n f, hv, h => ⟨fun b hb => h b ⟨Z, .grow _ _ _ _ _, hb⟩, fun i hi => NewV.of_zof (hv.2 i hi) fun b ⟨Z', hZ, hb⟩ => h b ⟨Z', .inGrow _ _ _ _ _ _ i hi hZ, hb⟩⟩
  | .agg n f, hv, h => fun i hi => NewV.of_zof (hv i hi) fun b ⟨Z', hZ, hb⟩ => h b ⟨Z', .inAgg _ _ i hi hZ, hb⟩
  | .seq _ _ _, hv, _ => hv.elim
  | .pin _ _, hv, _ => hv.elim
  | .clo _ _ _, hv, _ => hv.elim
  | .old _ _, hv, _ => hv.elim
  | .cur _ _ _ _, hv, _ => hv.elim

theorem isRow.isOne {l : List Int} {v : V} (h : isRow l v) : ∃ u Z n f, v = V.row u Z 1 n f := by obtain ⟨u, Z, rfl⟩ := h; exact ⟨_, _, _, _, rfl⟩

theorem if3 {α : Type} {i k : Nat} {v x : α} {F : Nat → α} : (if i = k then v else if i < k then F i else x) = (if i < k + 1 then (if i = k then v else F i) else x) := by
  by_cases h1 : i = k
  · subst h1; simp
  · by_cases h2 : i < k
    · simp [h1, h2, show i < k + 1 by omega]
    · simp [h1, h2, show ¬ i < k + 1 by omega]

theorem isAut.mk {a e : List Int} {s : List (List (List Int))} {v0 v1 v2 : V} (h0 : isRow a v0) (h1 : isRow e v1) (h2 : isMats s v2) (a01 : Apart v0 v1) (a02 : Apart v0 v2) (a12 : Apart v1 v2) : isAut a e s (fun i => if i = 0 then v0 else if i = 1 then v1 else v2) := by
  refine ⟨h0, h1, h2, fun i hi j hj hne => ?_⟩
  rcases (show i = 0 ∨ i = 1 ∨ i = 2 by omega) with rfl | rfl | rfl <;> rcases (show j = 0 ∨ j = 1 ∨ j = 2 by omega) with rfl | rfl | rfl <;>
    first | exact (hne rfl).elim | exact a01 | exact a02 | exact a12 | exact a01.symm | exact a02.symm | exact a12.symm

/-- An automaton in new memory. -/
def autL (a e : List Int) (s : List (List (List Int))) : Res → Prop := fun r => ∃ F, isAut a e s F ∧ r = .one (.pv (.agg 3 F))

abbrev oldA (N : Nat) (a e : List Int) (s : List (List (List Int))) : V := .agg 3 fun i => oldV N (autF a e s i)
theorem bare_seq {n : Nat} {f : Nat → V} (Z : Nat → Prop) : Bare (.old Z (.seq 1 n f)) (.seq 1 n f) := VE.rfl' (.seq 1 n f)
theorem oldA_bare (N : Nat) (a e : List Int) (s : List (List (List Int))) : Bare (oldA N a e s) (autV a e s) := ⟨rfl, fun i hi => by
  rcases (show i = 0 ∨ i = 1 ∨ i = 2 by omega) with rfl | rfl | rfl <;> exact bare_seq _⟩
theorem oldA_one (N : Nat) (a e : List Int) (s : List (List (List Int))) (i : Nat) (hi : i < 3) : (oldV N (autF a e s i)).one = true := by
  rcases (show i = 0 ∨ i = 1 ∨ i = 2 by omega) with rfl | rfl | rfl <;> rfl
theorem oldA_keeps {N : Nat} {a e : List Int} {s : List (List (List Int))} {T : Nat → Prop} (hT : ∀ b, T b → N ≤ b) (i : Nat) (hi : i < 3) : Keeps T (oldV N (autF a e s i)) := by
  rcases (show i = 0 ∨ i = 1 ∨ i = 2 by omega) with rfl | rfl | rfl <;> exact fun b hb hb' => by have := hT b hb'; have hb : b < N := hb; omega
abbrev atA (F z : Nat → V) : V := .agg 3 fun i => if i < 3 then F i else z i
theorem atA_bare {a e : List Int} {s : List (List (List Int))} {F : Nat → V} (z : Nat → V) (h : isAut a e s F) : Bare (atA F z) (autV a e s) := ⟨rfl, fun i hi => by
  show Bare (if i < 3 then F i else z i) _
  rw [if_pos hi]
  exact h.bare.2 i hi⟩
theorem bareV (v : Value) : Bare (.val v) (.val v) := rfl
theorem bareA (a e : List Int) (s : List (List (List Int))) : Bare (autV a e s) (autV a e s) := ⟨rfl, fun i hi => by
  rcases (show i = 0 ∨ i = 1 ∨ i = 2 by omega) with rfl | rfl | rfl
  · exact VE.rfl' (ints a)
  · exact VE.rfl' (ints e)
  · exact VE.rfl' (mats s)⟩

theorem isAut.ge {N : Nat} {q : (Nat → Prop) → Prop} {F : Nat → V} (h : NewV (fun Z => (∀ b, Z b → N ≤ b) ∧ q Z) (.agg 3 F)) : ∀ b, Zof (.agg 3 F) b → N ≤ b := NewV.ge h

theorem sumV_le (s : List (List (List Int))) : ∀ k, sumV s k ≤ sumT s k
  | 0 => Nat.le_refl _
  | k + 1 => by
    have := sumV_le s k
    have e : tM (matAt s k) = (matAt s k).length + sumM (matAt s k) (matAt s k).length := rfl
    show sumV s k + sumM (matAt s k) (matAt s k).length ≤ sumT s k + tM (matAt s k)
    omega

theorem zkeep {T : Nat → Prop} {ps : List (V × V)} {v : V} (h : Keeps T v) : ZStep T ps v v := .inl ⟨h, rfl⟩

open Go.RowKit Go.Proofs
set_option linter.unusedSimpArgs false
set_option linter.unusedVariables false

/-- What a marked list of rows reads as. -/
def heldM (m : List (List Int)) (k : Int) : V := .seq 1 m.length fun i => .seq 1 (rowAt m i).length fun j => vi (k + sumM m i + j)
def heldMs (s : List (List (List Int))) (k : Int) : V := .seq 1 s.length fun i => heldM (matAt s i) (k + sumV s i)
def heldF (a e : List Int) (s : List (List (List Int))) : Nat → V
  | 0 => .seq 1 a.length fun j => vi (1 + j)
  | 1 => .seq 1 e.length fun j => vi (1 + (a.length : Int) + j)
  | _ => heldMs s (1 + (a.length : Int) + (e.length : Int))
theorem mkM_bare {m : List (List Int)} {v : V} (h : isMat m v) (k : Int) : Bare (mkM m k v) (heldM m k) := by
  obtain ⟨u, Z, F, rfl, h⟩ := h
  refine ⟨rfl, rfl, fun i hi => ?_⟩
  obtain ⟨ui, Zi, e⟩ := (h i (by omega)).1
  show Bare (mk1 (k + sumM m i) (F i)) _
  rw [e]
  exact ⟨rfl, rfl, fun j hj => rfl⟩

theorem mkMs_bare {s : List (List (List Int))} {v : V} (h : isMats s v) (k : Int) : Bare (mkMs s k v) (heldMs s k) := by
  obtain ⟨u, Z, F, rfl, h⟩ := h
  exact ⟨rfl, rfl, fun i hi => mkM_bare (h i (by omega)).1 _⟩

theorem mkA_bare {a e : List Int} {s : List (List (List Int))} {F : Nat → V} (z : Nat → V) (h : isAut a e s F) : Bare (atA (mkA a e s F) z) (.agg 3 (heldF a e s)) := by
  obtain ⟨⟨u0, Z0, h0⟩, ⟨u1, Z1, h1⟩, h2, _⟩ := h
  refine ⟨rfl, fun i hi => ?_⟩
  have hi : i < 3 := hi
  show Bare (if i < 3 then mkA a e s F i else z i) _
  rw [if_pos hi]
  rcases (show i = 0 ∨ i = 1 ∨ i = 2 by omega) with rfl | rfl | rfl
  · show Bare (mk1 1 (F 0)) _
    rw [h0]; exact ⟨rfl, rfl, fun j hj => rfl⟩
  · show Bare (mk1 (1 + (a.length : Int)) (F 1)) _
    rw [h1]; exact ⟨rfl, rfl, fun j hj => rfl⟩
  · exact mkMs_bare h2 _

end Go.Proofs.YtpimjkhfookipaaDoor
