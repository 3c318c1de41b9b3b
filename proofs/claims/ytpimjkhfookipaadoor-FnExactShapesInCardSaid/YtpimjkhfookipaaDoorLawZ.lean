/- What laws ask that mark an automaton that came in. No conditions. -/
import Derived.Test.YtpimjkhfookipaaDoorFnZ
import Derived.Test.YtpimjkhfookipaaDoorLawLib
namespace Go.Proofs.YtpimjkhfookipaaDoor
open Go.RowKit Go.Proofs
set_option linter.unusedSimpArgs false
set_option linter.unusedVariables false

abbrev oldA (N : Nat) (a e : List Int) (s : List (List (List Int))) : V := .agg 3 fun i => oldV N (autF a e s i)
theorem bare_seq {n : Nat} {f : Nat → V} (Z : Nat → Prop) : Bare (.old Z (.seq 1 n f)) (.seq 1 n f) := VE.rfl' (.seq 1 n f)
theorem oldA_bare (N : Nat) (a e : List Int) (s : List (List (List Int))) : Bare (oldA N a e s) (autV a e s) := ⟨rfl, fun i hi => by
  rcases (show i = 0 ∨ i = 1 ∨ i = 2 by omega) with rfl | rfl | rfl <;> exact bare_seq _⟩
theorem oldA_one (N : Nat) (a e : List Int) (s : List (List (List Int))) (i : Nat) (hi : i < 3) : (oldV N (autF a e s i)).one = true := by
  rcases (show i = 0 ∨ i = 1 ∨ i = 2 by omega) with rfl | rfl | rfl <;> rfl
theorem oldA_keeps {N : Nat} {a e : List Int} {s : List (List (List Int))} {T : Nat → Prop} (hT : ∀ b, T b → N ≤ b) (i : Nat) (hi : i < 3) : Keeps T (oldV N (autF a e s i)) := by
  rcases (show i = 0 ∨ i = 1 ∨ i = 2 by omega) with rfl | rfl | rfl <;> exact fun b hb hb' => by have := hT b hb'; have hb : b < N := hb; omega
abbrev atA (F z : Nat → V) : V := .agg 3 fun i => if i < 3 then F i else z i
theorem atA_bare {a e : List Int} {s : List (List (List Int))} {F : Nat → V} (z : Nat → V) (h : isAut a e s F) : Bare (atA F z) (autV a e s) := ⟨rfl, fun i hi => by
  show Bare (if i < 3 then F i else z i) _
  rw [if_pos hi]
  exact h.bare.2 i hi⟩
theorem bareV (v : Value) : Bare (.val v) (.val v) := rfl
theorem bareA (a e : List Int) (s : List (List (List Int))) : Bare (autV a e s) (autV a e s) := ⟨rfl, fun i hi => by
  rcases (show i = 0 ∨ i = 1 ∨ i = 2 by omega) with rfl | rfl | rfl
  · exact VE.rfl' (ints a)
  · exact VE.rfl' (ints e)
  · exact VE.rfl' (mats s)⟩

theorem isAut.ge {N : Nat} {q : (Nat → Prop) → Prop} {F : Nat → V} (h : NewV (fun Z => (∀ b, Z b → N ≤ b) ∧ q Z) (.agg 3 F)) : ∀ b, Zof (.agg 3 F) b → N ≤ b := NewV.ge h

theorem sumV_le (s : List (List (List Int))) : ∀ k, sumV s k ≤ sumT s k
  | 0 => Nat.le_refl _
  | k + 1 => by
    have := sumV_le s k
    have e : tM (matAt s k) = (matAt s k).length + sumM (matAt s k) (matAt s k).length := rfl
    show sumV s k + sumM (matAt s k) (matAt s k).length ≤ sumT s k + tM (matAt s k)
    omega

theorem zkeep {T : Nat → Prop} {ps : List (V × V)} {v : V} (h : Keeps T v) : ZStep T ps v v := .inl ⟨h, rfl⟩

open Go.RowKit Go.Proofs
set_option linter.unusedSimpArgs false
set_option linter.unusedVariables false

/-- What a marked list of rows reads as. -/
def heldM (m : List (List Int)) (k : Int) : V := .seq 1 m.length fun i => .seq 1 (rowAt m i).length fun j => vi (k + sumM m i + j)
def heldMs (s : List (List (List Int))) (k : Int) : V := .seq 1 s.length fun i => heldM (matAt s i) (k + sumV s i)
def heldF (a e : List Int) (s : List (List (List Int))) : Nat → V
  | 0 => .seq 1 a.length fun j => vi (1 + j)
  | 1 => .seq 1 e.length fun j => vi (1 + (a.length : Int) + j)
  | _ => heldMs s (1 + (a.length : Int) + (e.length : Int))
theorem mkM_bare {m : List (List Int)} {v : V} (h : isMat m v) (k : Int) : Bare (mkM m k v) (heldM m k) := by
  obtain ⟨u, Z, F, rfl, h⟩ := h
  refine ⟨rfl, rfl, fun i hi => ?_⟩
  obtain ⟨ui, Zi, e⟩ := (h i (by omega)).1
  show Bare (mk1 (k + sumM m i) (F i)) _
  rw [e]
  exact ⟨rfl, rfl, fun j hj => rfl⟩

theorem mkMs_bare {s : List (List (List Int))} {v : V} (h : isMats s v) (k : Int) : Bare (mkMs s k v) (heldMs s k) := by
  obtain ⟨u, Z, F, rfl, h⟩ := h
  exact ⟨rfl, rfl, fun i hi => mkM_bare (h i (by omega)).1 _⟩

end Go.Proofs.YtpimjkhfookipaaDoor
