/- What laws ask that mark an automaton that came in. No conditions. -/
import Derived.Test.YtfgpmjboplollaaFnZ
import Derived.Test.YtfgpmjboplollaaLawLib4
namespace Go.Proofs.Ytfgpmjboplollaa
open Go.RowKit Go.Proofs
set_option linter.unusedSimpArgs false
set_option linter.unusedVariables false

abbrev oldA (N : Nat) (a e : List Int) (s : List (List (List Int))) : V := .agg 3 fun i => oldV N (autF a e s i)
theorem bare_seq {n : Nat} {f : Nat → V} (Z : Nat → Prop) : Bare (.old Z (.seq 1 n f)) (.seq 1 n f) := VE.rfl' (.seq 1 n f)
theorem oldA_bare (N : Nat) (a e : List Int) (s : List (List (List Int))) : Bare (oldA N a e s) (autV a e s) := ⟨rfl, fun i hi => by
  rcases (show i = 0 ∨ i = 1 ∨ i = 2 by omega) with rfl | rfl | rfl <;> exact bare_seq _⟩
theorem oldA_one (N : Nat) (a e : List Int) (s : List (List (List Int))) (i : Nat) (hi : i < 3) : (oldV N (autF a e s i)).one = true := by
  rcases (show i = 0 ∨ i = 1 ∨ i = 2 by omega) with rfl | rfl | rfl <;> rfl
theorem oldA_keeps {N : Nat} {a e : List Int} {s : List (List (List Int))} {T : Nat → Prop} (hT : ∀ b, T b → N ≤ b) (i : Nat) (hi : i < 3) : Keeps T (oldV N (autF a e s i)) := by
  rcases (show i = 0 ∨ i = 1 ∨ i = 2 by omega) with rfl | rfl | rfl <;> exact fun b hb hb' => by have := hT b hb'; have hb : b < N := hb; omega
abbrev atA (F z : Nat → V) : V := .agg 3 fun i => if i < 3 then F i else z i
theorem atA_bare {a e : List Int} {s : List (List (List Int))} {F : Nat → V} (z : Nat → V) (h : isAut a e s F) : Bare (atA F z) (autV a e s) := ⟨rfl, fun i hi => by
  show Bare (if i < 3 then F i else z i) _
  rw [if_pos hi]
  exact h.bare.2 i hi⟩
theorem bareV (v : Value) : Bare (.val v) (.val v) := rfl
theorem bareA (a e : List Int) (s : List (List (List Int))) : Bare (autV a e s) (autV a e s) := ⟨rfl, fun i hi => by
  rcases (show i = 0 ∨ i = 1 ∨ i = 2 by omega) with rfl | rfl | rfl
  · exact VE.rfl' (ints a)
  · exact VE.rfl' (ints e)
  · exact VE.rfl' (mats s)⟩

theorem isAut.ge {N : Nat} {q : (Nat → Prop) → Prop} {F : Nat → V} (h : NewV (fun Z => (∀ b, Z b → N ≤ b) ∧ q Z) (.agg 3 F)) : ∀ b, Zof (.agg 3 F) b → N ≤ b := NewV.ge h

theorem sumV_le (s : List (List (List Int))) : ∀ k, sumV s k ≤ sumT s k
  | 0 => Nat.le_refl _
  | k + 1 => by
    have := sumV_le s k
    have e : tM (matAt s k) = (matAt s k).length + sumM (matAt s k) (matAt s k).length := rfl
    show sumV s k + sumM (matAt s k) (matAt s k).length ≤ sumT s k + tM (matAt s k)
    omega

theorem markAt_mz {a e : List Int} {s : List (List (List Int))} {F : Nat → V} {z : Nat → V} (h : isAut a e s F) (ht : totA a e s ≤ 1099511627776) :
    FnMz Try.prog 19 (atA F z) 1 (1 + (a.length : Int) + (e.length : Int) + (sumV s s.length : Int)) (Zof (.agg 3 F)) [(F 0, mkA a e s F 0), (F 1, mkA a e s F 1), (F 2, mkA a e s F 2)] := by
  have h1 := sumV_le s s.length
  have e1 : totA a e s = a.length + e.length + s.length + sumT s s.length := rfl
  have hm := markAutomaton_mz h (by omega) (fun i hi => by have := sumT_le s hi; have e2 : tM (matAt s i) = (matAt s i).length + sumM (matAt s i) (matAt s i).length := rfl; omega) (by omega)
  refine ⟨hm.entry, fun b hb => ?_, fun w S u hr => hm.runs w S u (VE.rd (atA F z) (.agg 3 F) u ⟨rfl, fun i hi => VE.of_eq (if_pos hi)⟩ hr)⟩
  obtain ⟨i, hi, Z, hZ, hb⟩ := Zof.agg hb
  exact ⟨Z, .inAgg _ _ i hi (by show ZIn Z (if i < 3 then F i else z i); rw [if_pos hi]; exact hZ), hb⟩

theorem zkeep {T : Nat → Prop} {ps : List (V × V)} {v : V} (h : Keeps T v) : ZStep T ps v v := .inl ⟨h, rfl⟩

end Go.Proofs.Ytfgpmjboplollaa
