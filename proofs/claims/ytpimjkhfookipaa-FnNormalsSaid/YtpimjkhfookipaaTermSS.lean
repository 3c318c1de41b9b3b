/- Lists of lists of terms: sizes, copies, comparisons, marks. Conditions: lists no longer than 2^40. -/
import Derived.Test.YtpimjkhfookipaaFnPl3
import Derived.Test.YtpimjkhfookipaaMarkT
import Derived.Test.YtpimjkhfookipaaFnZ
namespace Go.Proofs.Ytpimjkhfookipaa
open Go.RowKit Go.Proofs
set_option linter.unusedSimpArgs false
set_option linter.unusedVariables false
theorem sz_termss : elemSz Try.prog 73 = some 1 := by kernel_rfl
theorem c_terms : cellsIn Try.prog 63 = some none := by kernel_rfl
theorem c_termss : cellsIn Try.prog 73 = some none := by kernel_rfl
theorem ei_termss : elemInfo Try.prog 73 = some (63, [.slice none 0 0]) := by kernel_rfl
theorem ea_termss : elemAgg Try.prog 73 = some false := by kernel_rfl

abbrev tsAt (L : List (List T3)) (i : Nat) : List T3 := L.getD i []
abbrev termss (L : List (List T3)) : V := .seq 1 L.length fun i => terms (tsAt L i)
def isT (l : List T3) (v : V) : Prop := ∃ (u : Value) (Z : Nat → Prop), v = .row u Z 3 l.length fun j => vi (tf l j)
def isTS (L : List (List T3)) (v : V) : Prop := isL L.length (fun i => isT (tsAt L i)) v
theorem isT.new {l : List T3} {v : V} (h : isT l v) : NewV (fun _ => True) v := by obtain ⟨u, Z, rfl⟩ := h; exact ⟨trivial, fun _ _ => trivial⟩
theorem isT.one {l : List T3} {v : V} (h : isT l v) : v.one = true := by obtain ⟨u, Z, rfl⟩ := h; rfl
theorem isT.bare {l : List T3} {v : V} (h : isT l v) : Bare v (terms l) := by obtain ⟨u, Z, rfl⟩ := h; exact ⟨rfl, rfl, fun i hi => rfl⟩
theorem isTS.new {L : List (List T3)} {v : V} (h : isTS L v) : NewV (fun _ => True) v := isL.new (fun _ _ h => h.new) h
theorem isTS.bare {L : List (List T3)} {v : V} (h : isTS L v) : Bare v (termss L) := isL.bare (fun _ _ _ h => h.bare) h
theorem zofT {u : Value} {Z : Nat → Prop} {n : Nat} {g : Nat → Int} {b : Nat} : Zof (.row u Z 3 n fun j => vi (g j)) b ↔ Z b := by
  constructor
  · rintro ⟨Z', h, hb⟩
    cases h with
    | row => exact hb
    | inRow _ _ _ _ _ i _ h => cases h
  · intro h; exact ⟨Z, .row _ _ _ _, h⟩
end Go.Proofs.Ytpimjkhfookipaa
