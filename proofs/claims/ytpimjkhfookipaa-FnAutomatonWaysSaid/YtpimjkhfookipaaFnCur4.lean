/- Drawn bounds: some lists. No conditions but that the cursor has not been moved 2^39 times. -/
import Derived.Test.YtpimjkhfookipaaFnCur3
import Derived.Test.YtpimjkhfookipaaFnB
namespace Go.Proofs.Ytpimjkhfookipaa
open Go.RowKit Go.Proofs
theorem z_cur : zeroOf Try.prog 113 = some [.slice none 0 0, .int .i64 0, .int .u64 0] := by kernel_rfl
theorem pl_cur : placesOf Try.prog 113 = some [(0, 1), (1, 1), (2, 1)] := by kernel_rfl
theorem fc_0 : fieldIn Try.prog 113 0 = some (0, none) := by kernel_rfl
set_option linter.unusedSimpArgs false
set_option linter.unusedVariables false
set_option maxRecDepth 20000

/-- Two lists of which p holds. -/
def some2L (p : List Int → Prop) : Res → Prop := fun r => ∃ l h : List Int, (p l ∧ p h) ∧ r = .many [.fr 1 l.length (bints l), .fr 1 h.length (bints h)]
theorem some2L.shape {p : List Int → Prop} (r : Res) (h : some2L p r) : r.shape 2 = true := by obtain ⟨x, y, _, rfl⟩ := h; rfl
section
variable {b m : Nat} {Z : Nat → Prop} {g : Nat → Int}

end

open Go.RowKit Go.Proofs
set_option linter.unusedSimpArgs false
set_option linter.unusedVariables false
set_option maxRecDepth 20000

theorem AWP.letCur_rg [Cx] {P : Program} {N id : Nat} {ops : Array Oper} {d : Bool} {Q : Exit → ASt → Prop} {s : ASt} (t : Nat) {i : Nat} {blk : Blk} {Z : Nat → Prop} {c : V} (ht : lookup s.σ t = some (.one (.ptr i 0))) (hb : s.h[i]? = some (some blk)) (hn : Nat.ble 3 blk.n = true) (h0 : blk.f 0 = .old Z c) (h1 : blk.f 1 = .val (.int .i64 0)) (h2 : blk.f 2 = .val (.int .u64 0)) (hZ : ∀ j, Z j → j < N)
    (h : ∀ b, N ≤ b → AWP N P (.region id ops d) Q ⟨upd s.σ t (.one (.pv (.cur b 0 Z c))), s.h.set i none, s.nt⟩) : AWP N P (.region id ops d) Q s :=
  AWP.letCur t ⟨i, blk, Z, c, ht, hb, Nat.le_of_ble_eq_true hn, h0, h1, h2, hZ, fun b hb _ => h b hb⟩

/-- Three lists of which p holds. -/
def some3L (p : List Int → Prop) : Res → Prop := fun r => ∃ l h q : List Int, (p l ∧ p h ∧ p q) ∧ r = .many [.fr 1 l.length (bints l), .fr 1 h.length (bints h), .fr 1 q.length (bints q)]
theorem some3L.shape {p : List Int → Prop} (r : Res) (h : some3L p r) : r.shape 3 = true := by obtain ⟨x, y, z, _, rfl⟩ := h; rfl
/-- Two lists of which p holds, and an integer. -/
def some2I (p : List Int → Prop) : Res → Prop := fun r => ∃ (l h : List Int) (x : Int), (p l ∧ p h ∧ big64 x) ∧ r = .many [.fr 1 l.length (bints l), .fr 1 h.length (bints h), .pv (vi x)]
theorem some2I.shape {p : List Int → Prop} (r : Res) (h : some2I p r) : r.shape 3 = true := by obtain ⟨x, y, z, _, rfl⟩ := h; rfl

section
variable {m : Nat} {g : Nat → Int}
end

end Go.Proofs.Ytpimjkhfookipaa
