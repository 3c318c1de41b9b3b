/- From a law's contract to the given statement: what a slice that came in reads as. No conditions. -/
import Derived.Test.YtpimjkhfookipaaEngE
import Derived.Test.YtpimjkhfookipaaRows
import Derived.ProofKit
import Derived.OpenShut
import Derived.ShutString
import Derived.ChangeOld
import Derived.Test.YtpimjkhfookipaaPureMx
import Derived.SliceStrings
import Derived.Deep.Matrix
import Derived.Deep.Slices
import Derived.Lib.SmallJoins
namespace Go.Proofs.Ytpimjkhfookipaa
set_option linter.unusedSimpArgs false
set_option linter.unusedVariables false
open Go.ChangeShapes Go.WideShapes Go.ChangeAt Go.RowKit

theorem own : ownKnob Try.prog.godebug = none := by kernel_rfl
theorem laidOut : laidOutB Try.prog = true := by kernel_rfl

/-- A slice of integers that came in. -/
def IsRow (k : IntKind) (w : World) (a : Option Addr) (len cap : Nat) (zs : List Int) : Prop :=
  (a = none ∧ len = 0 ∧ cap = 0 ∧ zs = []) ∨
  ∃ x, a = some x ∧ len ≤ cap ∧ cap ≤ maxLen ∧ zs.length = cap ∧ (∀ i, i < zs.length → w.cell? (x.add i) = some (.int k (zs.getD i 0))) ∧ ∀ n ∈ zs, (Lit.int k n).wf = true

theorem IsRow.rd {w : World} {a : Option Addr} {len cap : Nat} {zs : List Int} (h : IsRow .i64 w a len cap zs) : ∃ l : List Int, Rd w (fun _ => True) (ints l) (.slice a len cap) := by
  rcases h with ⟨rfl, rfl, rfl, rfl⟩ | ⟨x, rfl, h1, _, h3, h4, _⟩
  · exact ⟨[], none, 0, rfl, Nat.le_refl _, fun h => by simp at h⟩
  · refine ⟨zs.take len, some x, cap, ?_, ?_, fun hp => ?_⟩
    · simp [h3, h1]
    · simp [h3, h1]
    · have hl : (zs.take len).length = len := by simp [h3, h1]
      rw [hl, Nat.mul_one] at hp ⊢
      have hx := h4 0 (by omega)
      have hs : x.spot = none := by
        have e : x.add 0 = x := rfl
        rw [e] at hx
        unfold World.cell? at hx
        split at hx
        · split at hx
          · cases hx
          · simpa using ‹¬ x.spot.isSome = true›
        · cases hx
      obtain ⟨b, off, spot⟩ := x
      simp only at hs; subst hs
      refine ⟨b, off, rfl, trivial, fun i hi => ⟨_, by rw [← add_none]; exact h4 i (by omega), ?_⟩⟩
      show Value.int .i64 _ = Value.int .i64 _
      congr 1
      simp [List.getD, hi]

theorem Fn.holds_true {P : Program} {f : FuncId} {vs : List V} (h : Fn P f vs (.one (.pv (vb true)))) {w : World} {us : List Value} (hr : RdL w (fun _ => True) vs us) :
    Calls P f us.toArray w fun e w' => e = .returned (.bool true) ∧ Below w.heap.size w w' :=
  (h.runs w (fun _ => True) us hr).mono fun e w' ⟨u, φ, he, hh, hs⟩ => ⟨by rw [he]; exact congrArg _ hs, hh.below⟩

open Go.ChangeShapes Go.WideShapes Go.ChangeAt Go.RowKit
set_option linter.unusedSimpArgs false
set_option linter.unusedVariables false

theorem spot_of_cell {w : World} {x : Addr} {v : Value} (h : w.cell? x = some v) : x.spot = none := by
  unfold World.cell? at h
  split at h
  · split at h
    · cases h
    · simpa using ‹¬ x.spot.isSome = true›
  · cases h

theorem add_zero_addr (x : Addr) : x.add 0 = x := rfl

section
variable {H : Type} {enc : TypeId × Value → H} {P : Program} {w : World} {base : Nat} {held : Bool}

end

open Go.ChangeShapes Go.WideShapes Go.ChangeAt Go.RowKit Go.Deep
set_option linter.unusedSimpArgs false
set_option linter.unusedVariables false

section
variable {H : Type} {enc : TypeId × Value → H} {P : Program} {w : World} {base : Nat} {held : Bool}

end

open Go.ChangeShapes Go.WideShapes Go.ChangeAt Go.RowKit Go.Deep Go.Joins
set_option linter.unusedSimpArgs false
set_option linter.unusedVariables false

section
variable {H : Type} {enc : TypeId × Value → H} {P : Program} {w : World} {base : Nat} {held : Bool}

end

end Go.Proofs.Ytpimjkhfookipaa
