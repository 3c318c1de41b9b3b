/- strings.Join and strings.Count as contracts. Conditions: results no longer than 2^47. -/
import Derived.Test.YtfgpmjboplollaaDoorFnA
import Derived.Test.YtfgpmjboplollaaDoorEngH
import Derived.Test.YtfgpmjboplollaaDoorPureStr
import Derived.Test.YtfgpmjboplollaaDoorShelf
namespace Go.Proofs.YtfgpmjboplollaaDoor
open Go.RowKit Go.Proofs
set_option linter.unusedSimpArgs false
set_option linter.unusedVariables false

/-- A contract out of a run that hands a scalar back. -/
theorem Fn.of_calls {P : Program} {f : FuncId} {vs : List V} {v : Value} (he : ∀ (args : Array Value) (w : World), (callFunc f args).run P w = .ok (.enter f args) w)
    (h : ∀ (w : World) (S0 : Nat → Prop) (us : List Value), RdL w S0 vs us → Calls P f us.toArray w fun e w' => e = .returned v ∧ Below w.heap.size w w') : Fn P f vs (.one (.pv (.val v))) := by
  refine ⟨he, fun w S0 us hus => (h w S0 us hus).mono ?_⟩
  rintro e w' ⟨rfl, hb⟩
  exact ⟨v, [], rfl, ⟨rfl, hb, fun id blk hi => by simp [bring, Res.list] at hi, fun i j bi bj b z z' hi => by simp [bring, Res.list] at hi⟩, rfl⟩

end Go.Proofs.YtfgpmjboplollaaDoor
