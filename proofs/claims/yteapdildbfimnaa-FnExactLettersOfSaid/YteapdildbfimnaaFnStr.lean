/- strings.Join and strings.Count as contracts. Conditions: results no longer than 2^47. -/
import Derived.Test.YteapdildbfimnaaFnA
import Derived.Test.YteapdildbfimnaaEngH
import Derived.Test.YteapdildbfimnaaPureMx
import Derived.Test.YteapdildbfimnaaShelf
namespace Go.Proofs.Yteapdildbfimnaa
open Go.RowKit Go.Proofs
set_option linter.unusedSimpArgs false
set_option linter.unusedVariables false

/-- A contract out of a run that hands a scalar back. -/
theorem Fn.of_calls {P : Program} {f : FuncId} {vs : List V} {v : Value} (he : ∀ (args : Array Value) (w : World), (callFunc f args).run P w = .ok (.enter f args) w)
    (h : ∀ (w : World) (S0 : Nat → Prop) (us : List Value), RdL w S0 vs us → Calls P f us.toArray w fun e w' => e = .returned v ∧ Below w.heap.size w w') : Fn P f vs (.one (.pv (.val v))) := by
  refine ⟨he, fun w S0 us hus => (h w S0 us hus).mono ?_⟩
  rintro e w' ⟨rfl, hb⟩
  exact ⟨v, [], rfl, ⟨rfl, hb, fun id blk hi => by simp [bring, Res.list] at hi, fun i j bi bj b z z' hi => by simp [bring, Res.list] at hi⟩, rfl⟩

theorem join_fn (l : List ByteArray) (sep : ByteArray) (hl : l.length ≤ 1099511627776) (hlen : (Lib.join (l.map (·.data.toList)) sep.data.toList).length ≤ 140737488355328) :
    Fn Try.prog 47 [strs l, vs sep] (.one (.pv (vs (joinB l sep)))) := by
  refine Fn.of_calls Try.call47 fun w S0 us hus => ?_
  match us, hus with
  | [u0, u1], ⟨h0, h1, _⟩ =>
    obtain rfl : u1 = .string sep := h1
    obtain ⟨A, c, rfl, hc, hr⟩ := h0
    rcases Nat.eq_zero_or_pos l.length with h | h
    · obtain rfl : l = [] := List.length_eq_zero_iff.1 h
      refine (Try.strings_Join_none _ _ sep w).mono ?_
      rintro e w' ⟨rfl, rfl⟩
      exact ⟨rfl, Below.refl _ _⟩
    · obtain ⟨b, off, rfl, hS, hr⟩ := hr (by omega)
      obtain ⟨x0, hx0, _⟩ := hr 0 (by omega)
      refine (Try.strings_Join b off c l sep w (fun j x hj => ?_) (block_of_cell hx0) (by omega) hc hlen).mono ?_
      · obtain ⟨hlt, rfl⟩ := List.getElem?_eq_some_iff.1 hj
        obtain ⟨y, hy, e⟩ := hr j (by omega)
        have e' : y = .string (stAt l j) := e
        subst e'
        rw [hy]
        simp [stAt, List.getD, hlt]
      · rintro e w' ⟨rfl, hb⟩
        exact ⟨rfl, hb⟩

theorem count_fn (s : ByteArray) (c : UInt8) : Fn Try.prog 84 [vs s, vs ⟨#[c]⟩] (.one (.pv (vi (Lib.countByte s.data.toList c)))) := by
  refine Fn.of_calls Try.call84 fun w S0 us hus => ?_
  match us, hus with
  | [u0, u1], ⟨h0, h1, _⟩ =>
    obtain rfl : u1 = .string ⟨#[c]⟩ := h1
    obtain rfl : u0 = .string s := h0
    refine (Try.strings_Count_one s c w).mono ?_
    rintro e w' ⟨rfl, rfl⟩
    exact ⟨rfl, Below.refl _ _⟩

end Go.Proofs.Yteapdildbfimnaa
