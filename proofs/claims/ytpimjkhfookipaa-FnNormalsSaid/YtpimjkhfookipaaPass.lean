/- A callee that hands its argument back as it came, or nil. No conditions. -/
import Derived.Test.YtpimjkhfookipaaFnA
import Derived.Test.YtpimjkhfookipaaEngH
import Derived.WalkKit
namespace Go.Proofs.Ytpimjkhfookipaa
open Go.RowKit Go.Proofs
set_option linter.unusedSimpArgs false
set_option linter.unusedVariables false

/-- A function that hands its argument, read as v, back as it came with true, or nil with false. -/
structure FnPass (P : Program) (f : FuncId) (v : V) (ok : Bool) : Prop where
  entry : ∀ (args : Array Value) (w : World), (callFunc f args).run P w = .ok (.enter f args) w
  runs : ∀ (w : World) (u : Value), Gl w → Rd w (fun _ => True) v u → Calls P f #[u] w fun e w' => e = .returned (.tuple #[if ok = true then u else .slice none 0 0, .bool ok]) ∧ Below w.heap.size w w'

def passK (P : Program) (f : FuncId) (x : Operand) (d : Nat) (s : ASt) (K : ASt → Prop) : Prop :=
  ∃ (id sz n : Nat) (blk : Blk) (ok : Bool), opd s x = some (.one (.own id sz 0 n)) ∧ s.h[id]? = some (some blk) ∧ 0 + n * sz ≤ blk.n ∧ d < s.nt ∧ FnPass P f (.seq sz n fun i => blk.f (0 + i)) ok ∧
    (ok = true → K (putS s d (.many [.own id sz 0 n, .pv (vb true)]))) ∧ (ok = false → K (putS s d (.many [.pv (.val (.slice none 0 0)), .pv (vb false)])))

theorem pass_rule {N : Nat} {P : Program} {f : FuncId} {x : Operand} {d ty : Nat} {ts : Array TypeId} {pos : String} {after : Array Edge} :
    OpRule N P ⟨some d, .call ⟨.value (.func f), #[x], ts⟩, ty, pos, after, none⟩ (fun s K => passK P f x d s K) := by
  refine ⟨rfl, fun w0 S0 s φ a w K next Q hN sim h hn => ?_⟩
  obtain ⟨id, sz, n, blk, ok, hx, hb, hle, hd, hf, h1, h2⟩ := h
  have hrun : (execOp a.eval ⟨some d, .call ⟨.value (.func f), #[x], ts⟩, ty, pos, after, none⟩).run P w = .ok (.enter f #[a.eval x]) w := by
    have e : execOp a.eval ⟨some d, .call ⟨.value (.func f), #[x], ts⟩, ty, pos, after, none⟩ = callFunc f (#[] ++ #[x].map a.eval ++ #[]) := rfl
    rw [e, hf.entry]
    congr 2
    rw [← Array.toList_inj]
    simp
  unfold Oper.wp
  rw [hrun, Oper.upon_enter]
  refine (hf.runs w _ sim.gl (sim.own_seq hb hle (sim.opd hx))).mono ?_
  rintro e w' ⟨rfl, hbel⟩
  have sim' := sim.after hbel
  cases ok with
  | true => exact hn _ _ _ (h1 rfl) ⟨φ, sim'.put hd ⟨_, rfl, sim'.opd hx, rfl, trivial⟩⟩
  | false => exact hn _ _ _ (h2 rfl) ⟨φ, sim'.put hd ⟨_, rfl, rfl, rfl, trivial⟩⟩

theorem pass_go {P : Program} {f : FuncId} {x : Operand} {d : Nat} {s : ASt} {K : ASt → Prop} {id sz n : Nat} {blk : Blk} {ok : Bool} (hx : opd s x = some (.one (.own id sz 0 n))) (hb : s.h[id]? = some (some blk)) (hl : 0 + n * sz ≤ blk.n) (hd : d < s.nt)
    (hf : FnPass P f (.seq sz n fun i => blk.f (0 + i)) ok) (h1 : ok = true → K (putS s d (.many [.own id sz 0 n, .pv (vb true)]))) (h2 : ok = false → K (putS s d (.many [.pv (.val (.slice none 0 0)), .pv (vb false)]))) : passK P f x d s K :=
  ⟨id, sz, n, blk, ok, hx, hb, hl, hd, hf, h1, h2⟩

/-- A region that hands a slice through such a callee. -/
theorem AWP.region_pass1 [Cx] {N : Nat} {P : Program} {id : Nat} {o1 p1 p2 p3 p4 : Oper} {f : FuncId} {x : Operand} {d ty : Nat} {ts : Array TypeId} {pos : String} {after : Array Edge} {Q : Exit → ASt → Prop} {s : ASt}
    (h : evOps P false [o1, ⟨some d, .call ⟨.value (.func f), #[x], ts⟩, ty, pos, after, none⟩, p1, p2, p3, p4] [o1] (fun s' => passK P f x d s' (evOps P false [o1, ⟨some d, .call ⟨.value (.func f), #[x], ts⟩, ty, pos, after, none⟩, p1, p2, p3, p4] [p1, p2, p3, p4] (Q .normal))) s) :
    AWP N P (.region id #[o1, ⟨some d, .call ⟨.value (.func f), #[x], ts⟩, ty, pos, after, none⟩, p1, p2, p3, p4] false) Q s :=
  AWP.region_rule (os1 := [o1]) (os2 := [p1, p2, p3, p4]) pass_rule h

end Go.Proofs.Ytpimjkhfookipaa
