/- Parts of the proof of LawFnCatalogues: contracts of functions, laws of an abstract state, plain facts. No conditions. -/
import Derived.Test.YteapdildbfimnaaGreatDoorB02
import Derived.WalkKit
import Derived.Orders
import Derived.Deep.LoopGhost
import Derived.Lib.Walk
import Derived.Test.YteapdildbfimnaaGreatDoorRows
import Derived.ProofKit
import Derived.OpenShut
import Derived.ShutString
import Derived.ChangeOld
import Derived.SliceStrings
import Derived.Deep.Matrix
import Derived.Deep.Slices
import Derived.Lib.SmallJoins
namespace Go.Proofs.YteapdildbfimnaaGreatDoor
open Go.RowKit Go.Proofs
set_option linter.unusedSimpArgs false
set_option linter.unusedVariables false

theorem within_fn (n lo hi : Int) : Fn Tryz.prog 72 [vi n, vi lo, vi hi] (.one (.pv (vb (inB n lo hi)))) := by
  refine Fn.of_body Tryz.call72 Tryz.func72 rfl Tryz.ntmps72 (ts := [6]) rfl (by simp) rfl (fun N => ?_)
  repeat' (first | (with_reducible first | refine then_normal ?_ | refine then_ret ?_ | refine then_exit ?_ | refine block_normal ?_ | refine block_ret ?_) | ((with_reducible show blockQ _ _ _ _); first | refine block_exit ?_ | refine block_exit_ne rfl ?_) | ((with_reducible show AWP _ _ _ _ _); first | (with_reducible first | refine AWP.seq ?_ | refine AWP.block ?_ | refine AWP.region ?_ | refine AWP.ret ?_ | refine AWP.exit ?_ | refine AWP.skip ?_) | refine AWP.drawn rfl (by kernel_rfl) ?_ | refine AWP.cond rfl ?_ ?_) | with_reducible refine ev_nil ?_ | ((first | ((with_reducible show evOps _ _ _ _ _ _); (first | refine ev_step rfl ?_ | refine ev_undef rfl rfl rfl ?_); intro K hK) | ((with_reducible show EvOpen _ _ _ _ _ _ _); refine ev_open ?_; intro K hK) | ((with_reducible show SkOpen _ _ _ _ _ _ _); refine sk_open ?_; intro K hK) | ((with_reducible show callK _ _ _ _ _ _ _ _); first | fail)); simp only [evOp, evQ, binK, withS, opd, kput, putS, upd, lookup, skipOp, slotsOf, Nat.reduceEqDiff, Nat.reduceAdd, Nat.reduceLT, Nat.zero_add, ↓reduceIte, eq_self, true_and, and_true, Bool.not_true, Bool.true_eq_false, Bool.false_eq_true, false_implies, forall_const]) | refine ev_guard rfl rfl rfl ?_ ?_ | ((with_reducible show retQ _ _ _ _); simp only [retQ, retOk, getL, lookup, Option.map_some, fitsL, fits, ND, srcs, Res.list, VE, Value.bool.injEq, Nat.reduceEqDiff, ↓reduceIte, and_true]) | (with_reducible refine hK _ ?_; clear hK K) | (with_reducible refine And.intro ?_ ?_) | (with_reducible intro hc; try simp only [decide_eq_true_eq, decide_eq_false_iff_not, Bool.not_true, Int.not_le, ge_iff_le, reduceCtorEq, Bool.true_eq_false] at hc) | omega)
  all_goals (simp [inB]; try omega)

theorem l1In_fn (n lo hi : Int) : Fn Tryz.prog 69 [vi n, vi lo, vi hi] (.one (.pv (vb (inB n lo hi)))) := by
  refine Fn.of_body Tryz.call69 Tryz.func69 rfl Tryz.ntmps69 (ts := [6]) rfl (by simp) rfl (fun N => ?_)
  repeat' (first | (with_reducible first | refine then_normal ?_ | refine then_ret ?_ | refine then_exit ?_ | refine block_normal ?_ | refine block_ret ?_) | ((with_reducible show blockQ _ _ _ _); first | refine block_exit ?_ | refine block_exit_ne rfl ?_) | ((with_reducible show AWP _ _ _ _ _); first | (with_reducible first | refine AWP.seq ?_ | refine AWP.block ?_ | refine AWP.region ?_ | refine AWP.ret ?_ | refine AWP.exit ?_ | refine AWP.skip ?_) | refine AWP.drawn rfl (by kernel_rfl) ?_ | refine AWP.cond rfl ?_ ?_) | with_reducible refine ev_nil ?_ | ((first | ((with_reducible show evOps _ _ _ _ _ _); (first | refine ev_step rfl ?_ | refine ev_undef rfl rfl rfl ?_); intro K hK) | ((with_reducible show EvOpen _ _ _ _ _ _ _); refine ev_open ?_; intro K hK) | ((with_reducible show SkOpen _ _ _ _ _ _ _); refine sk_open ?_; intro K hK) | ((with_reducible show callK _ _ _ _ _ _ _ _); first | fail)); simp only [evOp, evQ, binK, withS, opd, kput, putS, upd, lookup, skipOp, slotsOf, Nat.reduceEqDiff, Nat.reduceAdd, Nat.reduceLT, Nat.zero_add, ↓reduceIte, eq_self, true_and, and_true, Bool.not_true, Bool.true_eq_false, Bool.false_eq_true, false_implies, forall_const]) | refine ev_guard rfl rfl rfl ?_ ?_ | ((with_reducible show retQ _ _ _ _); simp only [retQ, retOk, getL, lookup, Option.map_some, fitsL, fits, ND, srcs, Res.list, VE, Value.bool.injEq, Nat.reduceEqDiff, ↓reduceIte, and_true]) | (with_reducible refine hK _ ?_; clear hK K) | (with_reducible refine And.intro ?_ ?_) | (with_reducible intro hc; try simp only [decide_eq_true_eq, decide_eq_false_iff_not, Bool.not_true, Int.not_le, ge_iff_le, reduceCtorEq, Bool.true_eq_false] at hc) | omega)
  all_goals (simp [inB]; try omega)

theorem isFinite_fn (n : Int) : Fn Tryz.prog 73 [vi n] (.one (.pv (vb (finB n)))) := by
  refine Fn.of_body Tryz.call73 Tryz.func73 rfl Tryz.ntmps73 (ts := [2]) rfl (by simp) rfl (fun N => ?_)
  repeat' (first | (with_reducible first | refine then_normal ?_ | refine then_ret ?_ | refine then_exit ?_ | refine block_normal ?_ | refine block_ret ?_) | ((with_reducible show blockQ _ _ _ _); first | refine block_exit ?_ | refine block_exit_ne rfl ?_) | ((with_reducible show AWP _ _ _ _ _); first | (with_reducible first | refine AWP.seq ?_ | refine AWP.block ?_ | refine AWP.region ?_ | refine AWP.ret ?_ | refine AWP.exit ?_ | refine AWP.skip ?_) | refine AWP.drawn rfl (by kernel_rfl) ?_ | refine AWP.cond rfl ?_ ?_) | with_reducible refine ev_nil ?_ | ((first | ((with_reducible show evOps _ _ _ _ _ _); (first | refine ev_step rfl ?_ | refine ev_undef rfl rfl rfl ?_); intro K hK) | ((with_reducible show EvOpen _ _ _ _ _ _ _); refine ev_open ?_; intro K hK) | ((with_reducible show SkOpen _ _ _ _ _ _ _); refine sk_open ?_; intro K hK) | ((with_reducible show callK _ _ _ _ _ _ _ _); first | fail)); simp only [evOp, evQ, binK, withS, opd, kput, putS, upd, lookup, skipOp, slotsOf, Nat.reduceEqDiff, Nat.reduceLT, ↓reduceIte, eq_self, true_and, and_true, Bool.not_true, Bool.true_eq_false, Bool.false_eq_true, false_implies, forall_const]) | refine ev_guard rfl rfl rfl ?_ ?_ | ((with_reducible show retQ _ _ _ _); simp only [retQ, retOk, getL, lookup, Option.map_some, fitsL, fits, ND, srcs, Res.list, VE, Value.bool.injEq, Nat.reduceEqDiff, ↓reduceIte, and_true]) | (with_reducible refine hK _ ?_; clear hK K) | (with_reducible refine And.intro ?_ ?_) | (with_reducible intro hc; try simp only [decide_eq_true_eq, decide_eq_false_iff_not, Bool.not_true, Int.not_le, ge_iff_le, reduceCtorEq, Bool.true_eq_false] at hc) | omega)
  all_goals (simp [finB]; try omega)

end Go.Proofs.YteapdildbfimnaaGreatDoor
namespace Go.Proofs.YteapdildbfimnaaGreatDoor
open Go.RowKit Go.Proofs
set_option linter.unusedSimpArgs false
set_option linter.unusedVariables false

theorem l1Least_fn (a b : Int) : Fn Tryz.prog 70 [vi a, vi b] (.one (.pv (vi (if a < b then a else b)))) := by
  refine Fn.of_body Tryz.call70 Tryz.func70 rfl Tryz.ntmps70 (ts := [4]) rfl (by simp) rfl (fun N => ?_)
  repeat' (first | (with_reducible first | refine then_normal ?_ | refine then_ret ?_ | refine then_exit ?_ | refine block_normal ?_ | refine block_ret ?_) | ((with_reducible show blockQ _ _ _ _); first | refine block_exit ?_ | refine block_exit_ne rfl ?_) | ((with_reducible show AWP _ _ _ _ _); first | (with_reducible first | refine AWP.seq ?_ | refine AWP.block ?_ | refine AWP.region ?_ | refine AWP.ret ?_ | refine AWP.exit ?_ | refine AWP.skip ?_) | refine AWP.drawn rfl (by kernel_rfl) ?_ | refine AWP.cond rfl ?_ ?_) | with_reducible refine ev_nil ?_ | ((first | ((with_reducible show evOps _ _ _ _ _ _); (first | refine ev_step rfl ?_ | refine ev_undef rfl rfl rfl ?_); intro K hK) | ((with_reducible show EvOpen _ _ _ _ _ _ _); refine ev_open ?_; intro K hK) | ((with_reducible show SkOpen _ _ _ _ _ _ _); refine sk_open ?_; intro K hK) | ((with_reducible show callK _ _ _ _ _ _ _ _); first | fail)); simp only [evOp, evQ, binK, withS, opd, kput, putS, upd, lookup, slotsOf, Nat.reduceEqDiff, Nat.reduceLT, Nat.zero_add, ↓reduceIte, eq_self, true_and]) | refine ev_guard rfl rfl rfl ?_ ?_ | ((with_reducible show retQ _ _ _ _); simp only [retQ, retOk, getL, lookup, Option.map_some, fitsL, fits, ND, srcs, Res.list, VE, Value.int.injEq, Nat.reduceEqDiff, ↓reduceIte, and_true, true_and]) | (with_reducible refine hK _ ?_; clear hK K) | (with_reducible refine And.intro ?_ ?_) | (with_reducible intro hc; try simp only [decide_eq_true_eq, decide_eq_false_iff_not, Int.not_lt] at hc) | omega)
  all_goals first | (rw [if_pos ‹_›]; done) | (rw [if_neg (by omega)]; done)

theorem min_if (a b : Int) : (if a < b then a else b) = min a b := by rw [Int.min_def]; split <;> split <;> omega
end Go.Proofs.YteapdildbfimnaaGreatDoor
namespace Go.Proofs.YteapdildbfimnaaGreatDoor
open Go.RowKit Go.Proofs
set_option linter.unusedSimpArgs false
set_option linter.unusedVariables false

/-- A function that hands its argument, read as v, back as it came with true, or nil with false. -/
structure FnPass (P : Program) (f : FuncId) (v : V) (ok : Bool) : Prop where
  entry : ∀ (args : Array Value) (w : World), (callFunc f args).run P w = .ok (.enter f args) w
  runs : ∀ (w : World) (u : Value), Gl w → Rd w (fun _ => True) v u → Calls P f #[u] w fun e w' => e = .returned (.tuple #[if ok = true then u else .slice none 0 0, .bool ok]) ∧ Below w.heap.size w w'

def passK (P : Program) (f : FuncId) (x : Operand) (d : Nat) (s : ASt) (K : ASt → Prop) : Prop :=
  ∃ (id sz n : Nat) (blk : Blk) (ok : Bool), opd s x = some (.one (.own id sz 0 n)) ∧ s.h[id]? = some (some blk) ∧ 0 + n * sz ≤ blk.n ∧ d < s.nt ∧ FnPass P f (.seq sz n fun i => blk.f (0 + i)) ok ∧
    (ok = true → K (putS s d (.many [.own id sz 0 n, .pv (vb true)]))) ∧ (ok = false → K (putS s d (.many [.pv (.val (.slice none 0 0)), .pv (vb false)])))

theorem pass_rule {N : Nat} {P : Program} {f : FuncId} {x : Operand} {d ty : Nat} {ts : Array TypeId} {pos : String} {after : Array Edge} :
    OpRule N P ⟨some d, .call ⟨.value (.func f), #[x], ts⟩, ty, pos, after, none⟩ (fun s K => passK P f x d s K) := by
  refine ⟨rfl, fun w0 S0 s φ a w K next Q hN sim h hn => ?_⟩
  obtain ⟨id, sz, n, blk, ok, hx, hb, hle, hd, hf, h1, h2⟩ := h
  have hrun : (execOp a.eval ⟨some d, .call ⟨.value (.func f), #[x], ts⟩, ty, pos, after, none⟩).run P w = .ok (.enter f #[a.eval x]) w := by
    have e : execOp a.eval ⟨some d, .call ⟨.value (.func f), #[x], ts⟩, ty, pos, after, none⟩ = callFunc f (#[] ++ #[x].map a.eval ++ #[]) := rfl
    rw [e, hf.entry]
    congr 2
    rw [← Array.toList_inj]
    simp
  unfold Oper.wp
  rw [hrun, Oper.upon_enter]
  refine (hf.runs w _ sim.gl (sim.own_seq hb hle (sim.opd hx))).mono ?_
  rintro e w' ⟨rfl, hbel⟩
  have sim' := sim.after hbel
  cases ok with
  | true => exact hn _ _ _ (h1 rfl) ⟨φ, sim'.put hd ⟨_, rfl, sim'.opd hx, rfl, trivial⟩⟩
  | false => exact hn _ _ _ (h2 rfl) ⟨φ, sim'.put hd ⟨_, rfl, rfl, rfl, trivial⟩⟩

theorem pass_go {P : Program} {f : FuncId} {x : Operand} {d : Nat} {s : ASt} {K : ASt → Prop} {id sz n : Nat} {blk : Blk} {ok : Bool} (hx : opd s x = some (.one (.own id sz 0 n))) (hb : s.h[id]? = some (some blk)) (hl : 0 + n * sz ≤ blk.n) (hd : d < s.nt)
    (hf : FnPass P f (.seq sz n fun i => blk.f (0 + i)) ok) (h1 : ok = true → K (putS s d (.many [.own id sz 0 n, .pv (vb true)]))) (h2 : ok = false → K (putS s d (.many [.pv (.val (.slice none 0 0)), .pv (vb false)]))) : passK P f x d s K :=
  ⟨id, sz, n, blk, ok, hx, hb, hl, hd, hf, h1, h2⟩

/-- A region that hands a slice through such a callee. -/
theorem AWP.region_pass1 [Cx] {N : Nat} {P : Program} {id : Nat} {o1 p1 p2 p3 p4 : Oper} {f : FuncId} {x : Operand} {d ty : Nat} {ts : Array TypeId} {pos : String} {after : Array Edge} {Q : Exit → ASt → Prop} {s : ASt}
    (h : evOps P false [o1, ⟨some d, .call ⟨.value (.func f), #[x], ts⟩, ty, pos, after, none⟩, p1, p2, p3, p4] [o1] (fun s' => passK P f x d s' (evOps P false [o1, ⟨some d, .call ⟨.value (.func f), #[x], ts⟩, ty, pos, after, none⟩, p1, p2, p3, p4] [p1, p2, p3, p4] (Q .normal))) s) :
    AWP N P (.region id #[o1, ⟨some d, .call ⟨.value (.func f), #[x], ts⟩, ty, pos, after, none⟩, p1, p2, p3, p4] false) Q s :=
  AWP.region_rule (os1 := [o1]) (os2 := [p1, p2, p3, p4]) pass_rule h

end Go.Proofs.YteapdildbfimnaaGreatDoor
namespace Go.Proofs.YteapdildbfimnaaGreatDoor
set_option linter.unusedSimpArgs false
set_option linter.unusedVariables false
open Go.RowKit

/-- The orders in which what is left may come: at most two operations may come up at a time. -/
inductive Tr where
  | done
  | one (i : Nat) (t : Tr)
  | two (i : Nat) (t : Tr) (j : Nat) (u : Tr)

def unguarded (ops : List Oper) : Bool := ops.all fun o => o.guard.isNone

/-- One operation, by its number. -/
def evAt (P : Program) (q : Bool) (ops : List Oper) (i : Nat) (K : ASt → Prop) (s : ASt) : Prop :=
  match ops[i]? with
  | some o => evOp P q o K s
  | none => False

def evTake (P : Program) (ops : List Oper) (K : ASt → Prop) : List Nat → ASt → Prop
  | [], s => K s
  | k :: ks, s => evAt P true ops k (evTake P ops K ks) s

section
variable {P : Program} {w0 : World} {S0 : Nat → Prop}

/-- The post-condition of a region that ends well. -/
def Ends (w0 : World) (S0 : Nat → Prop) (K : ASt → Prop) : Exit → Act → World → Prop := fun e a w => e = .normal ∧ ∃ s, K s ∧ Sim w0 S0 s a w

theorem unguarded_get {ops : List Oper} (h : unguarded ops = true) {i : Nat} {o : Oper} (hi : ops[i]? = some o) : o.guard = none := by
  have := List.all_eq_true.1 h o (List.mem_of_getElem? hi)
  simpa using this

theorem evAt_ok {ops : List Oper} (hu : unguarded ops = true) {i : Nat} {K : ASt → Prop} {s : ASt} {φ : List (Option (Nat × Nat))} {a : Act} {w : World} (sim : SimAt w0 S0 s φ a w) (h : evAt P false ops i K s)
    {next : Act → World → Prop} {Q : Exit → Act → World → Prop} (hn : ∀ s' a' w', K s' → Sim w0 S0 s' a' w' → next a' w') : wpOp P ops.toArray Q i next a w := by
  unfold evAt at h
  split at h
  · rename_i o ho
    unfold wpOp
    rw [show ops.toArray[i]? = some o by simpa using ho]
    simp only []
    rw [if_pos (by simp [Region.wanted, unguarded_get hu ho])]
    exact .inl (evOp_plain sim h hn)
  · exact h.elim

/-- A pure operation yields its value whatever the world. -/
theorem evOp_pure {ops : Array Oper} {o : Oper} {K : ASt → Prop} {s : ASt} {φ : List (Option (Nat × Nat))} {a : Act} {w : World} (sim : SimAt w0 S0 s φ a w) (hg : o.guard = none) (hc : noCall o = true) (hl : noLoad o = true) (h : evOp P true o K s) :
    ∃ s' v, K s' ∧ SimAt w0 S0 s' φ (a.put o.dst v) w ∧ Go.Yields P ops o v a := by
  obtain ⟨dst, op, ty, pos, after, guard⟩ := o
  unfold evOp at h
  split at h
  · rename_i f args ts d hop hdst
    simp only at hop hdst
    subst hop hdst
    simp [noCall] at hc
  · rename_i t args ts d hop hdst
    simp only at hop hdst
    subst hop hdst
    simp [noCall] at hc
  · exact absurd h.1 (by simp)
  · exact absurd h.1 (by simp)
  · exact absurd h.1 (by simp)
  · exact absurd h.1 (by simp)
  · exact absurd h.1 (by simp)
  · exact absurd h.1 (by simp)
  · exact absurd h.1 (by simp)
  · rename_i d hdst _ _ _ _ _ _ _ _
    simp only at hdst
    subst hdst
    obtain ⟨r, v, hK, hr, hrun⟩ := evQ_ok (o := ⟨some d, op, ty, pos, after, guard⟩) h.2 sim
    exact ⟨_, v, hK, sim.put h.1 hr, .inl ⟨by simp only at hg; simp [Region.wanted, hg], fun w' => hrun w' (.inl hl)⟩⟩
  · exact h.elim

/-- One of them, what stands behind it out of sight. -/
theorem take_step {ops : List Oper} {K : ASt → Prop} {k : Nat} {ks : List Nat} {s : ASt} {o : Oper} (ho : ops[k]? = some o) (h : ∀ K' : ASt → Prop, (∀ s', evTake P ops K ks s' → K' s') → evOp P true o K' s) : evTake P ops K (k :: ks) s := by
  show evAt P true ops k (evTake P ops K ks) s
  unfold evAt; rw [ho]; exact h _ fun _ h => h
theorem take_nil {ops : List Oper} {K : ASt → Prop} {s : ASt} (h : K s) : evTake P ops K [] s := h
end

set_option linter.unusedSimpArgs false
set_option linter.unusedVariables false
open Go.RowKit

/-- Orders: an operation is taken; one alone may come up; one may come up, or another (told by u). -/
inductive Nd where
  | done
  | take (i : Nat) (t : Nd)
  | one (i : Nat) (t : Nd)
  | alt (i : Nat) (t u : Nd)

/-- What may come up. -/
def Nd.heads : Nd → List Nat
  | .one i _ => [i]
  | .alt i _ u => i :: u.heads
  | _ => []

/-- The tree tells all orders. b: what may come up has been looked at. -/
def okNd (ops : Array Oper) : Bool → Nat → Array Bool → Nd → Bool
  | _, _, listed, .done => decide (Region.ready .any ops listed = [])
  | false, f + 1, listed, .take i t => (match ops[i]? with | some o => noCall o && noLoad o | none => false) && (Region.ready .any ops listed).contains i && Region.free .any ops listed i && okNd ops false f (listed.setIfInBounds i true) t
  | b, f + 1, listed, .one i t => (b || decide (Region.ready .any ops listed = [i])) && okNd ops false f (listed.setIfInBounds i true) t
  | b, f + 1, listed, .alt i t u => (b || decide (Region.ready .any ops listed = i :: u.heads)) && okNd ops false f (listed.setIfInBounds i true) t && okNd ops true (f + 1) listed u
  | _, _, _, _ => false

def evNd (P : Program) (ops : List Oper) (K : ASt → Prop) : Nd → ASt → Prop
  | .done, s => K s
  | .take i t, s => evAt P true ops i (evNd P ops K t) s
  | .one i t, s => evAt P false ops i (evNd P ops K t) s
  | .alt i t u, s => evAt P false ops i (evNd P ops K t) s ∧ evNd P ops K u s

section
variable {P : Program} {w0 : World} {S0 : Nat → Prop}

theorem evNd_ok {ops : List Oper} (hu : unguarded ops = true) (hs : Region.noSelect ops.toArray = true) {K : ASt → Prop} : ∀ (t : Nd) (b : Bool) (f : Nat) (listed : Array Bool) (s : ASt) (φ : List (Option (Nat × Nat))) (a : Act) (w : World),
    okNd ops.toArray b f listed t = true → SimAt w0 S0 s φ a w → evNd P ops K t s →
    (b = false → wpAny P .any ops.toArray (Ends w0 S0 K) f listed a w) ∧
    (b = true → ∀ g, f = g + 1 → ∀ j ∈ t.heads, wpOp P ops.toArray (Ends w0 S0 K) j (fun a' w' => wpAny P .any ops.toArray (Ends w0 S0 K) g (listed.setIfInBounds j true) a' w') a w)
  | .done, b, f, listed, s, φ, a, w, hB, sim, h => by
    refine ⟨fun _ => ?_, fun _ g _ j hj => by simp [Nd.heads] at hj⟩
    have hr : Region.ready .any ops.toArray listed = [] := by
      cases b <;> cases f <;> exact of_decide_eq_true hB
    exact wpAny_done hr ⟨rfl, s, h, φ, sim⟩ f
  | .take i t, true, f, listed, s, φ, a, w, hB, sim, h => by cases f <;> simp [okNd] at hB
  | .take i t, false, 0, listed, s, φ, a, w, hB, sim, h => by simp [okNd] at hB
  | .take i t, false, f + 1, listed, s, φ, a, w, hB, sim, h => by
    refine ⟨fun _ => ?_, fun hb => by cases hb⟩
    simp only [okNd, Bool.and_eq_true] at hB
    obtain ⟨⟨⟨h1, hr⟩, hf⟩, hB⟩ := hB
    change evAt P true ops i (evNd P ops K t) s at h
    unfold evAt at h
    split at h
    · rename_i o ho
      have ho' : ops.toArray[i]? = some o := by simpa using ho
      rw [ho'] at h1
      simp only [Bool.and_eq_true] at h1
      obtain ⟨s', v, hK, sim', hy⟩ := evOp_pure (ops := ops.toArray) sim (unguarded_get hu ho) h1.1 h1.2 h
      exact wpAny_take ho' hs hf hr (fun c a w hq => by cases hq.1) hy ((evNd_ok hu hs t false f _ s' φ _ w hB sim' hK).1 rfl)
    · exact h.elim
  | .one i t, b, 0, listed, s, φ, a, w, hB, sim, h => by cases b <;> simp [okNd] at hB
  | .one i t, b, f + 1, listed, s, φ, a, w, hB, sim, h => by
    have hB' : (b || decide (Region.ready .any ops.toArray listed = [i])) = true ∧ okNd ops.toArray false f (listed.setIfInBounds i true) t = true := by
      cases b <;> simpa [okNd] using hB
    have hop : wpOp P ops.toArray (Ends w0 S0 K) i (fun a' w' => wpAny P .any ops.toArray (Ends w0 S0 K) f (listed.setIfInBounds i true) a' w') a w :=
      evAt_ok hu sim h fun s' a' w' hK ⟨φ', sim'⟩ => (evNd_ok hu hs t false f _ s' φ' a' w' hB'.2 sim' hK).1 rfl
    refine ⟨fun hb => ?_, fun _ g hg j hj => ?_⟩
    · subst hb
      have hr : Region.ready .any ops.toArray listed = [i] := by simpa using hB'.1
      refine wpAny_all hr (by simp) fun j hj => ?_
      obtain rfl : j = i := by simpa using hj
      exact hop
    · obtain rfl : f = g := by omega
      obtain rfl : j = i := by simpa [Nd.heads] using hj
      exact hop
  | .alt i t u, b, 0, listed, s, φ, a, w, hB, sim, h => by cases b <;> simp [okNd] at hB
  | .alt i t u, b, f + 1, listed, s, φ, a, w, hB, sim, h => by
    have hB' : ((b || decide (Region.ready .any ops.toArray listed = i :: u.heads)) = true ∧ okNd ops.toArray false f (listed.setIfInBounds i true) t = true) ∧ okNd ops.toArray true (f + 1) listed u = true := by
      cases b <;> simpa [okNd] using hB
    have hop : wpOp P ops.toArray (Ends w0 S0 K) i (fun a' w' => wpAny P .any ops.toArray (Ends w0 S0 K) f (listed.setIfInBounds i true) a' w') a w :=
      evAt_ok hu sim h.1 fun s' a' w' hK ⟨φ', sim'⟩ => (evNd_ok hu hs t false f _ s' φ' a' w' hB'.1.2 sim' hK).1 rfl
    have hoth := (evNd_ok hu hs u true (f + 1) listed s φ a w hB'.2 sim h.2).2 rfl f rfl
    refine ⟨fun hb => ?_, fun _ g hg j hj => ?_⟩
    · subst hb
      have hr : Region.ready .any ops.toArray listed = i :: u.heads := by simpa using hB'.1.1
      refine wpAny_all hr (by simp) fun j hj => ?_
      rcases List.mem_cons.1 hj with rfl | hj
      · exact hop
      · exact hoth j hj
    · obtain rfl : f = g := by omega
      rcases List.mem_cons.1 (show j ∈ i :: u.heads from hj) with rfl | hj
      · exact hop
      · exact hoth j hj

/-- A region whose order is open: the tree tells all its orders. -/
theorem AWP.drawn_nd [Cx] {N : Nat} {id : Nat} {ops : List Oper} {Q : Exit → ASt → Prop} {s : ASt} (t : Nd) (hm : P.follows .mixedOrders = true)
    (hB : (unguarded ops && Region.noSelect ops.toArray && okNd ops.toArray false ops.toArray.size (Array.replicate ops.toArray.size false) t) = true)
    (h : evNd P ops (Q .normal) t s) : AWP N P (.region id ops.toArray true) Q s := by
  simp only [Bool.and_eq_true] at hB
  refine AWP.of0 ?_
  rintro w0 S0 a w hN ⟨φ, sim⟩
  have sim1 : SimAt w0 S0 s φ a { w with drawn := w.drawn + 1 } := sim.after ⟨rfl, rfl, rfl, Nat.le_refl _, fun _ _ => rfl⟩
  have := wp_region_any (P := P) (id := id) hm ((evNd_ok hB.1.1 hB.1.2 t false _ _ s φ a _ hB.2 sim1 h).1 rfl)
  refine wp_mono this fun e a' w' ⟨he, s', hK, hsim⟩ => ?_
  subst he
  exact ⟨s', hK, hsim⟩

theorem nd_done {ops : List Oper} {K : ASt → Prop} {s : ASt} (h : K s) : evNd P ops K .done s := h
theorem nd_take {ops : List Oper} {K : ASt → Prop} {k : Nat} {t : Nd} {s : ASt} {o : Oper} (ho : ops[k]? = some o) (h : ∀ K' : ASt → Prop, (∀ s', evNd P ops K t s' → K' s') → evOp P true o K' s) : evNd P ops K (.take k t) s := by
  show evAt P true ops k _ s
  unfold evAt; rw [ho]; exact h _ fun _ h => h
theorem nd_one {ops : List Oper} {K : ASt → Prop} {k : Nat} {t : Nd} {s : ASt} {o : Oper} (ho : ops[k]? = some o) (h : ∀ K' : ASt → Prop, (∀ s', evNd P ops K t s' → K' s') → evOp P false o K' s) : evNd P ops K (.one k t) s := by
  show evAt P false ops k _ s
  unfold evAt; rw [ho]; exact h _ fun _ h => h
def NdOpen (P : Program) (ops : List Oper) (K : ASt → Prop) (t : Nd) (o : Oper) (s : ASt) : Prop := ∀ K' : ASt → Prop, (∀ s', evNd P ops K t s' → K' s') → evOp P false o K' s
theorem nd_open {ops : List Oper} {K : ASt → Prop} {t : Nd} {o : Oper} {s : ASt} (h : ∀ K' : ASt → Prop, (∀ s', evNd P ops K t s' → K' s') → evOp P false o K' s) : NdOpen P ops K t o s := h
theorem nd_alt {ops : List Oper} {K : ASt → Prop} {k : Nat} {t u : Nd} {s : ASt} {o : Oper} (ho : ops[k]? = some o) (h : NdOpen P ops K t o s) (h' : evNd P ops K u s) : evNd P ops K (.alt k t u) s := by
  refine ⟨?_, h'⟩
  unfold evAt; rw [ho]; exact h _ fun _ h => h

end

end Go.Proofs.YteapdildbfimnaaGreatDoor
namespace Go.Proofs.YteapdildbfimnaaGreatDoor
open Go.RowKit Go.Proofs
set_option linter.unusedSimpArgs false
set_option linter.unusedVariables false

theorem poFiniteP_fn (n : Int) : Fn Tryz.prog 88 [vi n] (.one (.pv (vb (finB n)))) := by
  refine Fn.of_body Tryz.call88 Tryz.func88 rfl Tryz.ntmps88 (ts := [2]) rfl (by simp) rfl (fun N => ?_)
  repeat' (first | (with_reducible first | refine then_normal ?_ | refine then_ret ?_ | refine then_exit ?_ | refine block_normal ?_ | refine block_ret ?_) | ((with_reducible show blockQ _ _ _ _); first | refine block_exit ?_ | refine block_exit_ne rfl ?_) | ((with_reducible show AWP _ _ _ _ _); first | (with_reducible first | refine AWP.seq ?_ | refine AWP.block ?_ | refine AWP.region ?_ | refine AWP.ret ?_ | refine AWP.exit ?_ | refine AWP.skip ?_) | refine AWP.drawn rfl (by kernel_rfl) ?_ | refine AWP.cond rfl ?_ ?_) | with_reducible refine ev_nil ?_ | ((first | ((with_reducible show evOps _ _ _ _ _ _); (first | refine ev_step rfl ?_ | refine ev_undef rfl rfl rfl ?_); intro K hK) | ((with_reducible show EvOpen _ _ _ _ _ _ _); refine ev_open ?_; intro K hK) | ((with_reducible show SkOpen _ _ _ _ _ _ _); refine sk_open ?_; intro K hK) | ((with_reducible show callK _ _ _ _ _ _ _ _); first  | (refine call_scalar (l1In_fn n (-1000000) 1000000) (Nat.le_of_ble_eq_true rfl) rfl ?_))); simp only [evOp, evQ, withS, opd, kput, putS, upd, lookup, argsK, bringIn, bring, Res.list, Res.slot, slotsOf, List.reverse_cons, List.reverse_nil, List.nil_append, List.cons_append, Nat.reduceEqDiff, Nat.reduceLT, ↓reduceIte, eq_self, true_and]) | refine ev_guard rfl rfl rfl ?_ ?_ | ((with_reducible show retQ _ _ _ _); simp only [retQ, retOk, getL, lookup, Option.map_some, fitsL, fits, ND, srcs, Res.list, VE, Value.bool.injEq, Nat.reduceEqDiff, ↓reduceIte, and_true]) | (with_reducible refine hK _ ?_; clear hK K) | (with_reducible refine And.intro ?_ ?_) | (with_reducible intro hc; try simp only [eq_self] at hc) | omega)
  all_goals rfl

theorem three {i : Nat} (h : i < 3) : i = 0 ∨ i = 1 ∨ i = 2 := by omega

theorem compareTerms_fn (a b : T3) (ha : termB a = true) (hb : termB b = true) : Fn Tryz.prog 74 [term a, term b] (.one (.pv (vi (cmpI a b)))) := by
  have h1 := termB_iff.1 ha
  have h2 := termB_iff.1 hb
  refine Fn.of_body Tryz.call74 Tryz.func74 rfl Tryz.ntmps74 (ts := [4]) rfl (by simp) rfl (fun N => ?_)
  repeat' (first | (with_reducible first | refine then_normal ?_ | refine then_ret ?_ | refine then_exit ?_ | refine block_normal ?_ | refine block_ret ?_) | ((with_reducible show blockQ _ _ _ _); first | refine block_exit ?_ | refine block_exit_ne rfl ?_) | ((with_reducible show AWP _ _ _ _ _); first | (with_reducible first | refine AWP.seq ?_ | refine AWP.block ?_ | refine AWP.region ?_ | refine AWP.ret ?_ | refine AWP.exit ?_ | refine AWP.skip ?_) | refine AWP.drawn rfl (by kernel_rfl) ?_ | refine AWP.cond rfl ?_ ?_) | with_reducible refine ev_nil ?_ | ((first | ((with_reducible show evOps _ _ _ _ _ _); (first | refine ev_step rfl ?_ | refine ev_undef rfl rfl rfl ?_); intro K hK) | ((with_reducible show EvOpen _ _ _ _ _ _ _); refine ev_open ?_; intro K hK) | ((with_reducible show SkOpen _ _ _ _ _ _ _); refine sk_open ?_; intro K hK) | ((with_reducible show callK _ _ _ _ _ _ _ _); first | fail)); simp only [evOp, evQ, binK, withS, opd, kput, putS, upd, lookup, loadOwn, slotsOf, InK_i64, frz, newBlk, boxV, c_int, fi0, fi1, t3_0, t3_1, List.getElem?_cons_zero, List.getElem?_cons_succ, List.nil_append, List.cons_append, List.length_cons, List.length_nil, Nat.reduceEqDiff, Nat.reduceLT, Nat.add_zero, Nat.zero_add, ↓reduceIte, eq_self, true_and]) | refine ev_guard rfl rfl rfl ?_ ?_ | ((with_reducible show retQ _ _ _ _); simp only [retQ, retOk, getL, lookup, Option.map_some, fitsL, fits, ND, srcs, Res.list, VE, Value.int.injEq, Nat.reduceEqDiff, ↓reduceIte, and_true, true_and]) | (with_reducible refine hK _ ?_; clear hK K) | (with_reducible refine And.intro ?_ ?_) | (with_reducible intro hc; try simp only [bne_iff_ne, bne_eq_false_iff_eq, ne_eq] at hc) | omega)
  all_goals first
    | (unfold cmpI; rw [if_neg ‹_›]; done)
    | (unfold cmpI; rw [if_pos ‹_›]; done)
    | trace_state

theorem plTerm_fn (a : T3) : Fn Tryz.prog 67 [term a] (.one (.pv (vb (termB a)))) := by
  refine Fn.of_body Tryz.call67 Tryz.func67 rfl Tryz.ntmps67 (ts := [2]) rfl (by simp) rfl (fun N => ?_)
  repeat' (first | (with_reducible first | refine then_normal ?_ | refine then_ret ?_ | refine then_exit ?_ | refine block_normal ?_ | refine block_ret ?_) | ((with_reducible show blockQ _ _ _ _); first | refine block_exit ?_ | refine block_exit_ne rfl ?_) | ((with_reducible show AWP _ _ _ _ _); first | (with_reducible first | refine AWP.seq ?_ | refine AWP.block ?_ | refine AWP.region ?_ | refine AWP.ret ?_ | refine AWP.exit ?_ | refine AWP.skip ?_) | refine AWP.drawn rfl (by kernel_rfl) ?_ | refine AWP.cond rfl ?_ ?_) | with_reducible refine ev_nil ?_ | ((first | ((with_reducible show evOps _ _ _ _ _ _); (first | refine ev_step rfl ?_ | refine ev_undef rfl rfl rfl ?_); intro K hK) | ((with_reducible show EvOpen _ _ _ _ _ _ _); refine ev_open ?_; intro K hK) | ((with_reducible show SkOpen _ _ _ _ _ _ _); refine sk_open ?_; intro K hK) | ((with_reducible show callK _ _ _ _ _ _ _ _); first  | (refine call_scalar (l1In_fn _ _ _) (Nat.le_of_ble_eq_true rfl) rfl ?_) | (refine call_scalar (poFiniteP_fn _) (Nat.le_of_ble_eq_true rfl) rfl ?_))); simp only [evOp, evQ, binK, withS, opd, kput, putS, upd, lookup, skipOp, argsK, loadOwn, bringIn, bring, Res.list, Res.slot, slotsOf, InK_i64, frz, newBlk, boxV, c_int, fi0, fi1, fi2, t3_0, t3_1, t3_2, List.getElem?_cons_zero, List.reverse_cons, List.reverse_nil, List.nil_append, List.cons_append, List.length_nil, Nat.reduceEqDiff, Nat.reduceLT, Nat.add_zero, Nat.zero_add, ↓reduceIte, eq_self, true_and, and_true, Bool.not_true, Bool.true_eq_false, Bool.false_eq_true, false_implies, forall_const]) | refine ev_guard rfl rfl rfl ?_ ?_ | ((with_reducible show retQ _ _ _ _); simp only [retQ, retOk, getL, lookup, Option.map_some, fitsL, fits, ND, srcs, Res.list, VE, Value.bool.injEq, Nat.reduceEqDiff, ↓reduceIte, and_true]) | (with_reducible refine hK _ ?_; clear hK K) | (with_reducible refine And.intro ?_ ?_) | (with_reducible intro hc; try simp only [Bool.not_true, reduceCtorEq, inB_true, inB_false, Bool.true_eq_false] at hc) | omega)
  all_goals first
    | exact (termB_no (by omega)).symm
    | (unfold termB; rw [decide_eq_true (show 0 ≤ a.1 by omega), decide_eq_true (show 0 ≤ a.2.1 by omega), decide_eq_true (show a.1 + a.2.1 ≤ 6 by omega)]; rfl)
    | trace_state

theorem plBefore_fn (a b : T3) : Fn Tryz.prog 68 [term a, term b] (.one (.pv (vb (befB a b)))) := by
  refine Fn.of_body Tryz.call68 Tryz.func68 rfl Tryz.ntmps68 (ts := [4]) rfl (by simp) rfl (fun N => ?_)
  repeat' (first | (with_reducible first | refine then_normal ?_ | refine then_ret ?_ | refine then_exit ?_ | refine block_normal ?_ | refine block_ret ?_) | ((with_reducible show blockQ _ _ _ _); first | refine block_exit ?_ | refine block_exit_ne rfl ?_) | ((with_reducible show AWP _ _ _ _ _); first | (with_reducible first | refine AWP.seq ?_ | refine AWP.block ?_ | refine AWP.region ?_ | refine AWP.ret ?_ | refine AWP.exit ?_ | refine AWP.skip ?_) | refine AWP.drawn rfl (by kernel_rfl) ?_ | refine AWP.cond rfl ?_ ?_) | with_reducible refine ev_nil ?_ | ((first | ((with_reducible show evOps _ _ _ _ _ _); (first | refine ev_step rfl ?_ | refine ev_undef rfl rfl rfl ?_); intro K hK) | ((with_reducible show EvOpen _ _ _ _ _ _ _); refine ev_open ?_; intro K hK) | ((with_reducible show SkOpen _ _ _ _ _ _ _); refine sk_open ?_; intro K hK) | ((with_reducible show callK _ _ _ _ _ _ _ _); first | fail)); simp only [evOp, evQ, binK, withS, opd, kput, putS, upd, lookup, skipOp, loadOwn, slotsOf, frz, newBlk, boxV, c_int, fi0, fi1, t3_0, t3_1, List.getElem?_cons_zero, List.getElem?_cons_succ, List.nil_append, List.cons_append, List.length_cons, List.length_nil, Nat.reduceEqDiff, Nat.reduceLT, Nat.add_zero, Nat.zero_add, ↓reduceIte, eq_self, true_and, and_true, Bool.not_true, Bool.not_false, Bool.true_eq_false, Bool.false_eq_true, false_implies, forall_const]) | refine ev_guard rfl rfl rfl ?_ ?_ | ((with_reducible show retQ _ _ _ _); simp only [retQ, retOk, getL, lookup, Option.map_some, fitsL, fits, ND, srcs, Res.list, VE, Value.bool.injEq, Nat.reduceEqDiff, ↓reduceIte, and_true]) | (with_reducible refine hK _ ?_; clear hK K) | (with_reducible refine And.intro ?_ ?_) | (with_reducible intro hc; try simp only [decide_eq_true_eq, decide_eq_false_iff_not, beq_iff_eq, beq_eq_false_iff_ne, Bool.not_true, Bool.not_false, Int.not_lt, ne_eq, reduceCtorEq, Bool.true_eq_false] at hc) | omega)
  all_goals first
    | exact (befB_no (by omega)).symm
    | exact (befB_iff.2 (by omega)).symm
    | (unfold befB; rw [decide_eq_false (show ¬ a.1 < b.1 by omega), decide_eq_true (show a.1 = b.1 by omega)]; rfl)
    | trace_state

theorem pred_nat {k : Nat} (h : ¬ k = 0) : ((k : Int) - 1).toNat = k - 1 := by omega

theorem compareAt_fn (l : List T3) (k : Nat) {z : Nat → V} (hk : ¬ k = 0) (h1 : termB (tAt l (k - 1)) = true) (h2 : termB (tAt l k) = true) :
    Fn Tryz.prog 74 [.agg 3 fun j => vi (tf l (((k : Int) - 1).toNat * 3 + j)), .agg 3 fun i => if i < 3 then vi (tf l (k * 3 + i)) else z i] (.one (.pv (vi (cmpI (tAt l (k - 1)) (tAt l k))))) :=
  (compareTerms_fn _ _ h1 h2).of_ve ⟨ve_agg3 fun i hi => by rw [pred_nat hk, tf_t3 _ _ hi], ve_agg3 fun i hi => by rw [if_pos hi, tf_t3 _ _ hi], trivial⟩

theorem plBeforeAt_fn (l : List T3) (k : Nat) {z : Nat → V} (hk : ¬ k = 0) :
    Fn Tryz.prog 68 [.agg 3 fun j => vi (tf l (((k : Int) - 1).toNat * 3 + j)), .agg 3 fun i => if i < 3 then vi (tf l (k * 3 + i)) else z i] (.one (.pv (vb (befB (tAt l (k - 1)) (tAt l k))))) :=
  (plBefore_fn _ _).of_ve ⟨ve_agg3 fun i hi => by rw [pred_nat hk, tf_t3 _ _ hi], ve_agg3 fun i hi => by rw [if_pos hi, tf_t3 _ _ hi], trivial⟩

theorem plTermAt_fn (l : List T3) (k : Nat) {z : Nat → V} : Fn Tryz.prog 67 [.agg 3 fun i => if i < 3 then vi (tf l (k * 3 + i)) else z i] (.one (.pv (vb (termB (tAt l k))))) :=
  (plTerm_fn _).of_ve ⟨ve_agg3 fun i hi => by rw [if_pos hi, tf_t3 _ _ hi], trivial⟩

theorem isPlane_fn (l : List T3) (hl : l.length ≤ 1099511627776) : Fn Tryz.prog 53 [terms l] (.one (.pv (vb (planeB l)))) := by
  refine Fn.of_body Tryz.call53 Tryz.func53 rfl Tryz.ntmps53 (ts := [2]) rfl (by simp) rfl (fun N => ?_)
  repeat' (first | (with_reducible first | refine then_normal ?_ | refine then_ret ?_ | refine then_exit ?_ | refine block_normal ?_ | refine block_ret ?_) | ((with_reducible show blockQ _ _ _ _); first | refine block_exit ?_ | refine block_exit_ne rfl ?_) | ((with_reducible show AWP _ _ _ _ _); first | (with_reducible first | refine AWP.seq ?_ | refine AWP.block ?_ | refine AWP.region ?_ | refine AWP.ret ?_ | refine AWP.exit ?_ | refine AWP.skip ?_) | refine AWP.drawn rfl (by kernel_rfl) ?_ | refine AWP.cond rfl ?_ ?_) | with_reducible refine ev_nil ?_ | ((first | ((with_reducible show evOps _ _ _ _ _ _); (first | refine ev_step rfl ?_ | refine ev_undef rfl rfl rfl ?_); intro K hK) | ((with_reducible show EvOpen _ _ _ _ _ _ _); refine ev_open ?_; intro K hK) | ((with_reducible show SkOpen _ _ _ _ _ _ _); refine sk_open ?_; intro K hK) | ((with_reducible show callK _ _ _ _ _ _ _ _); first  | (refine call_scalar (within_fn _ _ _) (Nat.le_of_ble_eq_true rfl) rfl ?_))); simp only [evOp, evQ, evB, withS, opd, kput, putS, upd, lookup, argsK, bringIn, bring, Res.list, Res.slot, slotsOf, sz_terms, List.reverse_cons, List.reverse_nil, List.nil_append, List.cons_append, Nat.reduceEqDiff, Nat.reduceLT, ↓reduceIte, eq_self, true_and, Option.isSome_some]) | refine ev_guard rfl rfl rfl ?_ ?_ | ((with_reducible show retQ _ _ _ _); simp only [retQ, retOk, getL, lookup, Option.map_some, fitsL, fits, ND, srcs, Res.list, VE, Value.bool.injEq, Nat.reduceEqDiff, ↓reduceIte, and_true]) | (with_reducible refine hK _ ?_; clear hK K) | (with_reducible refine And.intro ?_ ?_) | (with_reducible intro hc; try simp only [Bool.not_eq_true', Bool.not_eq_false', inB_true, inB_false] at hc) | omega)
  any_goals exact (planeB_in ‹_›).symm
  refine AWP.loop_entR [] (fun k : Nat => ⟨[(0, .one (.pv (terms l))), (9, .one (.pv (terms l))), (10, sc (.int .i64 l.length)), (11, sc (.int .i64 k))], [], 61⟩)
    (fun k => k ≤ l.length ∧ ∀ j, j < k → plkB l j = true) (fun k => l.length - k) 0 ⟨by omega, by simp⟩ (by simp [EntR, EntSR, EntHR, SlR, VE, VE.rfl', lookup, BE, upd, sc]) ?_
  rintro k ⟨hk, hall⟩
  repeat' (first | (with_reducible first | refine then_normal ?_ | refine then_ret ?_ | refine then_exit ?_ | refine block_normal ?_ | refine block_ret ?_) | ((with_reducible show blockQ _ _ _ _); first | refine block_exit ?_ | refine block_exit_ne rfl ?_) | ((with_reducible show AWP _ _ _ _ _); first | (with_reducible first | refine AWP.seq ?_ | refine AWP.block ?_ | refine AWP.region ?_ | refine AWP.ret ?_ | refine AWP.exit ?_ | refine AWP.skip ?_) | refine AWP.drawn rfl (by kernel_rfl) ?_ | refine AWP.cond rfl ?_ ?_) | with_reducible refine ev_nil ?_ | ((first | ((with_reducible show evOps _ _ _ _ _ _); (first | refine ev_step rfl ?_ | refine ev_undef rfl rfl rfl ?_); intro K hK) | ((with_reducible show EvOpen _ _ _ _ _ _ _); refine ev_open ?_; intro K hK) | ((with_reducible show SkOpen _ _ _ _ _ _ _); refine sk_open ?_; intro K hK) | ((with_reducible show callK _ _ _ _ _ _ _ _); first  | (refine call_scalar (isFinite_fn _) (Nat.le_of_ble_eq_true rfl) rfl ?_) | (refine call_scalar (compareAt_fn l k (by omega) (plkB_is (hall (k - 1) (by omega))) (termB_iff.2 (by omega))) (Nat.le_of_ble_eq_true rfl) rfl ?_))); simp only [evOp, evQ, binK, withS, opd, kput, putS, upd, lookup, skipOp, argsK, loadOwn, bringIn, bring, Res.list, Res.slot, InK_i64, storeK, frz, storeV, setBlk, newBlk, allocK, V.one, Value.oneCell', List.set_cons_zero, c_int, sz_terms, c_term, fi0, fi1, fi2, z_term, tf_0, tf_1, tf_2, Nat.zero_le, List.getElem?_cons_zero, List.reverse_cons, List.reverse_nil, List.nil_append, List.cons_append, List.length_cons, List.length_nil, Nat.reduceEqDiff, Nat.reduceAdd, Nat.reduceLT, Nat.reduceLeDiff, Nat.add_zero, Nat.zero_add, Nat.sub_zero, ↓reduceIte, eq_self, true_and, and_true, Bool.not_true, Bool.not_false, Bool.true_eq_false, Bool.false_eq_true, false_implies, forall_const, implies_true, Int.toNat_natCast]) | refine ev_guard rfl rfl rfl ?_ ?_ | ((with_reducible show retQ _ _ _ _); simp only [retQ, retOk, getL, lookup, Option.map_some, fitsL, fits, ND, srcs, Res.list, VE, Value.bool.injEq, Nat.reduceEqDiff, ↓reduceIte, and_true]) | (with_reducible refine hK _ ?_; clear hK K) | (with_reducible refine And.intro ?_ ?_) | (with_reducible intro hc; try simp only [decide_eq_true_eq, decide_eq_false_iff_not, Bool.not_eq_true', Bool.not_eq_false', Bool.not_true, Bool.not_false, Int.not_lt, Int.not_le, gt_iff_lt, ge_iff_le, reduceCtorEq, finB_true, finB_false, Bool.true_eq_false] at hc) | omega)
  all_goals first
    | exact (planeB_no (show k < l.length by omega) (plkB_term (termB_no (by omega)))).symm
    | exact (planeB_no (show k < l.length by omega) (plkB_nobef (by omega) (cmpI_ge ‹_›))).symm
    | exact ⟨k + 1, ⟨by omega, upto_succ hall (plkB_zero (termB_iff.2 (by omega)) (by omega))⟩, by omega, [], rfl, by decide, by simp [EntSR, SlR, VE, VE.rfl', lookup, sc], trivial⟩
    | exact ⟨k + 1, ⟨by omega, upto_succ hall (plkB_bef (termB_iff.2 (by omega)) (cmpI_lt ‹_›))⟩, by omega, [], rfl, by decide, by simp [EntSR, SlR, VE, VE.rfl', lookup, sc], trivial⟩
    | (rw [planeB_is fun j hj => hall j (by omega), inB_true.2 ‹1 ≤ (l.length : Int) ∧ (l.length : Int) ≤ 12›]; done)
    | trace_state

theorem plGood_fn (l : List T3) (hl : l.length ≤ 1099511627776) : Fn Tryz.prog 51 [terms l] (.one (.pv (vb (planeB l)))) := by
  refine Fn.of_body Tryz.call51 Tryz.func51 rfl Tryz.ntmps51 (ts := [2]) rfl (by simp) rfl (fun N => ?_)
  repeat' (first | (with_reducible first | refine then_normal ?_ | refine then_ret ?_ | refine then_exit ?_ | refine block_normal ?_ | refine block_ret ?_) | ((with_reducible show blockQ _ _ _ _); first | refine block_exit ?_ | refine block_exit_ne rfl ?_) | ((with_reducible show AWP _ _ _ _ _); first | (with_reducible first | refine AWP.seq ?_ | refine AWP.block ?_ | refine AWP.region ?_ | refine AWP.ret ?_ | refine AWP.exit ?_ | refine AWP.skip ?_) | refine AWP.drawn rfl (by kernel_rfl) ?_ | refine AWP.cond rfl ?_ ?_) | with_reducible refine ev_nil ?_ | ((first | ((with_reducible show evOps _ _ _ _ _ _); (first | refine ev_step rfl ?_ | refine ev_undef rfl rfl rfl ?_); intro K hK) | ((with_reducible show EvOpen _ _ _ _ _ _ _); refine ev_open ?_; intro K hK) | ((with_reducible show SkOpen _ _ _ _ _ _ _); refine sk_open ?_; intro K hK) | ((with_reducible show callK _ _ _ _ _ _ _ _); first | fail)); simp only [evOp, evQ, evB, withS, opd, kput, putS, upd, lookup, slotsOf, sz_terms, Nat.reduceEqDiff, Nat.reduceLT, ↓reduceIte, eq_self, true_and, Option.isSome_some]) | refine ev_guard rfl rfl rfl ?_ ?_ | ((with_reducible show retQ _ _ _ _); simp only [eq_self]) | (with_reducible refine hK _ ?_; clear hK K) | (with_reducible refine And.intro ?_ ?_) | (with_reducible intro hc; try simp only [eq_self] at hc) | omega)
  refine AWP.loop_entR [] (fun k : Nat => ⟨[(0, .one (.pv (terms l))), (5, .one (.pv (terms l))), (6, sc (.int .i64 l.length)), (7, sc (.int .i64 k))], [], 33⟩)
    (fun k => k ≤ l.length ∧ ∀ j, j < k → plkB l j = true) (fun k => l.length - k) 0 ⟨by omega, by simp⟩ (by simp [EntR, EntSR, EntHR, SlR, VE, VE.rfl', lookup, BE, upd, sc]) ?_
  rintro k ⟨hk, hall⟩
  repeat' (first | (with_reducible first | refine then_normal ?_ | refine then_ret ?_ | refine then_exit ?_ | refine block_normal ?_ | refine block_ret ?_) | ((with_reducible show blockQ _ _ _ _); first | refine block_exit ?_ | refine block_exit_ne rfl ?_) | ((with_reducible show AWP _ _ _ _ _); first | (with_reducible first | refine AWP.seq ?_ | refine AWP.block ?_ | refine AWP.region ?_ | refine AWP.ret ?_ | refine AWP.exit ?_ | refine AWP.skip ?_) | refine AWP.drawn rfl (by kernel_rfl) ?_ | refine AWP.cond rfl ?_ ?_) | with_reducible refine ev_nil ?_ | ((first | ((with_reducible show evOps _ _ _ _ _ _); (first | refine ev_step rfl ?_ | refine ev_undef rfl rfl rfl ?_); intro K hK) | ((with_reducible show EvOpen _ _ _ _ _ _ _); refine ev_open ?_; intro K hK) | ((with_reducible show SkOpen _ _ _ _ _ _ _); refine sk_open ?_; intro K hK) | ((with_reducible show callK _ _ _ _ _ _ _ _); first  | (refine call_scalar (plTermAt_fn l k) (Nat.le_of_ble_eq_true rfl) rfl ?_) | (refine call_scalar (plBeforeAt_fn l k (by omega)) (Nat.le_of_ble_eq_true rfl) rfl ?_) | (refine call_scalar (l1In_fn _ _ _) (Nat.le_of_ble_eq_true rfl) rfl ?_))); simp only [evOp, evQ, evB, binK, withS, opd, kput, putS, upd, lookup, skipOp, argsK, loadOwn, bringIn, bring, Res.list, Res.slot, InK_i64, storeK, frz, storeV, setBlk, newBlk, allocK, V.one, Value.oneCell', List.set_cons_zero, sz_terms, c_term, z_term, Nat.zero_le, List.getElem?_cons_zero, List.reverse_cons, List.reverse_nil, List.nil_append, List.cons_append, List.length_cons, List.length_nil, Nat.reduceEqDiff, Nat.reduceAdd, Nat.reduceLT, Nat.reduceLeDiff, Nat.zero_add, Nat.sub_zero, ↓reduceIte, eq_self, true_and, and_true, Bool.not_true, Bool.not_false, Bool.true_eq_false, Bool.false_eq_true, false_implies, forall_const, implies_true, Int.toNat_natCast, Option.isSome_some]) | refine ev_guard rfl rfl rfl ?_ ?_ | ((with_reducible show retQ _ _ _ _); simp only [retQ, retOk, getL, lookup, Option.map_some, fitsL, fits, ND, srcs, Res.list, VE, Value.bool.injEq, Nat.reduceEqDiff, ↓reduceIte, and_true]) | (with_reducible refine hK _ ?_; clear hK K) | (with_reducible refine And.intro ?_ ?_) | (with_reducible intro hc; try simp only [decide_eq_true_eq, decide_eq_false_iff_not, Bool.not_eq_true', Bool.not_eq_false', Bool.not_true, Bool.not_false, Int.not_lt, gt_iff_lt, reduceCtorEq, Bool.true_eq_false] at hc) | omega)
  all_goals first
    | exact (planeB_no (show k < l.length by omega) (plkB_term ‹_›)).symm
    | exact (planeB_no (show k < l.length by omega) (plkB_nobef (by omega) ‹_›)).symm
    | exact ⟨k + 1, ⟨by omega, upto_succ hall (plkB_zero ‹_› (by omega))⟩, by omega, [], rfl, by decide, by simp [EntSR, SlR, VE, VE.rfl', lookup, sc], trivial⟩
    | exact ⟨k + 1, ⟨by omega, upto_succ hall (plkB_bef ‹termB (tAt l k) = true› ‹befB _ _ = true›)⟩, by omega, [], rfl, by decide, by simp [EntSR, SlR, VE, VE.rfl', lookup, sc], trivial⟩
    | (rw [planeB_is fun j hj => hall j (by omega)]; done)
    | trace_state

end Go.Proofs.YteapdildbfimnaaGreatDoor
namespace Go.Proofs.YteapdildbfimnaaGreatDoor
open Go.RowKit Go.Proofs
set_option linter.unusedSimpArgs false
set_option linter.unusedVariables false

end Go.Proofs.YteapdildbfimnaaGreatDoor
namespace Go.Proofs.YteapdildbfimnaaGreatDoor
open Go.RowKit Go.Proofs
set_option linter.unusedSimpArgs false
set_option linter.unusedVariables false

theorem wrap64_id (n : Int) (h : -9223372036854775808 ≤ n ∧ n ≤ 9223372036854775807) : wrap64 n = n := by unfold wrap64; omega

/-- The world behind k rounds of marking block b from m on. -/
def Marked (b : Nat) (cur : Array Value) (e : TypeId) (w : World) (k : Nat) (m : Int) (wr : World) : Prop :=
  AllBut b w wr ∧ ∃ cur' : Array Value, wr.heap[b]? = some (.cells cur' e (0, 0)) ∧ cur'.size = cur.size ∧ ∀ i, i < k → cur'[i]? = some (.int .i64 (m + i))

theorem Marked.cell {b : Nat} {cur : Array Value} {e : TypeId} {w wr : World} {k : Nat} {m : Int} (h : Marked b cur e w k m wr) (hk : k < cur.size) : (∃ x, wr.cell? ⟨b, k, none⟩ = some x) ∧ wr.frozen? ⟨b, k, none⟩ = false := by
  obtain ⟨_, cur', h1, h2, _⟩ := h
  exact ⟨⟨cur'[k], cell_of_blk h1 (Array.getElem?_eq_getElem (by omega))⟩, by simp [World.frozen?, h1]⟩

theorem Marked.step {b : Nat} {cur : Array Value} {e : TypeId} {w wr : World} {k : Nat} {m : Int} (h : Marked b cur e w k m wr) (hk : k < cur.size) :
    Marked b cur e w (k + 1) m (wr.setCell ⟨b, k, none⟩ (.int .i64 (m + k))) := by
  obtain ⟨ha, cur', h1, h2, h3⟩ := h
  refine ⟨⟨ha.os, ha.tape, ha.output, by rw [setCell_size]; exact ha.size, fun j hj hne => (Below.heap_setCell _ _ _ _ hne).trans (ha.oth j hj hne)⟩, _, setCell_at h1, by simpa using h2, fun i hi => ?_⟩
  by_cases e : i = k
  · subst e; simp [show i < cur'.size by omega]
  · rw [Array.getElem?_setIfInBounds_ne (fun h => e h.symm)]; exact h3 i (by omega)

end Go.Proofs.YteapdildbfimnaaGreatDoor
namespace Go.Proofs.YteapdildbfimnaaGreatDoor
open Go.RowKit Go.Proofs
set_option linter.unusedSimpArgs false
set_option linter.unusedVariables false

end Go.Proofs.YteapdildbfimnaaGreatDoor
namespace Go.Proofs.YteapdildbfimnaaGreatDoor
set_option linter.unusedSimpArgs false
set_option linter.unusedVariables false
open Go.RowKit

/-- Two sets of blocks without a common one. -/
def Disj (Z Z' : Nat → Prop) : Prop := ∀ b, Z b → ¬ Z' b
theorem Disj.symm {Z Z' : Nat → Prop} (h : Disj Z Z') : Disj Z' Z := fun b h1 h2 => h b h2 h1

/-- Z is a set of blocks that v names. -/
inductive ZIn (Z : Nat → Prop) : V → Prop where
  | old (v : V) : ZIn Z (.old Z v)
  | row (u : Value) (sz n : Nat) (f : Nat → V) : ZIn Z (.row u Z sz n f)
  | inRow (u : Value) (Z' : Nat → Prop) (sz n : Nat) (f : Nat → V) (i : Nat) (hi : i < n * sz) (h : ZIn Z (f i)) : ZIn Z (.row u Z' sz n f)
  | grow (u : Value) (e : TypeId) (sz n : Nat) (f : Nat → V) : ZIn Z (.grow u Z e sz n f)
  | inGrow (u : Value) (Z' : Nat → Prop) (e : TypeId) (sz n : Nat) (f : Nat → V) (i : Nat) (hi : i < n * sz) (h : ZIn Z (f i)) : ZIn Z (.grow u Z' e sz n f)
  | inAgg (n : Nat) (f : Nat → V) (i : Nat) (hi : i < n) (h : ZIn Z (f i)) : ZIn Z (.agg n f)
  | cur (b k : Nat) (Z' : Nat → Prop) (c : V) (hZ : ∀ j, Z j → j = b ∨ Z' j) : ZIn Z (.cur b k Z' c)

theorem Wr.lt {w : World} {b : Nat} (h : Wr w b) : b < w.heap.size := by
  obtain ⟨cur, e, h⟩ := h; exact block_lt h

theorem ZIn.there {w : World} {S : Nat → Prop} {Z : Nat → Prop} {v : V} (h : ZIn Z v) : ∀ {u : Value}, Rd w S v u → ∀ b, Z b → S b ∧ b < w.heap.size := by
  induction h with
  | old v => intro u hr b hb; exact hr.1 b hb
  | row u sz n f => intro u hr b hb; have := hr.2.1 b hb; exact ⟨this.1, this.2.lt⟩
  | inRow u Z' sz n f i hi h ih =>
    intro u' hr b hb
    obtain ⟨_, _, A, c, _, _, hr⟩ := hr
    obtain ⟨b', off, _, _, hr⟩ := hr (by omega)
    obtain ⟨x, _, hr⟩ := hr i hi
    exact ih hr b hb
  | grow u e sz n f => intro u hr b hb; have := hr.2.1 b hb; exact ⟨this.1, this.2.lt⟩
  | inGrow u Z' e sz n f i hi h ih =>
    intro u' hr b hb
    obtain ⟨_, _, ⟨_, hn⟩ | ⟨b', c, cur, _, _, _, _, _, _, hr⟩⟩ := hr
    · rw [hn] at hi; omega
    · obtain ⟨x, _, hr⟩ := hr i hi
      exact ih hr b hb
  | inAgg n f i hi h ih =>
    intro u' hr b hb
    obtain ⟨cs, _, _, hr⟩ := hr
    obtain ⟨x, _, hr⟩ := hr i hi
    exact ih hr b hb
  | cur b0 k Z' c hZ =>
    intro u hr b hb
    obtain ⟨_, h1, h2, cur, cv, p, q, e, h3, _⟩ := hr
    rcases hZ b hb with rfl | h
    · exact ⟨h1, block_lt h3⟩
    · exact ⟨(h2 b h).1, (h2 b h).2.1⟩

/-- Z is a set of blocks that the state names. -/
def ZSt (Z : Nat → Prop) (s : ASt) : Prop := (∃ t v, lookup s.σ t = some (.one (.pv v)) ∧ ZIn Z v) ∨ ∃ (id : Nat) (blk : Blk) (i : Nat), s.h[id]? = some (some blk) ∧ i < blk.n ∧ ZIn Z (blk.f i)

theorem ZSt.there {w0 : World} {S0 : Nat → Prop} {s : ASt} {φ : List (Option (Nat × Nat))} {a : Act} {w : World} {Z : Nat → Prop} (h : ZSt Z s) (sim : SimAt w0 S0 s φ a w) : ∀ b, Z b → Stab w0 S0 s.h φ b ∧ b < w.heap.size := by
  rcases h with ⟨t, v, h1, h2⟩ | ⟨id, blk, i, h1, h2, h3⟩
  · obtain ⟨u, _, hr⟩ := sim.slots t _ h1
    exact h2.there hr
  · rcases sim.heap.blk id blk h1 with ⟨_, h4⟩ | ⟨b, cur, _, _, _, _, h5⟩
    · omega
    · obtain ⟨x, _, hr⟩ := h5 i h2
      exact h3.there hr

/-- New memory alone; p holds of all sets of blocks that are named. -/
def NewV (p : (Nat → Prop) → Prop) : V → Prop
  | .val _ => True
  | .row _ Z sz n f => p Z ∧ ∀ i, i < n * sz → NewV p (f i)
  | .grow _ Z _ sz n f => p Z ∧ ∀ i, i < n * sz → NewV p (f i)
  | .agg n f => ∀ i, i < n → NewV p (f i)
  | .old Z _ => p Z
  | _ => False

def NewL (p : (Nat → Prop) → Prop) : List RV → Prop
  | [] => True
  | .pv v :: r => NewV p v ∧ NewL p r
  | .fr _ _ b :: r => (∀ i, i < b.n → NewV p (b.f i)) ∧ NewL p r

theorem NewV.mono {p q : (Nat → Prop) → Prop} (h : ∀ Z, p Z → q Z) : ∀ v : V, NewV p v → NewV q v
  | .val _, _ => trivial
  | .row _ Z sz n f, hv => ⟨h _ hv.1, fun i hi => NewV.mono h (f i) (hv.2 i hi)⟩
  | .grow _ Z _ sz n f, hv => ⟨h _ hv.1, fun i hi => NewV.mono h (f i) (hv.2 i hi)⟩
  | .agg n f, hv => fun i hi => NewV.mono h (f i) (hv i hi)
  | .seq _ _ _, hv => hv.elim
  | .pin _ _, hv => hv.elim
  | .clo _ _ _, hv => hv.elim
  | .old Z _, hv => h Z hv
  | .cur _ _ _ _, hv => hv.elim
theorem NewL.mono {p q : (Nat → Prop) → Prop} (h : ∀ Z, p Z → q Z) : ∀ rs : List RV, NewL p rs → NewL q rs
  | [], _ => trivial
  | .pv v :: r, hv => ⟨NewV.mono h v hv.1, NewL.mono h r hv.2⟩
  | .fr _ _ b :: r, hv => ⟨fun i hi => NewV.mono h _ (hv.1 i hi), NewL.mono h r hv.2⟩

/-- What is read in new memory is read whoever asks. -/
theorem NewV.rd {w : World} {S S' : Nat → Prop} {p : (Nat → Prop) → Prop} (hS : ∀ Z, p Z → (∀ b, Z b → S b) → ∀ b, Z b → S' b) : ∀ (v : V) (u : Value), NewV p v → Rd w S v u → Rd w S' v u
  | .val _, _, _, h => h
  | .row u0 Z sz n f, u, hv, h => by
    obtain ⟨e, hz, A, c, hu, hc, h⟩ := h
    refine ⟨e, fun b hb => ⟨hS Z hv.1 (fun b hb => (hz b hb).1) b hb, (hz b hb).2⟩, A, c, hu, hc, fun hp => ?_⟩
    obtain ⟨b, off, hA, hZ, h⟩ := h hp
    refine ⟨b, off, hA, hZ, fun i hi => ?_⟩
    obtain ⟨x, hx, hr⟩ := h i hi
    exact ⟨x, hx, NewV.rd hS (f i) x (hv.2 i hi) hr⟩
  | .grow u0 Z e sz n f, u, hv, h => by
    obtain ⟨hu, hz, h⟩ := h
    refine ⟨hu, fun b hb => ⟨hS Z hv.1 (fun b hb => (hz b hb).1) b hb, (hz b hb).2⟩, ?_⟩
    rcases h with h | ⟨b, c, cur, h1, h2, h3, h4, h5, h6, h7⟩
    · exact .inl h
    · refine .inr ⟨b, c, cur, h1, h2, h3, h4, h5, h6, fun i hi => ?_⟩
      obtain ⟨x, hx, hr⟩ := h7 i hi
      exact ⟨x, hx, NewV.rd hS (f i) x (hv.2 i hi) hr⟩
  | .agg n f, u, hv, h => by
    obtain ⟨cs, hu, hn, h⟩ := h
    refine ⟨cs, hu, hn, fun i hi => ?_⟩
    obtain ⟨x, hx, hr⟩ := h i hi
    exact ⟨x, hx, NewV.rd hS (f i) x (hv i hi) hr⟩
  | .seq _ _ _, _, hv, _ => hv.elim
  | .pin _ _, _, hv, _ => hv.elim
  | .clo _ _ _, _, hv, _ => hv.elim
  | .old Z _, _, hv, h => ⟨fun b hb => ⟨hS Z hv (fun b hb => (h.1 b hb).1) b hb, (h.1 b hb).2⟩, h.2⟩
  | .cur _ _ _ _, _, hv, _ => hv.elim

/-- Called with values that read as vs the function f returns values that read as some r of R, all of it in new memory. -/
structure FnE (P : Program) (f : FuncId) (vs : List V) (R : Res → Prop) : Prop where
  entry : ∀ (args : Array Value) (w : World), (callFunc f args).run P w = .ok (.enter f args) w
  runs : ∀ (w : World) (us : List Value), RdL w (fun _ => True) vs us → Calls P f us.toArray w fun e w' =>
    ∃ r u φ, R r ∧ NewL (fun Z => ∀ b, Z b → w.heap.size ≤ b) r.list ∧ e = .returned u ∧ Heap w (fun _ => True) (bring r.list []).2 φ w' ∧ RdSlot w' (Stab w (fun _ => True) (bring r.list []).2 φ) φ (r.slot (bring r.list []).1) u

section
variable {P : Program} {w0 : World} {S0 : Nat → Prop} {s : ASt} {φ : List (Option (Nat × Nat))} {a : Act} {w : World}

theorem new_blk {p : (Nat → Prop) → Prop} {rs : List RV} (h : NewL p rs) : ∀ (g : List (Option Blk)) (id : Nat) (blk : Blk), (bring rs g).2[id]? = some (some blk) → (∀ (id : Nat) (blk : Blk), g[id]? = some (some blk) → ∀ i, i < blk.n → NewV p (blk.f i)) →
    ∀ i, i < blk.n → NewV p (blk.f i) := by
  induction rs with
  | nil => intro g id blk hi hg; exact hg id blk hi
  | cons r rs ih =>
    intro g id blk hi hg
    cases r with
    | pv v => exact ih h.2 g id blk hi hg
    | fr sz len b =>
      refine ih h.2 (g ++ [some b]) id blk hi fun id' blk' hi' => ?_
      rcases Nat.lt_or_ge id' g.length with hlt | hge
      · rw [List.getElem?_append_left hlt] at hi'; exact hg _ _ hi'
      · rw [List.getElem?_append_right hge] at hi'
        have : id' - g.length = 0 := by
          rcases Nat.eq_zero_or_pos (id' - g.length) with h0 | h0
          · exact h0
          · rw [List.getElem?_eq_none (by simp; omega)] at hi'; cases hi'
        rw [this] at hi'
        simp at hi'
        subst hi'
        exact h.1

theorem new_slots {p : (Nat → Prop) → Prop} {S S' : Nat → Prop} {w' : World} {ψ : List (Option (Nat × Nat))} (hS : ∀ Z, p Z → (∀ b, Z b → S b) → ∀ b, Z b → S' b) {rs : List RV} (h : NewL p rs) :
    ∀ (g : List (Option Blk)) (us : List Value), RdSs w' S ψ (bring rs g).1 us → RdSs w' S' ψ (bring rs g).1 us := by
  induction rs with
  | nil => intro g us hr; cases us with | nil => trivial | cons _ _ => exact hr.elim
  | cons r rs ih =>
    intro g us hr
    cases r with
    | pv v =>
      cases us with
      | nil => exact hr.elim
      | cons u us => exact ⟨NewV.rd hS v u h.1 hr.1, ih h.2 g us hr.2⟩
    | fr sz len b =>
      cases us with
      | nil => exact hr.elim
      | cons u us => exact ⟨hr.1, ih h.2 _ us hr.2⟩

/-- The state behind a call whose results lie in new memory. -/
theorem SimAt.call_new (sim : SimAt w0 S0 s φ a w) {d : Nat} (hd : d < s.nt) {r : Res} (hs : NewL (fun Z => ∀ b, Z b → w.heap.size ≤ b) r.list) {ψ : List (Option (Nat × Nat))} {w' : World} {u : Value}
    (hh : Heap w (fun _ => True) (bring r.list []).2 ψ w') (hr : RdSlot w' (Stab w (fun _ => True) (bring r.list []).2 ψ) ψ (r.slot (bring r.list []).1) u) :
    SimAt w0 S0 (bringIn s d r) (φ ++ ψ) (a.put (some d) u) w' := by
  have hw := sim.heap.below.size
  have key : ∀ Z : Nat → Prop, (∀ b, Z b → w.heap.size ≤ b) → (∀ b, Z b → Stab w (fun _ => True) (bring r.list []).2 ψ b) → ∀ b, Z b → Stab w0 S0 (s.h ++ (bring r.list []).2) (φ ++ ψ) b := fun Z hZ h1 b hb => by
    have h2 := hZ b hb
    refine ⟨.inr (by omega), fun hl => ?_⟩
    rcases (live_append sim.heap.len).1 hl with h3 | h3
    · have := (sim.heap.live_ge h3).2; omega
    · exact (h1 b hb).2 h3
  have hj := sim.join hh fun id blk i x hid hi hr => NewV.rd key _ _ (new_blk hs [] id blk hid (fun _ _ h => by simp at h) i hi) hr
  have e := bring_nil r.list s.h
  have hp := hj.put (d := d) hd (v := r.slot (bring r.list s.h).1) (u := u) (by
    refine rdSlot_bring (g := []) (g' := s.h) r (fun us hus => ?_) hr
    have h1 := new_slots (S' := Stab w (Stab w0 S0 s.h φ) (bring r.list []).2 ψ) (fun Z hZ h1 b hb => ⟨.inr (hZ b hb), (h1 b hb).2⟩) hs [] us hus
    have := bring_slots (S' := Stab w0 S0 (s.h ++ (bring r.list []).2) (φ ++ ψ)) r.list (fun b hb => sim.stab_callee b hb) s.h [] us sim.heap.len h1
    simpa using this)
  rw [← e] at hp
  exact hp

/-- What stands behind a call of such a function. -/
def callEK (N : Nat) (P : Program) (f : FuncId) (args : List Operand) (d : Nat) (s : ASt) (K : ASt → Prop) : Prop :=
  argsK s args true [] fun _ vs => ∃ R : Res → Prop, FnE P f vs R ∧ d < s.nt ∧ ∀ r, R r → NewL (fun Z => (∀ b, Z b → N ≤ b) ∧ ∀ Z', ZSt Z' s → Disj Z' Z) r.list → K (bringIn s d r)

theorem callE_rule {N : Nat} {f : FuncId} {args : Array Operand} {d ty : Nat} {ts : Array TypeId} {pos : String} {after : Array Edge} :
    OpRule N P ⟨some d, .call ⟨.value (.func f), args, ts⟩, ty, pos, after, none⟩ (fun s K => callEK N P f args.toList d s K) := by
  refine ⟨rfl, fun w0 S0 s φ a w K next Q hN sim h hn => ?_⟩
  obtain ⟨p', vs', ⟨R, hf, hd, hK⟩, h3, h4⟩ := argsK_ok sim args.toList true [] [] h sim.gl (fun _ => sim.gl)
  have hrun : (execOp a.eval ⟨some d, .call ⟨.value (.func f), args, ts⟩, ty, pos, after, none⟩).run P w = .ok (.enter f (args.toList.map a.eval).toArray) w := by
    have e : execOp a.eval ⟨some d, .call ⟨.value (.func f), args, ts⟩, ty, pos, after, none⟩ = callFunc f (#[] ++ args.map a.eval ++ #[]) := rfl
    rw [e, hf.1]
    congr 2
    rw [← Array.toList_inj]
    simp
  unfold Oper.wp
  rw [hrun, Oper.upon_enter]
  simp only [List.reverse_nil, List.nil_append] at h3 h4
  refine (hf.2 w _ h3).mono ?_
  rintro e w' ⟨r, u, ψ, hr, hnew, rfl, hh, hs⟩
  have hw := sim.heap.below.size
  refine hn _ _ _ (hK r hr (NewL.mono (fun Z hZ => ⟨fun b hb => by have := hZ b hb; omega, fun Z' hZ' b hb hb' => ?_⟩) _ hnew)) ⟨_, sim.call_new hd hnew hh hs⟩
  have h1 := (hZ'.there sim b hb).2
  have h2 := hZ b hb'
  omega

/-- A region with a call of such a function behind n operations. -/
theorem AWP.region_callE [Cx] {N : Nat} {id : Nat} {f : FuncId} {args : Array Operand} {d ty : Nat} {ts : Array TypeId} {pos : String} {after : Array Edge} {os1 os2 : List Oper} {Q : Exit → ASt → Prop} {s : ASt}
    (h : evOps P false (os1 ++ ⟨some d, .call ⟨.value (.func f), args, ts⟩, ty, pos, after, none⟩ :: os2) os1 (fun s' => callEK N P f args.toList d s' (evOps P false (os1 ++ ⟨some d, .call ⟨.value (.func f), args, ts⟩, ty, pos, after, none⟩ :: os2) os2 (Q .normal))) s) :
    AWP N P (.region id (os1 ++ ⟨some d, .call ⟨.value (.func f), args, ts⟩, ty, pos, after, none⟩ :: os2).toArray false) Q s :=
  AWP.region_rule callE_rule h

/-! ### An own slice is let go as a row -/
def letRowK (N : Nat) (t : Nat) (s : ASt) (K : ASt → Prop) : Prop :=
  ∃ (id sz len : Nat) (blk : Blk), lookup s.σ t = some (.one (.own id sz 0 len)) ∧ s.h[id]? = some (some blk) ∧ len * sz ≤ blk.n ∧
    ∀ (u0 : Value) (Z : Nat → Prop), (∀ b, Z b → N ≤ b) → (∀ Z', ZSt Z' s → Disj Z' Z) → K ⟨upd s.σ t (.one (.pv (.row u0 Z sz len blk.f))), s.h.set id none, s.nt⟩

theorem letRow_ok {N : Nat} {t : Nat} {K : ASt → Prop} (hN : w0.heap.size = N) (sim : SimAt w0 S0 s φ a w) (h : letRowK N t s K) : ∃ s', K s' ∧ SimAt w0 S0 s' φ a w := by
  obtain ⟨id, sz, len, blk, ht, hb, hl, h⟩ := h
  obtain ⟨sv, hst⟩ := sim.letgo id
  obtain ⟨u, hu, hr⟩ := sim.slots t _ ht
  have fin : ∀ Z : Nat → Prop, (∀ b, Z b → N ≤ b) → (∀ Z', ZSt Z' s → Disj Z' Z) → Rd w (Stab w0 S0 (s.h.set id none) φ) (.row u Z sz len blk.f) u → ∃ s', K s' ∧ SimAt w0 S0 s' φ a w := fun Z h1 h2 h3 => by
    refine ⟨_, h u Z h1 h2, ⟨sv.heap, fun t' v hv => ?_, sv.defers, sv.size⟩⟩
    rw [lookup_upd] at hv
    split at hv
    · rename_i et; subst et; injection hv with hv; subst hv
      exact ⟨u, hu, h3⟩
    · exact sv.slots t' v hv
  rcases hr with ⟨hφ, _, hl0, rfl⟩ | ⟨b', c, z, hφ, rfl, hc, _, _⟩
  · subst hl0
    exact fin (fun _ => False) (fun _ h => h.elim) (fun _ _ _ _ h => h) ⟨rfl, fun _ h => h.elim, none, 0, rfl, Nat.le_refl _, fun hp => by simp at hp⟩
  · obtain ⟨cur, _, hB, hcur, hn, hx⟩ := sim.blkAt hb hφ
    have hlive : Live s.h φ b' := ⟨id, blk, _, hb, hφ⟩
    refine fin (fun b => b = b') (fun b hb' => by subst hb'; omega) (fun Z' hZ' b hz hb' => ?_) ⟨rfl, fun b hb' => ?_, _, c, rfl, hc, fun hp => ⟨b', 0, rfl, rfl, fun i hi => ?_⟩⟩
    · have hb' : b = b' := hb'
      subst hb'
      exact (hZ'.there sim b hz).1.2 hlive
    · have hb' : b = b' := hb'
      subst hb'
      refine ⟨⟨.inr hB, ?_⟩, cur, blk.elem, hcur⟩
      rintro ⟨i, x, z', h1, h2⟩
      by_cases ei : id = i
      · subst ei
        have := (List.getElem?_eq_some_iff.1 hb).1
        simp [this] at h1
      · rw [List.getElem?_set_ne ei] at h1
        exact ei (sim.heap.inj id i blk x b _ _ hb h1 hφ h2)
    · obtain ⟨x, hx1, hx2⟩ := hx i (by omega)
      exact ⟨x, by rw [Nat.zero_add]; exact cell_of_blk hcur hx1, Rd.mono (fun b hb _ => ⟨hst b hb, rfl⟩) _ _ hx2⟩

theorem AWP.letRow [Cx] {N : Nat} {c : Code} {Q : Exit → ASt → Prop} {s : ASt} (t : Nat) (h : letRowK N t s (AWP N P c Q)) : AWP N P c Q s := by
  refine AWP.of_step fun w0 S0 φ a w hN sim => ?_
  obtain ⟨s', hK, sim'⟩ := letRow_ok hN sim h
  exact ⟨s', φ, hK, sim'⟩

/-! ### A function's body -/
def retE (ts : List Nat) (N : Nat) (R : Res → Prop) : Exit → ASt → Prop
  | .normal, s => ∃ r, R r ∧ NewL (fun Z => ∀ b, Z b → N ≤ b) r.list ∧ retOk ts r s
  | .ret, s => ∃ r, R r ∧ NewL (fun Z => ∀ b, Z b → N ≤ b) r.list ∧ retOk ts r s
  | _, _ => False

/-- Values that come in, as lying in old memory. -/
def oldV (N : Nat) : V → V
  | .seq sz n f => .old (fun b => b < N) (.seq sz n f)
  | .agg n f => .agg n fun i => oldV N (f i)
  | v => v

theorem oldV_rd {w : World} : ∀ (v : V) (u : Value), Rd w (fun _ => True) v u → Rd w (fun _ => True) (oldV w.heap.size v) u
  | .seq sz n f, u, h => ⟨fun b hb => ⟨trivial, hb⟩, Rd.mono (S' := fun b => b < w.heap.size) (fun b _ hlt => ⟨hlt, rfl⟩) _ _ h⟩
  | .agg n f, u, h => by
    obtain ⟨cs, hu, hn, h⟩ := h
    refine ⟨cs, hu, hn, fun i hi => ?_⟩
    obtain ⟨x, hx, hr⟩ := h i hi
    exact ⟨x, hx, oldV_rd (f i) x hr⟩
  | .val _, _, h => h
  | .pin _ _, _, h => h
  | .clo _ _ _, _, h => h
  | .old _ _, _, h => h
  | .row _ _ _ _ _, _, h => h
  | .grow _ _ _ _ _ _, _, h => h
  | .cur _ _ _ _, _, h => h

theorem oldL_rd {w : World} : ∀ (vs : List V) (us : List Value), RdL w (fun _ => True) vs us → RdL w (fun _ => True) (vs.map (oldV w.heap.size)) us
  | [], [], h => h
  | [], _ :: _, h => h.elim
  | _ :: _, [], h => h.elim
  | v :: vs, u :: us, h => ⟨oldV_rd v u h.1, oldL_rd vs us h.2⟩

theorem body_start {fn : Func} {nt : Nat} {vs : List V} {us : List Value} (hnt : fn.ntmps = nt) (hlen : vs.length ≤ nt) (hus : RdL w (fun _ => True) vs us) :
    SimAt w (fun _ => True) ⟨slotsOf 0 vs, [], nt⟩ [] { tmps := us.toArray ++ Array.replicate (fn.ntmps - us.toArray.size) undef, defers := [] } w := by
  have hul := hus.len
  refine ⟨⟨rfl, Below.refl _ _, fun id blk hi => by simp at hi, fun i j bi bj b z z' hi => by simp at hi⟩, fun t x ht => ?_, ⟨rfl, hus.gl⟩, by simp [hnt]; omega⟩
  obtain ⟨v, rfl, _, hv⟩ := slotsOf_get vs 0 t ht
  obtain ⟨u, hu, hr⟩ := RdL.get vs us t hus (by simpa using hv)
  refine ⟨u, ?_, ?_⟩
  · have : t < us.length := (List.getElem?_eq_some_iff.1 hu).1
    rw [Array.getElem?_append_left (by simpa using this)]; simpa using hu
  · refine Rd.mono (fun b hb hlt => ⟨⟨.inl hb, ?_⟩, rfl⟩) _ _ hr
    rintro ⟨id, blk, z, hi, _⟩; simp at hi

theorem FnE.of_body {f : FuncId} {fn : Func} {c : Code} {nt : Nat} {ts : List Nat} {vs : List V} {R : Res → Prop} (vs' : Nat → List V) (hvs : ∀ (w : World) (us : List Value), RdL w (fun _ => True) vs us → RdL w (fun _ => True) (vs' w.heap.size) us)
    (hcall : ∀ (args : Array Value) (w : World), (callFunc f args).run P w = .ok (.enter f args) w) (hf : P.funcs[f]? = some fn) (hb : fn.body = some c) (hnt : fn.ntmps = nt)
    (hres : fn.results = (ts.map ResultVar.tmp).toArray) (hlen : ∀ N, (vs' N).length ≤ nt) (hshape : ∀ r, R r → r.shape ts.length = true) (h : ∀ N, AWP N P c (retE ts N R) ⟨slotsOf 0 (vs' N), [], nt⟩) : FnE P f vs R := by
  refine ⟨hcall, fun w us hus => calls_of_wp hf hb ?_⟩
  have sim := body_start (w := w) (fn := fn) (vs := vs' w.heap.size) hnt (hlen _) (hvs w us hus)
  refine wp_mono (h _ w _ _ w rfl ⟨w, Reb.refl _, [], sim⟩) fun e a' w' ⟨s', hq, w1, hR, φ, sim'⟩ => ?_
  obtain rfl := hR.none
  have fin : (∃ r, R r ∧ NewL (fun Z => ∀ b, Z b → w.heap.size ≤ b) r.list ∧ retOk ts r s') → a'.defers = [] ∧ ∃ v, (results fn a'.tmps).run P w' = .ok v w' ∧
      ∃ r u φ, R r ∧ NewL (fun Z => ∀ b, Z b → w.heap.size ≤ b) r.list ∧ Ending.returned v = .returned u ∧ Heap w (fun _ => True) (bring r.list []).2 φ w' ∧ RdSlot w' (Stab w (fun _ => True) (bring r.list []).2 φ) φ (r.slot (bring r.list []).1) u := fun ⟨r, hR, hnew, hq⟩ => by
    unfold retOk at hq
    split at hq
    · rename_i vs' hvs
      obtain ⟨hfit, hnd⟩ := hq
      have hrd := getL_rd sim' ts vs' hvs
      obtain ⟨hh, hst⟩ := sim'.results_heap hfit hnd
      have hsl := results_slots hst vs' r.list _ [] [] rfl hfit hrd
      have eb : (bring r.list []).2 = (blksOf r.list).map some := by rw [bring_blks]; rfl
      refine ⟨sim'.defers.1, _, run_results hres _ _, r, _, _, hR, hnew, rfl, by rw [eb]; exact hh, ?_⟩
      rw [eb]
      simp only [List.nil_append] at hsl
      have hshape := hshape r hR
      cases r with
      | one r =>
        have h1 : ts.length = 1 := by simpa [Res.shape] using hshape
        rw [if_pos h1]
        match ts, h1 with
        | [t], _ => cases r <;> exact hsl.1
      | many l =>
        have h1 : ts.length ≠ 1 := by simpa [Res.shape] using hshape
        rw [if_neg h1]
        exact ⟨_, rfl, hsl⟩
    · exact hq.elim
  cases e with
  | normal => exact fin hq
  | ret => exact fin hq
  | _ => exact hq.elim

/-- A value read with less said of where it lies. -/
def Bare : V → V → Prop
  | .old _ v, v' => Bare v v'
  | .row _ _ sz n f, .seq sz' n' g => sz = sz' ∧ n = n' ∧ ∀ i, i < n * sz → Bare (f i) (g i)
  | .grow _ _ _ sz n f, .seq sz' n' g => sz = sz' ∧ n = n' ∧ ∀ i, i < n * sz → Bare (f i) (g i)
  | .agg n f, .agg n' g => n = n' ∧ ∀ i, i < n → Bare (f i) (g i)
  | v, v' => VE v v'

theorem Bare.rd {w : World} {S : Nat → Prop} : ∀ (v v' : V) (u : Value), Bare v v' → Rd w S v u → Rd w S v' u
  | .old Z v, v', u, h, hr => Bare.rd v v' u (by cases v' <;> exact h) (Rd.mono (S := Z) (fun b hb _ => ⟨(hr.1 b hb).1, rfl⟩) _ _ hr.2)
  | .row u0 Z sz n f, .seq sz' n' g, u, h, hr => by
    obtain ⟨rfl, rfl, h⟩ := h
    obtain ⟨_, hz, A, c, rfl, hc, hr⟩ := hr
    refine ⟨A, c, rfl, hc, fun hp => ?_⟩
    obtain ⟨b, off, hA, hZ, hr⟩ := hr hp
    refine ⟨b, off, hA, (hz b hZ).1, fun i hi => ?_⟩
    obtain ⟨x, hx, hr⟩ := hr i hi
    exact ⟨x, hx, Bare.rd (f i) (g i) x (h i hi) hr⟩
  | .grow u0 Z e sz n f, .seq sz' n' g, u, h, hr => by
    obtain ⟨rfl, rfl, h⟩ := h
    obtain ⟨_, hz, hr⟩ := hr
    rcases hr with ⟨rfl, hn⟩ | ⟨b, c, cur, rfl, h2, h3, h4, h5, h6, h7⟩
    · exact ⟨none, 0, by rw [hn], by omega, fun hp => by rw [hn] at hp; omega⟩
    · refine ⟨_, c, rfl, h2, fun _ => ⟨b, 0, rfl, (hz b h4).1, fun i hi => ?_⟩⟩
      obtain ⟨x, hx, hr⟩ := h7 i hi
      exact ⟨x, by rw [Nat.zero_add]; exact cell_of_blk h5 hx, Bare.rd (f i) (g i) x (h i hi) hr⟩
  | .agg n f, .agg n' g, u, h, hr => by
    obtain ⟨rfl, h⟩ := h
    obtain ⟨cs, hu, hn, hr⟩ := hr
    refine ⟨cs, hu, hn, fun i hi => ?_⟩
    obtain ⟨x, hx, hr⟩ := hr i hi
    exact ⟨x, hx, Bare.rd (f i) (g i) x (h i hi) hr⟩
  | .val a, v', u, h, hr => VE.rd _ _ _ (by cases v' <;> exact h) hr
  | .seq a b c, v', u, h, hr => VE.rd _ _ _ (by cases v' <;> exact h) hr
  | .pin a b, v', u, h, hr => VE.rd _ _ _ (by cases v' <;> exact h) hr
  | .clo a b c, v', u, h, hr => VE.rd _ _ _ (by cases v' <;> exact h) hr
  | .row a b c d e, .val x, u, h, hr => h.elim
  | .row a b c d e, .agg x y, u, h, hr => h.elim
  | .row a b c d e, .pin x y, u, h, hr => h.elim
  | .row a b c d e, .clo x y z, u, h, hr => h.elim
  | .row a b c d e, .old x y, u, h, hr => h.elim
  | .row a b c d e, .row x y z i j, u, h, hr => VE.rd _ _ _ h hr
  | .row a b c d e, .grow x y z i j k, u, h, hr => h.elim
  | .grow a b c d e f, .val x, u, h, hr => h.elim
  | .grow a b c d e f, .agg x y, u, h, hr => h.elim
  | .grow a b c d e f, .pin x y, u, h, hr => h.elim
  | .grow a b c d e f, .clo x y z, u, h, hr => h.elim
  | .grow a b c d e f, .old x y, u, h, hr => h.elim
  | .grow a b c d e f, .row x y z i j, u, h, hr => VE.rd _ _ _ h hr
  | .grow a b c d e f, .grow x y z i j k, u, h, hr => VE.rd _ _ _ h hr
  | .agg a b, .grow x y z i j k, u, h, hr => h.elim
  | .agg a b, .val x, u, h, hr => h.elim
  | .agg a b, .seq x y z, u, h, hr => h.elim
  | .agg a b, .pin x y, u, h, hr => h.elim
  | .agg a b, .clo x y z, u, h, hr => h.elim
  | .agg a b, .old x y, u, h, hr => h.elim
  | .agg a b, .row x y z i j, u, h, hr => h.elim
  | .cur a b c d, v', u, h, hr => VE.rd _ _ _ (by cases v' <;> exact h) hr
  | .row a b c d e, .cur x y z i, u, h, hr => h.elim
  | .grow a b c d e f, .cur x y z i, u, h, hr => h.elim
  | .agg a b, .cur x y z i, u, h, hr => h.elim

def BareL : List V → List V → Prop
  | [], [] => True
  | v :: vs, v' :: vs' => Bare v v' ∧ BareL vs vs'
  | _, _ => False
theorem BareL.rd {w : World} {S : Nat → Prop} : ∀ (vs vs' : List V) (us : List Value), BareL vs vs' → RdL w S vs us → RdL w S vs' us
  | [], [], _, _, h => h
  | [], _ :: _, _, e, _ => e.elim
  | _ :: _, [], _, e, _ => e.elim
  | _ :: _, _ :: _, [], _, h => h.elim
  | v :: vs, v' :: vs', u :: us, e, h => ⟨Bare.rd v v' u e.1 h.1, BareL.rd vs vs' us e.2 h.2⟩
theorem Fn.bare {f : FuncId} {vs vs' : List V} {r : Res} (h : Fn P f vs r) (e : BareL vs' vs) : Fn P f vs' r := ⟨h.entry, fun w S us hr => h.runs w S us (BareL.rd vs' vs us e hr)⟩
theorem FnE.bare {f : FuncId} {vs vs' : List V} {R : Res → Prop} (h : FnE P f vs R) (e : BareL vs' vs) : FnE P f vs' R := ⟨h.entry, fun w us hr => h.runs w us (BareL.rd vs' vs us e hr)⟩

/-- Only blocks of T have turned; what could be written can be written. -/
structure OnlyIn (T : Nat → Prop) (w w' : World) : Prop where
  os : w'.os = w.os
  tape : w'.tape = w.tape
  output : w'.output = w.output
  size : w.heap.size ≤ w'.heap.size
  oth : ∀ b, b < w.heap.size → ¬ T b → w'.heap[b]? = w.heap[b]?
  wr : ∀ b, Wr w b → Wr w' b

theorem OnlyIn.refl (T : Nat → Prop) (w : World) : OnlyIn T w w := ⟨rfl, rfl, rfl, Nat.le_refl _, fun _ _ _ => rfl, fun _ h => h⟩
theorem OnlyIn.trans {T : Nat → Prop} {a b c : World} (h : OnlyIn T a b) (k : OnlyIn T b c) : OnlyIn T a c :=
  ⟨k.os.trans h.os, k.tape.trans h.tape, k.output.trans h.output, Nat.le_trans h.size k.size, fun i hi hT => (k.oth i (by have := h.size; omega) hT).trans (h.oth i hi hT), fun i hi => k.wr i (h.wr i hi)⟩
theorem OnlyIn.mono {T T' : Nat → Prop} {a b : World} (h : OnlyIn T a b) (hT : ∀ b, T b → T' b) : OnlyIn T' a b := ⟨h.os, h.tape, h.output, h.size, fun i hi hn => h.oth i hi fun h' => hn (hT _ h'), h.wr⟩
theorem OnlyIn.below {T : Nat → Prop} {a b : World} (h : Below a.heap.size a b) : OnlyIn T a b := ⟨h.os, h.tape, h.output, h.size, fun i hi _ => h.block i hi, fun i ⟨cur, e, hi⟩ => ⟨cur, e, by rw [h.block i (block_lt hi)]; exact hi⟩⟩

/-- What lies outside T. -/
def Keeps (T : Nat → Prop) : V → Prop
  | .val _ => True
  | .old Z _ => Disj Z T
  | .row _ Z sz n f => Disj Z T ∧ ∀ i, i < n * sz → Keeps T (f i)
  | .grow _ Z _ sz n f => Disj Z T ∧ ∀ i, i < n * sz → Keeps T (f i)
  | .agg n f => ∀ i, i < n → Keeps T (f i)
  | .cur b _ Z _ => ¬ T b ∧ Disj Z T
  | _ => False

theorem Keeps.rd {T : Nat → Prop} {w w' : World} (h : OnlyIn T w w') {S : Nat → Prop} : ∀ (v : V) (u : Value), Keeps T v → Rd w S v u → Rd w' S v u
  | .val _, _, _, hr => hr
  | .old Z v, u, hk, hr => ⟨fun b hb => ⟨(hr.1 b hb).1, Nat.lt_of_lt_of_le (hr.1 b hb).2 h.size⟩, Rd.mono (S' := Z) (fun b hb hlt => ⟨hb, h.oth b hlt (hk b hb)⟩) _ _ hr.2⟩
  | .row u0 Z sz n f, u, hk, hr => by
    obtain ⟨e, hz, A, c, hu, hc, hr⟩ := hr
    refine ⟨e, fun b hb => ⟨(hz b hb).1, h.wr b (hz b hb).2⟩, A, c, hu, hc, fun hp => ?_⟩
    obtain ⟨b, off, hA, hZ, hr⟩ := hr hp
    refine ⟨b, off, hA, hZ, fun i hi => ?_⟩
    obtain ⟨x, hx, hr⟩ := hr i hi
    exact ⟨x, by rw [World.cell?_of_block (w := w) (a := ⟨b, off + i, none⟩) (h.oth b (block_of_cell hx) (hk.1 b hZ))]; exact hx, Keeps.rd h (f i) x (hk.2 i hi) hr⟩
  | .grow u0 Z e sz n f, u, hk, hr => by
    obtain ⟨hu, hz, hr⟩ := hr
    refine ⟨hu, fun b hb => ⟨(hz b hb).1, h.wr b (hz b hb).2⟩, ?_⟩
    rcases hr with hr | ⟨b, c, cur, h1, h2, h3, h4, h5, h6, h7⟩
    · exact .inl hr
    · refine .inr ⟨b, c, cur, h1, h2, h3, h4, (h.oth b (block_lt h5) (hk.1 b h4)).trans h5, h6, fun i hi => ?_⟩
      obtain ⟨x, hx, hr⟩ := h7 i hi
      exact ⟨x, hx, Keeps.rd h (f i) x (hk.2 i hi) hr⟩
  | .agg n f, u, hk, hr => by
    obtain ⟨cs, hu, hn, hr⟩ := hr
    refine ⟨cs, hu, hn, fun i hi => ?_⟩
    obtain ⟨x, hx, hr⟩ := hr i hi
    exact ⟨x, hx, Keeps.rd h (f i) x (hk i hi) hr⟩
  | .seq _ _ _, _, hk, _ => hk.elim
  | .pin _ _, _, hk, _ => hk.elim
  | .clo _ _ _, _, hk, _ => hk.elim
  | .cur b k Z c, u, hk, hr => by
    obtain ⟨hu, hb, hz, cur, cv, p, q, e, hc, h3, hp, hq, hr⟩ := hr
    exact ⟨hu, hb, fun j hj => ⟨(hz j hj).1, Nat.lt_of_lt_of_le (hz j hj).2.1 h.size, (hz j hj).2.2⟩, cur, cv, p, q, e, (h.oth b (block_lt hc) hk.1).trans hc, h3, hp, hq, Rd.mono (S' := Z) (fun j hj hlt => ⟨hj, h.oth j hlt (hk.2 j hj)⟩) _ _ hr⟩

/-- Whatever reads as v in w reads as v' in w'. -/
def Goes (w w' : World) (v v' : V) : Prop := ∀ (S : Nat → Prop) (u : Value), Rd w S v u → Rd w' S v' u

/-- All blocks that v names. -/
def Zof (v : V) : Nat → Prop := fun b => ∃ Z, ZIn Z v ∧ Z b
theorem Goes.of_zof {w w' : World} {v v' : V} (h : ∀ u, Rd w (Zof v) v u → Rd w' (Zof v) v' u) (hv : ∀ (S : Nat → Prop) (u : Value), Rd w S v u → Rd w (Zof v) v u) : Goes w w' v v' := fun S u hr =>
  Rd.mono (S := Zof v) (fun b ⟨Z, hZ, hb⟩ _ => ⟨(hZ.there hr b hb).1, rfl⟩) _ _ (h u (hv S u hr))

/-- A function that writes into the blocks T of its first argument, v, and hands k' back. ps: what reads otherwise behind it. -/
structure FnMz (P : Program) (f : FuncId) (v : V) (k k' : Int) (T : Nat → Prop) (ps : List (V × V)) : Prop where
  entry : ∀ (args : Array Value) (w : World), (callFunc f args).run P w = .ok (.enter f args) w
  inz : ∀ b, T b → ∃ Z, ZIn Z v ∧ Z b
  runs : ∀ (w : World) (S : Nat → Prop) (u : Value), Rd w S v u → Calls P f #[u, .int .i64 k] w fun e w' => e = .returned (.int .i64 k') ∧ OnlyIn T w w' ∧ ∀ p ∈ ps, Goes w w' p.1 p.2

/-- What a value is behind a mark. -/
def ZStep (T : Nat → Prop) (ps : List (V × V)) (a b : V) : Prop := (Keeps T a ∧ a = b) ∨ (a, b) ∈ ps

def SwSl (T : Nat → Prop) (ps : List (V × V)) : Slot → Slot → Prop
  | .one (.pv a), .one (.pv b) => ZStep T ps a b
  | .one (.own i sz off len), .one (.own i' sz' off' len') => i = i' ∧ sz = sz' ∧ off = off' ∧ len = len'
  | .one (.ptr i off), .one (.ptr i' off') => i = i' ∧ off = off'
  | _, _ => False

def SwS (T : Nat → Prop) (ps : List (V × V)) (σ : List (Nat × Slot)) : List (Nat × Slot) → Prop
  | [] => True
  | (t, v) :: r => (match lookup σ t with | some v0 => SwSl T ps v0 v | none => False) ∧ SwS T ps σ r

def SwH (T : Nat → Prop) (ps : List (V × V)) : List (Option Blk) → List (Option Blk) → Prop
  | [], [] => True
  | _ :: h, none :: h' => SwH T ps h h'
  | some b :: h, some b' :: h' => (b.elem = b'.elem ∧ b'.n ≤ b.n ∧ ∀ i, i < b'.n → ZStep T ps (b.f i) (b'.f i)) ∧ SwH T ps h h'
  | _, _ => False

theorem SwS.get {T : Nat → Prop} {ps : List (V × V)} {σ : List (Nat × Slot)} : ∀ {τ : List (Nat × Slot)} {t : Nat} {v : Slot}, SwS T ps σ τ → lookup τ t = some v → ∃ v0, lookup σ t = some v0 ∧ SwSl T ps v0 v
  | [], _, _, _, h => by cases h
  | (k, x) :: r, t, v, he, h => by
    obtain ⟨h1, h2⟩ := he
    simp only [lookup] at h
    split at h
    · rename_i e; subst e; injection h with h; subst h
      split at h1
      · rename_i v0 hv; exact ⟨v0, hv, h1⟩
      · exact h1.elim
    · exact SwS.get h2 h

theorem SwH.len {T : Nat → Prop} {ps : List (V × V)} : ∀ {h h' : List (Option Blk)}, SwH T ps h h' → h.length = h'.length
  | [], [], _ => rfl
  | [], _ :: _, h => by cases ‹Option Blk› <;> exact h.elim
  | _ :: _, [], h => by cases ‹Option Blk› <;> exact h.elim
  | x :: h, none :: h', he => by simp [SwH.len (h := h) (h' := h') (by cases x <;> exact he)]
  | none :: _, some _ :: _, he => he.elim
  | some _ :: h, some _ :: h', he => by simp [SwH.len he.2]

theorem SwH.get {T : Nat → Prop} {ps : List (V × V)} : ∀ {h h' : List (Option Blk)} {id : Nat} {b' : Blk}, SwH T ps h h' → h'[id]? = some (some b') → ∃ b, h[id]? = some (some b) ∧ b.elem = b'.elem ∧ b'.n ≤ b.n ∧ ∀ i, i < b'.n → ZStep T ps (b.f i) (b'.f i)
  | [], [], _, _, _, hi => by simp at hi
  | [], _ :: _, _, _, h, _ => by cases ‹Option Blk› <;> exact h.elim
  | _ :: _, [], _, _, _, hi => by simp at hi
  | x :: h, none :: h', id, b', he, hi => by
    cases id with
    | zero => simp at hi
    | succ id =>
      obtain ⟨b, h1, h2⟩ := SwH.get (h := h) (h' := h') (by cases x <;> exact he) (by simpa using hi)
      exact ⟨b, by simpa using h1, h2⟩
  | none :: _, some _ :: _, _, _, he, _ => he.elim
  | some b0 :: h, some b0' :: h', id, b', he, hi => by
    cases id with
    | zero => simp at hi; subst hi; exact ⟨b0, by simp, he.1⟩
    | succ id =>
      obtain ⟨b, h1, h2⟩ := SwH.get he.2 (by simpa using hi)
      exact ⟨b, by simpa using h1, h2⟩

end
end Go.Proofs.YteapdildbfimnaaGreatDoor
namespace Go.Proofs.YteapdildbfimnaaGreatDoor
open Go.RowKit Go.Proofs
set_option linter.unusedSimpArgs false
set_option linter.unusedVariables false

def MarkedO (b off : Nat) (cur : Array Value) (e : TypeId) (w : World) (k : Nat) (m : Int) (wr : World) : Prop :=
  AllBut b w wr ∧ ∃ cur' : Array Value, wr.heap[b]? = some (.cells cur' e (0, 0)) ∧ cur'.size = cur.size ∧ ∀ i, i < k → cur'[off + i]? = some (.int .i64 (m + i))

theorem MarkedO.cell {b off : Nat} {cur : Array Value} {e : TypeId} {w wr : World} {k : Nat} {m : Int} (h : MarkedO b off cur e w k m wr) (hk : off + k < cur.size) : (∃ x, wr.cell? ⟨b, off + k, none⟩ = some x) ∧ wr.frozen? ⟨b, off + k, none⟩ = false := by
  obtain ⟨_, cur', h1, h2, _⟩ := h
  exact ⟨⟨cur'[off + k], cell_of_blk h1 (Array.getElem?_eq_getElem (by omega))⟩, by simp [World.frozen?, h1]⟩

theorem MarkedO.step {b off : Nat} {cur : Array Value} {e : TypeId} {w wr : World} {k : Nat} {m : Int} (h : MarkedO b off cur e w k m wr) (hk : off + k < cur.size) :
    MarkedO b off cur e w (k + 1) m (wr.setCell ⟨b, off + k, none⟩ (.int .i64 (m + k))) := by
  obtain ⟨ha, cur', h1, h2, h3⟩ := h
  refine ⟨⟨ha.os, ha.tape, ha.output, by rw [setCell_size]; exact ha.size, fun j hj hne => (Below.heap_setCell _ _ _ _ hne).trans (ha.oth j hj hne)⟩, _, setCell_at h1, by simpa using h2, fun i hi => ?_⟩
  by_cases e : i = k
  · subst e; simp [show off + i < cur'.size by omega]
  · rw [Array.getElem?_setIfInBounds_ne (by show off + k ≠ off + i; omega)]; exact h3 i (by omega)

/-- A row of integers from k on. -/
def cnt (k : Int) : Nat → V := fun i => vi (k + i)

/-- Rows of things that are marked one by one: what each is, what it becomes from k on, how many numbers it takes, which blocks it turns. -/
structure MkL where
  F : Nat → V
  G : Nat → Int → V
  c : Nat → Nat
  T : Nat → Nat → Prop

namespace MkL
def off (D : MkL) : Nat → Nat
  | 0 => 0
  | i + 1 => D.off i + D.c i
end MkL

/-- Three parts that are marked one behind the other. -/
structure MkA where
  F : Nat → V
  G : Nat → Int → V
  c : Nat → Nat
  T : Nat → Nat → Prop

/-- The argument's copy in a block of its own. -/
def BoxI (w W : World) (x0 x1 x2 : Value) : Prop := w.heap.size < W.heap.size ∧ W.cell? ⟨w.heap.size, 0, none⟩ = some x0 ∧ W.cell? ⟨w.heap.size, 1, none⟩ = some x1 ∧ W.cell? ⟨w.heap.size, 2, none⟩ = some x2
theorem BoxI.step {w W W' : World} {x0 x1 x2 : Value} {T : Nat → Prop} (h : BoxI w W x0 x1 x2) (ho : OnlyIn T W W') (hT : ∀ b, T b → b < w.heap.size) : BoxI w W' x0 x1 x2 := by
  obtain ⟨h1, h2, h3, h4⟩ := h
  have e : W'.heap[w.heap.size]? = W.heap[w.heap.size]? := ho.oth _ h1 fun h => by have := hT _ h; omega
  have c : ∀ i, W'.cell? ⟨w.heap.size, i, none⟩ = W.cell? ⟨w.heap.size, i, none⟩ := fun i => World.cell?_of_block (w := W) (a := ⟨w.heap.size, i, none⟩) e
  exact ⟨Nat.lt_of_lt_of_le h1 ho.size, by rw [c]; exact h2, by rw [c]; exact h3, by rw [c]; exact h4⟩
theorem BoxI.start (w : World) (x0 x1 x2 : Value) (t : TypeId) : BoxI w (w.alloc (.cells #[x0, x1, x2] t)) x0 x1 x2 ∧ Below w.heap.size w (w.alloc (.cells #[x0, x1, x2] t)) := by
  have e : (w.alloc (.cells #[x0, x1, x2] t)).heap[w.heap.size]? = some (.cells #[x0, x1, x2] t (0, 0)) := by
    show (w.heap.push _)[w.heap.size]? = _
    simp
  exact ⟨⟨block_lt e, cell_of_blk e rfl, cell_of_blk e rfl, cell_of_blk e rfl⟩, (Below.refl _ _).alloc (Nat.le_refl _) _⟩

end Go.Proofs.YteapdildbfimnaaGreatDoor
namespace Go.Proofs.YteapdildbfimnaaGreatDoor
open Go.RowKit Go.Proofs
set_option linter.unusedSimpArgs false
set_option linter.unusedVariables false

def Apart (v v' : V) : Prop := Disj (Zof v) (Zof v')
theorem Apart.symm {v v' : V} (h : Apart v v') : Apart v' v := Disj.symm h

/-- A list of n things, each of which is p, all of them apart. -/
def isL (n : Nat) (p : Nat → V → Prop) (v : V) : Prop := ∃ (u0 : Value) (Zh : Nat → Prop) (F : Nat → V), v = .row u0 Zh 1 n F ∧ ∀ i, i < n → p i (F i) ∧ Disj Zh (Zof (F i)) ∧ ∀ j, j < n → j ≠ i → Apart (F i) (F j)
def isRow (l : List Int) (v : V) : Prop := ∃ (u : Value) (Z : Nat → Prop), v = .row u Z 1 l.length fun j => vi (l.getD j 0)
def isMat (m : List (List Int)) (v : V) : Prop := isL m.length (fun i => isRow (rowAt m i)) v
def isMats (s : List (List (List Int))) (v : V) : Prop := isL s.length (fun i => isMat (matAt s i)) v

theorem NewV.zin {p : (Nat → Prop) → Prop} {Z : Nat → Prop} {v : V} (h : ZIn Z v) : NewV p v → p Z := by
  induction h with
  | old v => exact fun h => h
  | row u sz n f => exact fun h => h.1
  | inRow u Z' sz n f i hi h ih => exact fun h => ih (h.2 i hi)
  | grow u e sz n f => exact fun h => h.1
  | inGrow u Z' e sz n f i hi h ih => exact fun h => ih (h.2 i hi)
  | inAgg n f i hi h ih => exact fun h => ih (h i hi)
  | cur => exact fun h => h.elim
theorem NewV.ge {N : Nat} {q : (Nat → Prop) → Prop} {v : V} (h : NewV (fun Z => (∀ b, Z b → N ≤ b) ∧ q Z) v) : ∀ b, Zof v b → N ≤ b := fun b ⟨Z, hZ, hb⟩ => (NewV.zin hZ h).1 b hb

theorem Zof.val (x : Value) (b : Nat) : ¬ Zof (.val x) b := fun ⟨Z, h, _⟩ => by cases h
theorem Zof.agg {n : Nat} {F : Nat → V} {b : Nat} (h : Zof (.agg n F) b) : ∃ i, i < n ∧ Zof (F i) b := by
  obtain ⟨Z, h, hb⟩ := h
  cases h with
  | inAgg _ _ i hi h => exact ⟨i, hi, Z, h, hb⟩
theorem Zof.row {u : Value} {Z : Nat → Prop} {n : Nat} {F : Nat → V} {b : Nat} (h : Zof (.row u Z 1 n F) b) : Z b ∨ ∃ i, i < n ∧ Zof (F i) b := by
  obtain ⟨Z', h, hb⟩ := h
  cases h with
  | row => exact .inl hb
  | inRow _ _ _ _ _ i hi h => exact .inr ⟨i, by omega, Z', h, hb⟩
theorem Zof.at {u : Value} {Z : Nat → Prop} {n : Nat} {F : Nat → V} {b i : Nat} (hi : i < n) (h : Zof (F i) b) : Zof (.row u Z 1 n F) b := by
  obtain ⟨Z', h, hb⟩ := h; exact ⟨Z', .inRow _ _ _ _ _ i (by omega) h, hb⟩
/-- What lies apart from T is kept. -/
theorem Keeps.of_apart {T : Nat → Prop} : ∀ v : V, NewV (fun _ => True) v → Disj (Zof v) T → Keeps T v
  | .val _, _, _ => trivial
  | .row u Z sz n f, hv, h => ⟨fun b hb => h b ⟨Z, .row _ _ _ _, hb⟩, fun i hi => Keeps.of_apart (f i) (hv.2 i hi) fun b ⟨Z', hZ, hb⟩ => h b ⟨Z', .inRow _ _ _ _ _ i hi hZ, hb⟩⟩
  | .grow u Z e sz n f, hv, h => ⟨fun b hb => h b ⟨Z, .grow _ _ _ _ _, hb⟩, fun i hi => Keeps.of_apart (f i) (hv.2 i hi) fun b ⟨Z', hZ, hb⟩ => h b ⟨Z', .inGrow _ _ _ _ _ _ i hi hZ, hb⟩⟩
  | .agg n f, hv, h => fun i hi => Keeps.of_apart (f i) (hv i hi) fun b ⟨Z', hZ, hb⟩ => h b ⟨Z', .inAgg _ _ i hi hZ, hb⟩
  | .seq _ _ _, hv, _ => hv.elim
  | .pin _ _, hv, _ => hv.elim
  | .clo _ _ _, hv, _ => hv.elim
  | .old Z v, hv, h => fun b hb => h b ⟨Z, .old _, hb⟩
  | .cur _ _ _ _, hv, _ => hv.elim

theorem isRow.new {l : List Int} {v : V} (h : isRow l v) : NewV (fun _ => True) v := by
  obtain ⟨u, Z, rfl⟩ := h; exact ⟨trivial, fun _ _ => trivial⟩
theorem isL.new {n : Nat} {p : Nat → V → Prop} {v : V} (hp : ∀ i v, p i v → NewV (fun _ => True) v) (h : isL n p v) : NewV (fun _ => True) v := by
  obtain ⟨u, Z, F, rfl, h⟩ := h; exact ⟨trivial, fun i hi => hp i _ (h i (by omega)).1⟩
theorem isMat.new {m : List (List Int)} {v : V} (h : isMat m v) : NewV (fun _ => True) v := isL.new (fun _ _ h => h.new) h
theorem isMats.new {s : List (List (List Int))} {v : V} (h : isMats s v) : NewV (fun _ => True) v := isL.new (fun _ _ h => h.new) h

theorem isRow.one {l : List Int} {v : V} (h : isRow l v) : v.one = true := by obtain ⟨u, Z, rfl⟩ := h; rfl
theorem isL.one {n : Nat} {p : Nat → V → Prop} {v : V} (h : isL n p v) : v.one = true := by obtain ⟨u, Z, F, rfl, h⟩ := h; rfl

theorem isRow.bare {l : List Int} {v : V} (h : isRow l v) : Bare v (ints l) := by obtain ⟨u, Z, rfl⟩ := h; exact ⟨rfl, rfl, fun i hi => rfl⟩
theorem isL.bare {n : Nat} {p : Nat → V → Prop} {v : V} {g : Nat → V} (hp : ∀ i v, i < n → p i v → Bare v (g i)) (h : isL n p v) : Bare v (.seq 1 n g) := by
  obtain ⟨u, Z, F, rfl, h⟩ := h; exact ⟨rfl, rfl, fun i hi => hp i _ (by omega) (h i (by omega)).1⟩
theorem isMat.bare {m : List (List Int)} {v : V} (h : isMat m v) : Bare v (rows m) := isL.bare (fun _ _ _ h => h.bare) h
theorem isMats.bare {s : List (List (List Int))} {v : V} (h : isMats s v) : Bare v (mats s) := isL.bare (fun _ _ _ h => h.bare) h

/-! ### Marked -/
def rng (k : Int) (n : Nat) : List Int := tab n fun i => k + i
@[simp] theorem rng_len (k : Int) (n : Nat) : (rng k n).length = n := tab_len _ _
/-- An automaton in new memory: its three parts. -/
def isAut (a e : List Int) (s : List (List (List Int))) (F : Nat → V) : Prop := isRow a (F 0) ∧ isRow e (F 1) ∧ isMats s (F 2) ∧ ∀ i, i < 3 → ∀ j, j < 3 → j ≠ i → Apart (F i) (F j)
theorem isAut.bare {a e : List Int} {s : List (List (List Int))} {F : Nat → V} (h : isAut a e s F) : Bare (.agg 3 F) (autV a e s) := ⟨rfl, fun i hi => by
  rcases (show i = 0 ∨ i = 1 ∨ i = 2 by omega) with rfl | rfl | rfl
  · exact h.1.bare
  · exact h.2.1.bare
  · exact h.2.2.1.bare⟩
theorem isAut.one {a e : List Int} {s : List (List (List Int))} {F : Nat → V} (h : isAut a e s F) (i : Nat) (hi : i < 3) : (F i).one = true := by
  rcases (show i = 0 ∨ i = 1 ∨ i = 2 by omega) with rfl | rfl | rfl
  · exact h.1.one
  · exact h.2.1.one
  · exact isL.one h.2.2.1
theorem isAut.new {a e : List Int} {s : List (List (List Int))} {F : Nat → V} (h : isAut a e s F) (i : Nat) (hi : i < 3) : NewV (fun _ => True) (F i) := by
  rcases (show i = 0 ∨ i = 1 ∨ i = 2 by omega) with rfl | rfl | rfl
  · exact h.1.new
  · exact h.2.1.new
  · exact h.2.2.1.new

end Go.Proofs.YteapdildbfimnaaGreatDoor
namespace Go.Proofs.YteapdildbfimnaaGreatDoor
open Go.RowKit Go.Proofs
set_option linter.unusedSimpArgs false
set_option linter.unusedVariables false

end Go.Proofs.YteapdildbfimnaaGreatDoor
namespace Go.Proofs.YteapdildbfimnaaGreatDoor
open Go.RowKit Go.Proofs
set_option linter.unusedSimpArgs false
set_option linter.unusedVariables false

end Go.Proofs.YteapdildbfimnaaGreatDoor
namespace Go.Proofs.YteapdildbfimnaaGreatDoor
set_option linter.unusedSimpArgs false
set_option linter.unusedVariables false
open Go.ChangeShapes Go.WideShapes Go.ChangeAt Go.RowKit

theorem own : ownKnob Tryz.prog.godebug = none := by kernel_rfl
theorem laidOut : laidOutB Tryz.prog = true := by kernel_rfl

/-- A slice of integers that came in. -/
def IsRow (k : IntKind) (w : World) (a : Option Addr) (len cap : Nat) (zs : List Int) : Prop :=
  (a = none ∧ len = 0 ∧ cap = 0 ∧ zs = []) ∨
  ∃ x, a = some x ∧ len ≤ cap ∧ cap ≤ maxLen ∧ zs.length = cap ∧ (∀ i, i < zs.length → w.cell? (x.add i) = some (.int k (zs.getD i 0))) ∧ ∀ n ∈ zs, (Lit.int k n).wf = true

theorem IsRow.rd {w : World} {a : Option Addr} {len cap : Nat} {zs : List Int} (h : IsRow .i64 w a len cap zs) : ∃ l : List Int, Rd w (fun _ => True) (ints l) (.slice a len cap) := by
  rcases h with ⟨rfl, rfl, rfl, rfl⟩ | ⟨x, rfl, h1, _, h3, h4, _⟩
  · exact ⟨[], none, 0, rfl, Nat.le_refl _, fun h => by simp at h⟩
  · refine ⟨zs.take len, some x, cap, ?_, ?_, fun hp => ?_⟩
    · simp [h3, h1]
    · simp [h3, h1]
    · have hl : (zs.take len).length = len := by simp [h3, h1]
      rw [hl, Nat.mul_one] at hp ⊢
      have hx := h4 0 (by omega)
      have hs : x.spot = none := by
        have e : x.add 0 = x := rfl
        rw [e] at hx
        unfold World.cell? at hx
        split at hx
        · split at hx
          · cases hx
          · simpa using ‹¬ x.spot.isSome = true›
        · cases hx
      obtain ⟨b, off, spot⟩ := x
      simp only at hs; subst hs
      refine ⟨b, off, rfl, trivial, fun i hi => ⟨_, by rw [← add_none]; exact h4 i (by omega), ?_⟩⟩
      show Value.int .i64 _ = Value.int .i64 _
      congr 1
      simp [List.getD, hi]

theorem Fn.holds_true {P : Program} {f : FuncId} {vs : List V} (h : Fn P f vs (.one (.pv (vb true)))) {w : World} {us : List Value} (hr : RdL w (fun _ => True) vs us) :
    Calls P f us.toArray w fun e w' => e = .returned (.bool true) ∧ Below w.heap.size w w' :=
  (h.runs w (fun _ => True) us hr).mono fun e w' ⟨u, φ, he, hh, hs⟩ => ⟨by rw [he]; exact congrArg _ hs, hh.below⟩

open Go.ChangeShapes Go.WideShapes Go.ChangeAt Go.RowKit
set_option linter.unusedSimpArgs false
set_option linter.unusedVariables false

theorem spot_of_cell {w : World} {x : Addr} {v : Value} (h : w.cell? x = some v) : x.spot = none := by
  unfold World.cell? at h
  split at h
  · split at h
    · cases h
    · simpa using ‹¬ x.spot.isSome = true›
  · cases h

theorem add_zero_addr (x : Addr) : x.add 0 = x := rfl

section
variable {H : Type} {enc : TypeId × Value → H} {P : Program} {w : World} {base : Nat} {held : Bool}

end

open Go.ChangeShapes Go.WideShapes Go.ChangeAt Go.RowKit Go.Deep
set_option linter.unusedSimpArgs false
set_option linter.unusedVariables false

section
variable {H : Type} {enc : TypeId × Value → H} {P : Program} {w : World} {base : Nat} {held : Bool}

end

open Go.ChangeShapes Go.WideShapes Go.ChangeAt Go.RowKit Go.Deep Go.Joins
set_option linter.unusedSimpArgs false
set_option linter.unusedVariables false

section
variable {H : Type} {enc : TypeId × Value → H} {P : Program} {w : World} {base : Nat} {held : Bool}

end

end Go.Proofs.YteapdildbfimnaaGreatDoor
namespace Go.Proofs.YteapdildbfimnaaGreatDoor
open Go.RowKit Go.Proofs
set_option linter.unusedSimpArgs false
set_option linter.unusedVariables false

/-- Parts of a list that is being filled. -/
def partL (N n k : Nat) (p : Nat → V → Prop) (F : Nat → V) : Prop := k ≤ n ∧ ∀ i, i < k → p i (F i) ∧ (∀ b, Zof (F i) b → N ≤ b) ∧ ∀ j, j < k → j ≠ i → Apart (F i) (F j)
/-- A filled list. -/
def fullL (n : Nat) (e : TypeId) (p : Nat → V → Prop) : Res → Prop := fun r => ∃ F : Nat → V, (∀ i, i < n → p i (F i) ∧ ∀ j, j < n → j ≠ i → Apart (F i) (F j)) ∧ r = .one (.fr 1 n ⟨e, n, F⟩)
theorem fullL.shape {n : Nat} {e : TypeId} {p : Nat → V → Prop} (r : Res) (h : fullL n e p r) : r.shape 1 = true := by obtain ⟨F, _, rfl⟩ := h; rfl
def oneL (p : V → Prop) : Res → Prop := fun r => ∃ v, p v ∧ r = .one (.pv v)
theorem oneL.shape {p : V → Prop} (r : Res) (h : oneL p r) : r.shape 1 = true := by obtain ⟨F, _, rfl⟩ := h; rfl

theorem partL.grow {N n k : Nat} {p : Nat → V → Prop} {F : Nat → V} {v : V} (h : partL N n k p F) (hk : k < n) (hp : p k v) (hN : ∀ b, Zof v b → N ≤ b) (hd : ∀ i, i < k → Apart (F i) v) : partL N n (k + 1) p (fun i => if i = k then v else F i) := by
  refine ⟨by omega, fun i hi => ?_⟩
  by_cases e : i = k
  · subst e
    simp only [if_true]
    exact ⟨hp, hN, fun j hj hne => by rw [if_neg hne]; exact (hd j (by omega)).symm⟩
  · simp only [if_neg e]
    obtain ⟨h1, h2, h3⟩ := h.2 i (by omega)
    refine ⟨h1, h2, fun j hj hne => ?_⟩
    by_cases e2 : j = k
    · subst e2; rw [if_pos rfl]; exact hd i (by omega)
    · rw [if_neg e2]; exact h3 j (by omega) hne

theorem zst_blk {s : ASt} {id : Nat} {blk : Blk} {i : Nat} {v : V} {Z : Nat → Prop} (h1 : s.h[id]? = some (some blk)) (h2 : i < blk.n) (h3 : blk.f i = v) (h4 : ZIn Z v) : ZSt Z s := .inr ⟨id, blk, i, h1, h2, by rw [h3]; exact h4⟩
theorem NewV.apart {N : Nat} {s : ASt} {v v' : V} (h : NewV (fun Z => (∀ b, Z b → N ≤ b) ∧ ∀ Z', ZSt Z' s → Disj Z' Z) v) (h' : ∀ Z, ZIn Z v' → ZSt Z s) : Apart v' v := fun b ⟨Z', hZ', hb'⟩ ⟨Z, hZ, hb⟩ => (NewV.zin hZ h).2 Z' (h' Z' hZ') b hb' hb

theorem NewV.of_zof {N : Nat} : ∀ {v : V}, NewV (fun _ => True) v → (∀ b, Zof v b → N ≤ b) → NewV (fun Z => ∀ b, Z b → N ≤ b) v
  | .val _, _, _ => trivial
  | .row u Z sz n f, hv, h => ⟨fun b hb => h b ⟨Z, .row _ _ _ _, hb⟩, fun i hi => NewV.of_zof (hv.2 i hi) fun b ⟨Z', hZ, hb⟩ => h b ⟨Z', .inRow _ _ _ _ _ i hi hZ, hb⟩⟩
  | .grow u Z e sz n f, hv, h => ⟨fun b hb => h b ⟨Z, .grow _ _ _ _ _, hb⟩, fun i hi => NewV.of_zof (hv.2 i hi) fun b ⟨Z', hZ, hb⟩ => h b ⟨Z', .inGrow _ _ _ _ _ _ i hi hZ, hb⟩⟩
  | .agg n f, hv, h => fun i hi => NewV.of_zof (hv i hi) fun b ⟨Z', hZ, hb⟩ => h b ⟨Z', .inAgg _ _ i hi hZ, hb⟩
  | .seq _ _ _, hv, _ => hv.elim
  | .pin _ _, hv, _ => hv.elim
  | .clo _ _ _, hv, _ => hv.elim
  | .old Z v, hv, h => fun b hb => h b ⟨Z, .old _, hb⟩
  | .cur _ _ _ _, hv, _ => hv.elim

theorem isAut.mk {a e : List Int} {s : List (List (List Int))} {v0 v1 v2 : V} (h0 : isRow a v0) (h1 : isRow e v1) (h2 : isMats s v2) (a01 : Apart v0 v1) (a02 : Apart v0 v2) (a12 : Apart v1 v2) : isAut a e s (fun i => if i = 0 then v0 else if i = 1 then v1 else v2) := by
  refine ⟨h0, h1, h2, fun i hi j hj hne => ?_⟩
  rcases (show i = 0 ∨ i = 1 ∨ i = 2 by omega) with rfl | rfl | rfl <;> rcases (show j = 0 ∨ j = 1 ∨ j = 2 by omega) with rfl | rfl | rfl <;>
    first | exact (hne rfl).elim | exact a01 | exact a02 | exact a12 | exact a01.symm | exact a02.symm | exact a12.symm

theorem isAut.ge {N : Nat} {q : (Nat → Prop) → Prop} {F : Nat → V} (h : NewV (fun Z => (∀ b, Z b → N ≤ b) ∧ q Z) (.agg 3 F)) : ∀ b, Zof (.agg 3 F) b → N ≤ b := NewV.ge h

open Go.RowKit Go.Proofs
set_option linter.unusedSimpArgs false
set_option linter.unusedVariables false

end Go.Proofs.YteapdildbfimnaaGreatDoor
namespace Go.Proofs.YteapdildbfimnaaGreatDoor
open Go.RowKit Go.Proofs
set_option linter.unusedSimpArgs false
set_option linter.unusedVariables false
theorem sz_termss : elemSz Tryz.prog 23 = some 1 := by kernel_rfl
theorem c_terms : cellsIn Tryz.prog 32 = some none := by kernel_rfl
theorem c_termss : cellsIn Tryz.prog 23 = some none := by kernel_rfl
theorem ei_termss : elemInfo Tryz.prog 23 = some (32, [.slice none 0 0]) := by kernel_rfl
theorem ea_termss : elemAgg Tryz.prog 23 = some false := by kernel_rfl

abbrev tsAt (L : List (List T3)) (i : Nat) : List T3 := L.getD i []
abbrev termss (L : List (List T3)) : V := .seq 1 L.length fun i => terms (tsAt L i)
def isT (l : List T3) (v : V) : Prop := ∃ (u : Value) (Z : Nat → Prop), v = .row u Z 3 l.length fun j => vi (tf l j)
def isTS (L : List (List T3)) (v : V) : Prop := isL L.length (fun i => isT (tsAt L i)) v
theorem isT.new {l : List T3} {v : V} (h : isT l v) : NewV (fun _ => True) v := by obtain ⟨u, Z, rfl⟩ := h; exact ⟨trivial, fun _ _ => trivial⟩
theorem isT.one {l : List T3} {v : V} (h : isT l v) : v.one = true := by obtain ⟨u, Z, rfl⟩ := h; rfl
theorem isT.bare {l : List T3} {v : V} (h : isT l v) : Bare v (terms l) := by obtain ⟨u, Z, rfl⟩ := h; exact ⟨rfl, rfl, fun i hi => rfl⟩
theorem isTS.new {L : List (List T3)} {v : V} (h : isTS L v) : NewV (fun _ => True) v := isL.new (fun _ _ h => h.new) h
theorem isTS.bare {L : List (List T3)} {v : V} (h : isTS L v) : Bare v (termss L) := isL.bare (fun _ _ _ h => h.bare) h
theorem zofT {u : Value} {Z : Nat → Prop} {n : Nat} {g : Nat → Int} {b : Nat} : Zof (.row u Z 3 n fun j => vi (g j)) b ↔ Z b := by
  constructor
  · rintro ⟨Z', h, hb⟩
    cases h with
    | row => exact hb
    | inRow _ _ _ _ _ i _ h => cases h
  · intro h; exact ⟨Z, .row _ _ _ _, h⟩
end Go.Proofs.YteapdildbfimnaaGreatDoor
