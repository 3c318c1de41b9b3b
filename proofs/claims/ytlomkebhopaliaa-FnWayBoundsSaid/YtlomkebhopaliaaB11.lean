/- Parts of the proof of LawFnWayBounds: contracts of functions, laws of an abstract state, plain facts. No conditions. -/
import Derived.Test.YtlomkebhopaliaaB10
namespace Go.Proofs.Ytlomkebhopaliaa
open Go.RowKit Go.Proofs
set_option linter.unusedSimpArgs false
set_option linter.unusedVariables false
theorem l1All_fn (l : List Int) (lo hi : Int) (hl : l.length ≤ 1099511627776) : Fn Try.prog 70 [ints l, vi lo, vi hi] (.one (.pv (vb (allN l.length fun i => inB (l.getD i 0) lo hi)))) := by
  refine Fn.of_body Try.call70 Try.func70 rfl Try.ntmps70 (ts := [6]) rfl (by simp) rfl (fun N => ?_)
  repeat' (first | (with_reducible first | refine then_normal ?_ | refine then_ret ?_ | refine then_exit ?_ | refine block_normal ?_ | refine block_ret ?_) | ((with_reducible show blockQ _ _ _ _); first | refine block_exit ?_ | refine block_exit_ne rfl ?_) | ((with_reducible show AWP _ _ _ _ _); first | (with_reducible first | refine AWP.seq ?_ | refine AWP.block ?_ | refine AWP.region ?_ | refine AWP.ret ?_ | refine AWP.exit ?_ | refine AWP.skip ?_) | refine AWP.drawn rfl (by kernel_rfl) ?_ | refine AWP.cond rfl ?_ ?_) | with_reducible refine ev_nil ?_ | ((first | ((with_reducible show evOps _ _ _ _ _ _); (first | refine ev_step rfl ?_ | refine ev_undef rfl rfl rfl ?_); intro K hK) | ((with_reducible show EvOpen _ _ _ _ _ _ _); refine ev_open ?_; intro K hK) | ((with_reducible show SkOpen _ _ _ _ _ _ _); refine sk_open ?_; intro K hK) | ((with_reducible show callK _ _ _ _ _ _ _ _); first | fail)); simp only [evOp, evQ, evB, withS, opd, kput, putS, upd, lookup, slotsOf, sz_ints, Nat.reduceEqDiff, Nat.reduceAdd, Nat.reduceLT, Nat.zero_add, ↓reduceIte, eq_self, true_and, Option.isSome_some]) | refine ev_guard rfl rfl rfl ?_ ?_ | ((with_reducible show retQ _ _ _ _); simp only [eq_self]) | (with_reducible refine hK _ ?_; clear hK K) | (with_reducible refine And.intro ?_ ?_) | (with_reducible intro hc; try simp only [eq_self] at hc) | omega)
  refine AWP.loop_ent (fun k : Nat => ⟨[(0, .one (.pv (ints l))), (1, sc (.int .i64 lo)), (2, sc (.int .i64 hi)), (9, .one (.pv (ints l))), (10, sc (.int .i64 l.length)), (11, sc (.int .i64 k))], [], 21⟩)
    (fun k => k ≤ l.length ∧ ∀ j, j < k → inB (l.getD j 0) lo hi = true) (fun k => l.length - k) 0 ⟨by omega, by simp⟩ (by (simp [Ent, EntS, EntH, SlE, VE, lookup, BE])) ?_
  rintro k ⟨hk, hall⟩
  by_cases hkl : k < l.length
  · repeat' (first | (with_reducible first | refine then_normal ?_ | refine then_ret ?_ | refine then_exit ?_ | refine block_normal ?_ | refine block_ret ?_) | ((with_reducible show blockQ _ _ _ _); first | refine block_exit ?_ | refine block_exit_ne rfl ?_) | ((with_reducible show AWP _ _ _ _ _); first | (with_reducible first | refine AWP.seq ?_ | refine AWP.block ?_ | refine AWP.region ?_ | refine AWP.ret ?_ | refine AWP.exit ?_ | refine AWP.skip ?_) | refine AWP.drawn rfl (by kernel_rfl) ?_ | refine AWP.cond rfl ?_ ?_) | with_reducible refine ev_nil ?_ | ((first | ((with_reducible show evOps _ _ _ _ _ _); (first | refine ev_step rfl ?_ | refine ev_undef rfl rfl rfl ?_); intro K hK) | ((with_reducible show EvOpen _ _ _ _ _ _ _); refine ev_open ?_; intro K hK) | ((with_reducible show SkOpen _ _ _ _ _ _ _); refine sk_open ?_; intro K hK) | ((with_reducible show callK _ _ _ _ _ _ _ _); first  | (refine call_scalar (l1In_fn _ _ _) (Nat.le_of_ble_eq_true rfl) rfl ?_))); simp only [evOp, evQ, binK, withS, opd, kput, putS, upd, lookup, argsK, bringIn, bring, Res.list, Res.slot, InK_i64, sz_ints, c_int, List.reverse_cons, List.reverse_nil, List.nil_append, List.cons_append, Nat.reduceEqDiff, Nat.reduceLT, Nat.mul_one, Nat.add_zero, ↓reduceIte, eq_self, true_and, Int.toNat_natCast]) | refine ev_guard rfl rfl rfl ?_ ?_ | ((with_reducible show retQ _ _ _ _); simp only [retQ, retOk, getL, lookup, Option.map_some, fitsL, fits, ND, srcs, Res.list, VE, Value.bool.injEq, Nat.reduceEqDiff, ↓reduceIte, and_true]) | (with_reducible refine hK _ ?_; clear hK K) | (with_reducible refine And.intro ?_ ?_) | (with_reducible intro hc; try simp only [decide_eq_true_eq, decide_eq_false_iff_not, Bool.not_eq_true', Bool.not_eq_false', Int.not_lt, inB_true, inB_false] at hc) | omega)
    all_goals first
      | (exfalso; omega)
      | exact (allN_false hkl (inB_false.2 ‹_›)).symm
      | exact ⟨k + 1, ⟨by omega, upto_succ hall (inB_true.2 ‹_›)⟩, by omega, by (simp [Ent, EntS, EntH, SlE, VE, lookup, BE])⟩
      | trace_state
  · repeat' (first | (with_reducible first | refine then_normal ?_ | refine then_ret ?_ | refine then_exit ?_ | refine block_normal ?_ | refine block_ret ?_) | ((with_reducible show blockQ _ _ _ _); first | refine block_exit ?_ | refine block_exit_ne rfl ?_) | ((with_reducible show AWP _ _ _ _ _); first | (with_reducible first | refine AWP.seq ?_ | refine AWP.block ?_ | refine AWP.region ?_ | refine AWP.ret ?_ | refine AWP.exit ?_ | refine AWP.skip ?_) | refine AWP.drawn rfl (by kernel_rfl) ?_ | refine AWP.cond rfl ?_ ?_) | with_reducible refine ev_nil ?_ | ((first | ((with_reducible show evOps _ _ _ _ _ _); (first | refine ev_step rfl ?_ | refine ev_undef rfl rfl rfl ?_); intro K hK) | ((with_reducible show EvOpen _ _ _ _ _ _ _); refine ev_open ?_; intro K hK) | ((with_reducible show SkOpen _ _ _ _ _ _ _); refine sk_open ?_; intro K hK) | ((with_reducible show callK _ _ _ _ _ _ _ _); first | fail)); simp only [evOp, evQ, binK, withS, opd, kput, putS, upd, lookup, argsK, sz_ints, c_int, List.reverse_cons, List.reverse_nil, List.nil_append, List.cons_append, Nat.reduceEqDiff, Nat.reduceLT, Nat.mul_one, Nat.add_zero, ↓reduceIte, eq_self, true_and, Int.toNat_natCast]) | refine ev_guard rfl rfl rfl ?_ ?_ | ((with_reducible show retQ _ _ _ _); simp only [retQ, retOk, getL, lookup, Option.map_some, fitsL, fits, ND, srcs, Res.list, VE, Value.bool.injEq, Nat.reduceEqDiff, ↓reduceIte, and_true]) | (with_reducible refine hK _ ?_; clear hK K) | (with_reducible refine And.intro ?_ ?_) | (with_reducible intro hc; try simp only [decide_eq_true_eq, decide_eq_false_iff_not, Int.not_lt] at hc) | omega)
    all_goals first
      | (exfalso; omega)
      | exact (allN_true fun j hj => hall j (by omega)).symm
      | trace_state
theorem costOfSteps_fn (m : List (List Int)) (way : List Int) (hl : m.length ≤ 1099511627776) (hr : ∀ i, i < m.length → (rowAt m i).length = m.length) (hm : numM m) (hw : way.length ≤ 1000) (hv : vertB m.length (fun i => way.getD i 0) way.length = true) :
    Fn Try.prog 38 [rows m, ints way] (.one (.pv (vi (costK m way (way.length - 1))))) := by
  refine Fn.of_body Try.call38 Try.func38 rfl Try.ntmps38 (ts := [4]) rfl (by simp) rfl (fun N => ?_)
  repeat' (first | (with_reducible first | refine then_normal ?_ | refine then_ret ?_ | refine then_exit ?_ | refine block_normal ?_ | refine block_ret ?_) | ((with_reducible show blockQ _ _ _ _); first | refine block_exit ?_ | refine block_exit_ne rfl ?_) | ((with_reducible show AWP _ _ _ _ _); first | (with_reducible first | refine AWP.seq ?_ | refine AWP.block ?_ | refine AWP.region ?_ | refine AWP.ret ?_ | refine AWP.exit ?_ | refine AWP.skip ?_) | refine AWP.drawn rfl (by kernel_rfl) ?_ | refine AWP.cond rfl ?_ ?_) | with_reducible refine ev_nil ?_ | ((first | ((with_reducible show evOps _ _ _ _ _ _); (first | refine ev_step rfl ?_ | refine ev_undef rfl rfl rfl ?_); intro K hK) | ((with_reducible show EvOpen _ _ _ _ _ _ _); refine ev_open ?_; intro K hK) | ((with_reducible show SkOpen _ _ _ _ _ _ _); refine sk_open ?_; intro K hK) | ((with_reducible show callK _ _ _ _ _ _ _ _); first | fail)); simp only [evOp, evQ, withS, opd, kput, putS, upd, slotsOf, Nat.reduceEqDiff, Nat.reduceLT, Nat.zero_add, ↓reduceIte, true_and]) | refine ev_guard rfl rfl rfl ?_ ?_ | ((with_reducible show retQ _ _ _ _); simp only [eq_self]) | (with_reducible refine hK _ ?_; clear hK K) | (with_reducible refine And.intro ?_ ?_) | (with_reducible intro hc; try simp only [eq_self] at hc) | omega)
  refine AWP.loop_ent (fun k : Nat => ⟨[(0, .one (.pv (rows m))), (1, .one (.pv (ints way))), (5, sc (.int .i64 (costK m way k))), (6, sc (.int .i64 ((k : Int) + 1)))], [], 30⟩)
    (fun k => k ≤ way.length - 1) (fun k => way.length - k) 0 (by omega) (by simp [Ent, EntS, EntH, SlE, VE, VE.rfl', lookup, BE, costK]) ?_
  intro k hk
  by_cases hkl : k + 1 < way.length
  · have v1 := vtx_lt hv (i := k) (by omega)
    have v2 := vtx_lt hv (i := k + 1) (by omega)
    have r1 := hr _ v1.2
    have hc := costK_fin hm hv k (by omega)
    have hn := hm _ _ v1.2 v2.2
    have hb : -1000000000000000 ≤ costK m way k ∧ costK m way k ≤ 1000000000000000 := by
      cases e : stepsB m way k with
      | true => have := hc.1 e; omega
      | false => rw [hc.2 e]; omega
    have hplus := productW_fn (costK m way k) (ent m (vtx way k) (vtx way (k + 1))) hb (by omega)
    unfold vtx at v1 v2 r1 hplus
    repeat' (first | (with_reducible first | refine then_normal ?_ | refine then_ret ?_ | refine then_exit ?_ | refine block_normal ?_ | refine block_ret ?_) | ((with_reducible show blockQ _ _ _ _); first | refine block_exit ?_ | refine block_exit_ne rfl ?_) | ((with_reducible show AWP _ _ _ _ _); first | (with_reducible first | refine AWP.seq ?_ | refine AWP.block ?_ | refine AWP.region ?_ | refine AWP.ret ?_ | refine AWP.exit ?_ | refine AWP.skip ?_) | refine AWP.drawn rfl (by kernel_rfl) ?_ | refine AWP.cond rfl ?_ ?_) | with_reducible refine ev_nil ?_ | ((first | ((with_reducible show evOps _ _ _ _ _ _); (first | refine ev_step rfl ?_ | refine ev_undef rfl rfl rfl ?_); intro K hK) | ((with_reducible show EvOpen _ _ _ _ _ _ _); refine ev_open ?_; intro K hK) | ((with_reducible show SkOpen _ _ _ _ _ _ _); refine sk_open ?_; intro K hK) | ((with_reducible show callK _ _ _ _ _ _ _ _); first  | (refine call_scalar (hplus) (Nat.le_of_ble_eq_true rfl) rfl ?_))); simp only [evOp, evQ, evB, binK, withS, opd, kput, putS, upd, lookup, argsK, bringIn, bring, Res.list, Res.slot, InK_i64, sz_ints, c_int, sz_rows, c_ints, nat_pp, nat_p1, List.reverse_cons, List.reverse_nil, List.nil_append, List.cons_append, Nat.reduceEqDiff, Nat.reduceLT, Nat.mul_one, Nat.add_zero, ↓reduceIte, eq_self, true_and, Option.isSome_some]) | refine ev_guard rfl rfl rfl ?_ ?_ | ((with_reducible show retQ _ _ _ _); simp only [retQ, retOk, getL, lookup, Option.map_some, fitsL, fits, ND, srcs, Res.list, VE, Value.int.injEq, Nat.reduceEqDiff, ↓reduceIte, and_true, true_and]) | (with_reducible refine hK _ ?_; clear hK K) | (with_reducible refine And.intro ?_ ?_) | (with_reducible intro hc; try simp only [decide_eq_true_eq, decide_eq_false_iff_not, Int.not_lt] at hc) | omega)
    all_goals first
      | (exfalso; omega)
      | exact v1.1.1
      | exact v1.1.2
      | exact v2.1.1
      | (rw [r1]; exact v2.1.2)
      | exact ⟨k + 1, by omega, by omega, by simp [Ent, EntS, EntH, SlE, VE, VE.rfl', lookup, BE, costK, vtx]⟩
      | trace_state
  · repeat' (first | (with_reducible first | refine then_normal ?_ | refine then_ret ?_ | refine then_exit ?_ | refine block_normal ?_ | refine block_ret ?_) | ((with_reducible show blockQ _ _ _ _); first | refine block_exit ?_ | refine block_exit_ne rfl ?_) | ((with_reducible show AWP _ _ _ _ _); first | (with_reducible first | refine AWP.seq ?_ | refine AWP.block ?_ | refine AWP.region ?_ | refine AWP.ret ?_ | refine AWP.exit ?_ | refine AWP.skip ?_) | refine AWP.drawn rfl (by kernel_rfl) ?_ | refine AWP.cond rfl ?_ ?_) | with_reducible refine ev_nil ?_ | ((first | ((with_reducible show evOps _ _ _ _ _ _); (first | refine ev_step rfl ?_ | refine ev_undef rfl rfl rfl ?_); intro K hK) | ((with_reducible show EvOpen _ _ _ _ _ _ _); refine ev_open ?_; intro K hK) | ((with_reducible show SkOpen _ _ _ _ _ _ _); refine sk_open ?_; intro K hK) | ((with_reducible show callK _ _ _ _ _ _ _ _); first | fail)); simp only [evOp, evQ, evB, binK, withS, opd, kput, putS, upd, lookup, argsK, InK_i64, sz_ints, c_int, sz_rows, c_ints, nat_pp, nat_p1, List.reverse_cons, List.reverse_nil, List.nil_append, List.cons_append, Nat.reduceEqDiff, Nat.reduceLT, Nat.mul_one, Nat.add_zero, ↓reduceIte, eq_self, true_and, Option.isSome_some]) | refine ev_guard rfl rfl rfl ?_ ?_ | ((with_reducible show retQ _ _ _ _); simp only [retQ, retOk, getL, lookup, Option.map_some, fitsL, fits, ND, srcs, Res.list, VE, Value.int.injEq, Nat.reduceEqDiff, ↓reduceIte, and_true, true_and]) | (with_reducible refine hK _ ?_; clear hK K) | (with_reducible refine And.intro ?_ ?_) | (with_reducible intro hc; try simp only [decide_eq_true_eq, decide_eq_false_iff_not, Int.not_lt] at hc) | omega)
    all_goals first
      | (exfalso; omega)
      | (rw [show way.length - 1 = k by omega]; done)
      | trace_state
theorem isWay_fn (m : List (List Int)) (way : List Int) (h : squB m = true) (hw : way.length ≤ 1099511627776) : Fn Try.prog 36 [rows m, ints way] (.one (.pv (vb (wayOk m way)))) := by
  have hp := squB_parts h
  have hv := areVertices_fn m way.length (fun i => vi (way.getD i 0)) (fun i => way.getD i 0) (by omega) hw fun i _ => rfl
  by_cases h1 : 1 ≤ (way.length : Int) ∧ (way.length : Int) ≤ 20
  · cases h2 : vertB m.length (fun i => way.getD i 0) way.length with
    | false =>
      rw [wayOk_v h2]
      rw [h2] at hv
      refine Fn.of_body Try.call36 Try.func36 rfl Try.ntmps36 (ts := [4]) rfl (by simp) rfl (fun N => ?_)
      repeat' (first | (with_reducible first | refine then_normal ?_ | refine then_ret ?_ | refine then_exit ?_ | refine block_normal ?_ | refine block_ret ?_) | ((with_reducible show blockQ _ _ _ _); first | refine block_exit ?_ | refine block_exit_ne rfl ?_) | ((with_reducible show AWP _ _ _ _ _); first | (with_reducible first | refine AWP.seq ?_ | refine AWP.block ?_ | refine AWP.region ?_ | refine AWP.ret ?_ | refine AWP.exit ?_ | refine AWP.skip ?_) | refine AWP.drawn rfl (by kernel_rfl) ?_ | refine AWP.cond rfl ?_ ?_) | with_reducible refine ev_nil ?_ | ((first | ((with_reducible show evOps _ _ _ _ _ _); (first | refine ev_step rfl ?_ | refine ev_undef rfl rfl rfl ?_); intro K hK) | ((with_reducible show EvOpen _ _ _ _ _ _ _); refine ev_open ?_; intro K hK) | ((with_reducible show SkOpen _ _ _ _ _ _ _); refine sk_open ?_; intro K hK) | ((with_reducible show callK _ _ _ _ _ _ _ _); first  | (refine call_scalar (within_fn _ _ _) (Nat.le_of_ble_eq_true rfl) rfl ?_) | (refine call_scalar (hv) (Nat.le_of_ble_eq_true rfl) rfl ?_))); simp only [evOp, evQ, evB, withS, opd, kput, putS, upd, lookup, skipOp, argsK, bringIn, bring, Res.list, Res.slot, slotsOf, sz_ints, List.reverse_cons, List.reverse_nil, List.nil_append, List.cons_append, Nat.reduceEqDiff, Nat.reduceLT, Nat.zero_add, ↓reduceIte, eq_self, true_and, and_true, Bool.not_true, Bool.true_eq_false, Bool.false_eq_true, false_implies, forall_const, Option.isSome_some]) | refine ev_guard rfl rfl rfl ?_ ?_ | ((with_reducible show retQ _ _ _ _); simp only [retQ, retOk, getL, lookup, Option.map_some, fitsL, fits, ND, srcs, Res.list, VE, Nat.reduceEqDiff, ↓reduceIte, and_true]) | (with_reducible refine hK _ ?_; clear hK K) | (with_reducible refine And.intro ?_ ?_) | (with_reducible intro hc; try simp only [Bool.not_true, reduceCtorEq, inB_true, inB_false, Bool.true_eq_false] at hc) | omega)
      all_goals first
        | (exfalso; omega)
        | (exfalso; simp_all; done)
        | trace_state
    | true =>
      rw [wayOk_cost hp.2.2 h1 h2]
      rw [h2] at hv
      refine Fn.of_body Try.call36 Try.func36 rfl Try.ntmps36 (ts := [4]) rfl (by simp) rfl (fun N => ?_)
      repeat' (first | (with_reducible first | refine then_normal ?_ | refine then_ret ?_ | refine then_exit ?_ | refine block_normal ?_ | refine block_ret ?_) | ((with_reducible show blockQ _ _ _ _); first | refine block_exit ?_ | refine block_exit_ne rfl ?_) | ((with_reducible show AWP _ _ _ _ _); first | (with_reducible first | refine AWP.seq ?_ | refine AWP.block ?_ | refine AWP.region ?_ | refine AWP.ret ?_ | refine AWP.exit ?_ | refine AWP.skip ?_) | refine AWP.drawn rfl (by kernel_rfl) ?_ | refine AWP.cond rfl ?_ ?_) | with_reducible refine ev_nil ?_ | ((first | ((with_reducible show evOps _ _ _ _ _ _); (first | refine ev_step rfl ?_ | refine ev_undef rfl rfl rfl ?_); intro K hK) | ((with_reducible show EvOpen _ _ _ _ _ _ _); refine ev_open ?_; intro K hK) | ((with_reducible show SkOpen _ _ _ _ _ _ _); refine sk_open ?_; intro K hK) | ((with_reducible show callK _ _ _ _ _ _ _ _); first  | (refine call_scalar (within_fn _ _ _) (Nat.le_of_ble_eq_true rfl) rfl ?_) | (refine call_scalar (hv) (Nat.le_of_ble_eq_true rfl) rfl ?_) | (refine call_scalar (costOfSteps_fn m way (by omega) hp.2.1 hp.2.2 (by omega) h2) (Nat.le_of_ble_eq_true rfl) rfl ?_))); simp only [evOp, evQ, evB, binK, withS, opd, kput, putS, upd, lookup, skipOp, argsK, bringIn, bring, Res.list, Res.slot, slotsOf, sz_ints, List.reverse_cons, List.reverse_nil, List.nil_append, List.cons_append, Nat.reduceEqDiff, Nat.reduceLT, Nat.zero_add, ↓reduceIte, eq_self, true_and, and_true, Bool.not_true, Bool.true_eq_false, Bool.false_eq_true, false_implies, forall_const, Option.isSome_some]) | refine ev_guard rfl rfl rfl ?_ ?_ | ((with_reducible show retQ _ _ _ _); simp only [retQ, retOk, getL, lookup, Option.map_some, fitsL, fits, ND, srcs, Res.list, VE, Value.bool.injEq, Nat.reduceEqDiff, ↓reduceIte, and_true]) | (with_reducible refine hK _ ?_; clear hK K) | (with_reducible refine And.intro ?_ ?_) | (with_reducible intro hc; try simp only [Bool.not_true, reduceCtorEq, inB_true, inB_false, Bool.true_eq_false] at hc) | omega)
      all_goals first
        | (exfalso; omega)
        | (exfalso; simp_all; done)
        | trace_state
  · rw [wayOk_len h1]
    refine Fn.of_body Try.call36 Try.func36 rfl Try.ntmps36 (ts := [4]) rfl (by simp) rfl (fun N => ?_)
    repeat' (first | (with_reducible first | refine then_normal ?_ | refine then_ret ?_ | refine then_exit ?_ | refine block_normal ?_ | refine block_ret ?_) | ((with_reducible show blockQ _ _ _ _); first | refine block_exit ?_ | refine block_exit_ne rfl ?_) | ((with_reducible show AWP _ _ _ _ _); first | (with_reducible first | refine AWP.seq ?_ | refine AWP.block ?_ | refine AWP.region ?_ | refine AWP.ret ?_ | refine AWP.exit ?_ | refine AWP.skip ?_) | refine AWP.drawn rfl (by kernel_rfl) ?_ | refine AWP.cond rfl ?_ ?_) | with_reducible refine ev_nil ?_ | ((first | ((with_reducible show evOps _ _ _ _ _ _); (first | refine ev_step rfl ?_ | refine ev_undef rfl rfl rfl ?_); intro K hK) | ((with_reducible show EvOpen _ _ _ _ _ _ _); refine ev_open ?_; intro K hK) | ((with_reducible show SkOpen _ _ _ _ _ _ _); refine sk_open ?_; intro K hK) | ((with_reducible show callK _ _ _ _ _ _ _ _); first  | (refine call_scalar (within_fn _ _ _) (Nat.le_of_ble_eq_true rfl) rfl ?_))); simp only [evOp, evQ, evB, withS, opd, kput, putS, upd, lookup, skipOp, argsK, bringIn, bring, Res.list, Res.slot, slotsOf, sz_ints, List.reverse_cons, List.reverse_nil, List.nil_append, List.cons_append, Nat.reduceEqDiff, Nat.reduceLT, Nat.zero_add, ↓reduceIte, eq_self, true_and, Bool.not_true, Bool.false_eq_true, false_implies, forall_const, Option.isSome_some]) | refine ev_guard rfl rfl rfl ?_ ?_ | ((with_reducible show retQ _ _ _ _); simp only [retQ, retOk, getL, lookup, Option.map_some, fitsL, fits, ND, srcs, Res.list, VE, Nat.reduceEqDiff, ↓reduceIte, and_true]) | (with_reducible refine hK _ ?_; clear hK K) | (with_reducible refine And.intro ?_ ?_) | (with_reducible intro hc; try simp only [Bool.not_true, reduceCtorEq, inB_true, inB_false, Bool.true_eq_false] at hc) | omega)
    all_goals first
      | (exfalso; omega)
      | (exfalso; simp_all; done)
      | trace_state
theorem wyWay_fn (m : List (List Int)) (way : List Int) (h : squB m = true) (hw : way.length ≤ 1099511627776) : Fn Try.prog 41 [rows m, ints way] (.one (.pv (vb (wayOk m way)))) := by
  have hp := squB_parts h
  have hv := l1All_fn way 0 ((m.length : Int) - 1) hw
  refine Fn.of_body Try.call41 Try.func41 rfl Try.ntmps41 (ts := [4]) rfl (by simp) rfl (fun N => ?_)
  by_cases h1 : 1 ≤ (way.length : Int) ∧ (way.length : Int) ≤ 20
  · cases h2 : vertB m.length (fun i => way.getD i 0) way.length with
    | false =>
      rw [wayOk_v h2]
      rw [show (allN way.length fun i => inB (way.getD i 0) 0 ((m.length : Int) - 1)) = false from h2] at hv
      repeat' (first | (with_reducible first | refine then_normal ?_ | refine then_ret ?_ | refine then_exit ?_ | refine block_normal ?_ | refine block_ret ?_) | ((with_reducible show blockQ _ _ _ _); first | refine block_exit ?_ | refine block_exit_ne rfl ?_) | ((with_reducible show AWP _ _ _ _ _); first | (with_reducible first | refine AWP.seq ?_ | refine AWP.block ?_ | refine AWP.region ?_ | refine AWP.ret ?_ | refine AWP.exit ?_ | refine AWP.skip ?_) | refine AWP.drawn rfl (by kernel_rfl) ?_ | refine AWP.cond rfl ?_ ?_) | with_reducible refine ev_nil ?_ | ((first | ((with_reducible show evOps _ _ _ _ _ _); (first | refine ev_step rfl ?_ | refine ev_undef rfl rfl rfl ?_); intro K hK) | ((with_reducible show EvOpen _ _ _ _ _ _ _); refine ev_open ?_; intro K hK) | ((with_reducible show SkOpen _ _ _ _ _ _ _); refine sk_open ?_; intro K hK) | ((with_reducible show callK _ _ _ _ _ _ _ _); first  | (refine call_scalar (l1In_fn _ _ _) (Nat.le_of_ble_eq_true rfl) rfl ?_) | (refine call_scalar (hv) (Nat.le_of_ble_eq_true rfl) rfl ?_))); simp only [evOp, evQ, evB, binK, withS, opd, kput, putS, upd, lookup, skipOp, argsK, bringIn, bring, Res.list, Res.slot, slotsOf, InK_i64, sz_ints, sz_rows, List.reverse_cons, List.reverse_nil, List.nil_append, List.cons_append, Nat.reduceEqDiff, Nat.reduceLT, Nat.zero_add, ↓reduceIte, eq_self, true_and, and_true, Bool.not_false, Bool.true_eq_false, Bool.false_eq_true, false_implies, forall_const, Option.isSome_some]) | refine ev_guard rfl rfl rfl ?_ ?_ | ((with_reducible show retQ _ _ _ _); simp only [retQ, retOk, getL, lookup, Option.map_some, fitsL, fits, ND, srcs, Res.list, VE, Nat.reduceEqDiff, ↓reduceIte, and_true]) | (with_reducible refine hK _ ?_; clear hK K) | (with_reducible refine And.intro ?_ ?_) | (with_reducible intro hc; try simp only [Bool.not_eq_true', Bool.not_eq_false', Bool.not_false, reduceCtorEq, inB_true, inB_false, Bool.true_eq_false] at hc) | omega)
      all_goals first
        | (exfalso; omega)
        | (exfalso; simp_all; done)
        | trace_state
    | true =>
      rw [wayOk_is h1 h2]
      rw [show (allN way.length fun i => inB (way.getD i 0) 0 ((m.length : Int) - 1)) = true from h2] at hv
      repeat' (first | (with_reducible first | refine then_normal ?_ | refine then_ret ?_ | refine then_exit ?_ | refine block_normal ?_ | refine block_ret ?_) | ((with_reducible show blockQ _ _ _ _); first | refine block_exit ?_ | refine block_exit_ne rfl ?_) | ((with_reducible show AWP _ _ _ _ _); first | (with_reducible first | refine AWP.seq ?_ | refine AWP.block ?_ | refine AWP.region ?_ | refine AWP.ret ?_ | refine AWP.exit ?_ | refine AWP.skip ?_) | refine AWP.drawn rfl (by kernel_rfl) ?_ | refine AWP.cond rfl ?_ ?_) | with_reducible refine ev_nil ?_ | ((first | ((with_reducible show evOps _ _ _ _ _ _); (first | refine ev_step rfl ?_ | refine ev_undef rfl rfl rfl ?_); intro K hK) | ((with_reducible show EvOpen _ _ _ _ _ _ _); refine ev_open ?_; intro K hK) | ((with_reducible show SkOpen _ _ _ _ _ _ _); refine sk_open ?_; intro K hK) | ((with_reducible show callK _ _ _ _ _ _ _ _); first  | (refine call_scalar (l1In_fn _ _ _) (Nat.le_of_ble_eq_true rfl) rfl ?_) | (refine call_scalar (hv) (Nat.le_of_ble_eq_true rfl) rfl ?_))); simp only [evOp, evQ, evB, binK, withS, opd, kput, putS, upd, lookup, skipOp, argsK, bringIn, bring, Res.list, Res.slot, slotsOf, InK_i64, sz_ints, sz_rows, List.reverse_cons, List.reverse_nil, List.nil_append, List.cons_append, Nat.reduceEqDiff, Nat.reduceLT, Nat.zero_add, ↓reduceIte, eq_self, true_and, and_true, Bool.not_true, Bool.not_false, Bool.true_eq_false, Bool.false_eq_true, false_implies, forall_const, Option.isSome_some]) | refine ev_guard rfl rfl rfl ?_ ?_ | ((with_reducible show retQ _ _ _ _); simp only [retQ, retOk, getL, lookup, Option.map_some, fitsL, fits, ND, srcs, Res.list, VE, Value.bool.injEq, Nat.reduceEqDiff, ↓reduceIte, and_true]) | (with_reducible refine hK _ ?_; clear hK K) | (with_reducible refine And.intro ?_ ?_) | (with_reducible intro hc; try simp only [Bool.not_eq_true', Bool.not_eq_false', Bool.not_false, reduceCtorEq, inB_true, inB_false, Bool.true_eq_false] at hc) | omega)
      refine AWP.loop_ent (fun k : Nat => ⟨[(0, .one (.pv (rows m))), (1, .one (.pv (ints way))), (5, sc (.int .i64 ((k : Int) + 1)))], [], 39⟩)
        (fun k => k ≤ way.length - 1 ∧ ∀ j, j < k → (ent m (vtx way j) (vtx way (j + 1)) != 1000000000) = true) (fun k => way.length - k) 0 ⟨by omega, by simp⟩ (by simp [Ent, EntS, EntH, SlE, VE, VE.rfl', lookup, BE]) ?_
      rintro k ⟨hk, hall⟩
      by_cases hkl : k + 1 < way.length
      · have v1 := vtx_lt h2 (i := k) (by omega)
        have v2 := vtx_lt h2 (i := k + 1) (by omega)
        have r1 := hp.2.1 _ v1.2
        have hfin : (ent m (vtx way k) (vtx way (k + 1)) != 1000000000) = false → stepsB m way (way.length - 1) = false := fun e => allN_false (show k < way.length - 1 by omega) e
        unfold vtx at v1 v2 r1 hfin
        repeat' (first | (with_reducible first | refine then_normal ?_ | refine then_ret ?_ | refine then_exit ?_ | refine block_normal ?_ | refine block_ret ?_) | ((with_reducible show blockQ _ _ _ _); first | refine block_exit ?_ | refine block_exit_ne rfl ?_) | ((with_reducible show AWP _ _ _ _ _); first | (with_reducible first | refine AWP.seq ?_ | refine AWP.block ?_ | refine AWP.region ?_ | refine AWP.ret ?_ | refine AWP.exit ?_ | refine AWP.skip ?_) | refine AWP.drawn rfl (by kernel_rfl) ?_ | refine AWP.cond rfl ?_ ?_) | with_reducible refine ev_nil ?_ | ((first | ((with_reducible show evOps _ _ _ _ _ _); (first | refine ev_step rfl ?_ | refine ev_undef rfl rfl rfl ?_); intro K hK) | ((with_reducible show EvOpen _ _ _ _ _ _ _); refine ev_open ?_; intro K hK) | ((with_reducible show SkOpen _ _ _ _ _ _ _); refine sk_open ?_; intro K hK) | ((with_reducible show callK _ _ _ _ _ _ _ _); first | fail)); simp only [evOp, evQ, evB, binK, withS, opd, kput, putS, upd, lookup, InK_i64, sz_ints, c_int, sz_rows, c_ints, nat_pp, nat_p1, Nat.reduceEqDiff, Nat.reduceLT, Nat.mul_one, Nat.add_zero, ↓reduceIte, eq_self, true_and, Option.isSome_some]) | refine ev_guard rfl rfl rfl ?_ ?_ | ((with_reducible show retQ _ _ _ _); simp only [retQ, retOk, getL, lookup, Option.map_some, fitsL, fits, ND, srcs, Res.list, VE, Value.bool.injEq, Nat.reduceEqDiff, ↓reduceIte, and_true]) | (with_reducible refine hK _ ?_; clear hK K) | (with_reducible refine And.intro ?_ ?_) | (with_reducible intro hc; try simp only [decide_eq_true_eq, decide_eq_false_iff_not, beq_iff_eq, beq_eq_false_iff_ne, Int.not_lt, ne_eq] at hc) | omega)
        all_goals first
          | (exfalso; omega)
          | exact v1.1.1
          | exact v1.1.2
          | exact v2.1.1
          | (rw [r1]; exact v2.1.2)
          | exact (hfin (by simpa using ‹_›)).symm
          | exact ⟨k + 1, ⟨by omega, upto_succ hall (by unfold vtx; simpa using ‹_›)⟩, by omega, by simp [Ent, EntS, EntH, SlE, VE, VE.rfl', lookup, BE]⟩
          | trace_state
      · repeat' (first | (with_reducible first | refine then_normal ?_ | refine then_ret ?_ | refine then_exit ?_ | refine block_normal ?_ | refine block_ret ?_) | ((with_reducible show blockQ _ _ _ _); first | refine block_exit ?_ | refine block_exit_ne rfl ?_) | ((with_reducible show AWP _ _ _ _ _); first | (with_reducible first | refine AWP.seq ?_ | refine AWP.block ?_ | refine AWP.region ?_ | refine AWP.ret ?_ | refine AWP.exit ?_ | refine AWP.skip ?_) | refine AWP.drawn rfl (by kernel_rfl) ?_ | refine AWP.cond rfl ?_ ?_) | with_reducible refine ev_nil ?_ | ((first | ((with_reducible show evOps _ _ _ _ _ _); (first | refine ev_step rfl ?_ | refine ev_undef rfl rfl rfl ?_); intro K hK) | ((with_reducible show EvOpen _ _ _ _ _ _ _); refine ev_open ?_; intro K hK) | ((with_reducible show SkOpen _ _ _ _ _ _ _); refine sk_open ?_; intro K hK) | ((with_reducible show callK _ _ _ _ _ _ _ _); first | fail)); simp only [evOp, evQ, evB, binK, withS, opd, kput, putS, upd, lookup, InK_i64, sz_ints, c_int, sz_rows, c_ints, nat_pp, nat_p1, Nat.reduceEqDiff, Nat.reduceLT, Nat.mul_one, Nat.add_zero, ↓reduceIte, eq_self, true_and, Option.isSome_some]) | refine ev_guard rfl rfl rfl ?_ ?_ | ((with_reducible show retQ _ _ _ _); simp only [retQ, retOk, getL, lookup, Option.map_some, fitsL, fits, ND, srcs, Res.list, VE, Value.bool.injEq, Nat.reduceEqDiff, ↓reduceIte, and_true]) | (with_reducible refine hK _ ?_; clear hK K) | (with_reducible refine And.intro ?_ ?_) | (with_reducible intro hc; try simp only [decide_eq_true_eq, decide_eq_false_iff_not, beq_iff_eq, beq_eq_false_iff_ne, Int.not_lt, ne_eq] at hc) | omega)
        all_goals first
          | (exfalso; omega)
          | exact (allN_true fun j hj => hall j (by omega)).symm
          | trace_state
  · rw [wayOk_len h1]
    repeat' (first | (with_reducible first | refine then_normal ?_ | refine then_ret ?_ | refine then_exit ?_ | refine block_normal ?_ | refine block_ret ?_) | ((with_reducible show blockQ _ _ _ _); first | refine block_exit ?_ | refine block_exit_ne rfl ?_) | ((with_reducible show AWP _ _ _ _ _); first | (with_reducible first | refine AWP.seq ?_ | refine AWP.block ?_ | refine AWP.region ?_ | refine AWP.ret ?_ | refine AWP.exit ?_ | refine AWP.skip ?_) | refine AWP.drawn rfl (by kernel_rfl) ?_ | refine AWP.cond rfl ?_ ?_) | with_reducible refine ev_nil ?_ | ((first | ((with_reducible show evOps _ _ _ _ _ _); (first | refine ev_step rfl ?_ | refine ev_undef rfl rfl rfl ?_); intro K hK) | ((with_reducible show EvOpen _ _ _ _ _ _ _); refine ev_open ?_; intro K hK) | ((with_reducible show SkOpen _ _ _ _ _ _ _); refine sk_open ?_; intro K hK) | ((with_reducible show callK _ _ _ _ _ _ _ _); first  | (refine call_scalar (l1In_fn _ _ _) (Nat.le_of_ble_eq_true rfl) rfl ?_))); simp only [evOp, evQ, evB, binK, withS, opd, kput, putS, upd, lookup, skipOp, argsK, bringIn, bring, Res.list, Res.slot, slotsOf, InK_i64, sz_ints, sz_rows, List.reverse_cons, List.reverse_nil, List.nil_append, List.cons_append, Nat.reduceEqDiff, Nat.reduceLT, Nat.zero_add, ↓reduceIte, eq_self, true_and, and_true, Bool.not_false, Bool.true_eq_false, false_implies, forall_const, Option.isSome_some]) | refine ev_guard rfl rfl rfl ?_ ?_ | ((with_reducible show retQ _ _ _ _); simp only [retQ, retOk, getL, lookup, Option.map_some, fitsL, fits, ND, srcs, Res.list, VE, Nat.reduceEqDiff, ↓reduceIte, and_true]) | (with_reducible refine hK _ ?_; clear hK K) | (with_reducible refine And.intro ?_ ?_) | (with_reducible intro hc; try simp only [Bool.not_eq_true', Bool.not_eq_false', Bool.not_false, reduceCtorEq, inB_true, inB_false, Bool.true_eq_false] at hc) | omega)
    all_goals first
      | (exfalso; omega)
      | (exfalso; simp_all; done)
      | trace_state
end Go.Proofs.Ytlomkebhopaliaa
namespace Go.Proofs.Ytlomkebhopaliaa
set_option linter.unusedSimpArgs false
set_option linter.unusedVariables false
open Go.RowKit
theorem wpList_quiet {P : Program} {l : Array Oper} {C : World → Prop} {Q : Exit → Act → World → Prop} {Qa : Act → Prop} (hQ : ∀ a' w', C w' → Qa a' → Q .normal a' w') : ∀ (os : List Oper) (a : Act) (w : World), C w → wpQuiet P l C Qa os a → wpList P l Q os a w
  | [], a, w, hw, h => hQ a w hw h
  | o :: os, a, w, hw, h => by
    unfold wpQuiet at h
    unfold wpList
    split
    · rename_i hwant
      rw [if_pos hwant] at h
      exact .inl (Oper.wp_of_quiet (C := C) hw (fun a' w' hw' hk => wpList_quiet hQ os a' w' hw' hk) h)
    · rename_i hwant
      rw [if_neg hwant] at h
      exact wpList_quiet hQ os _ w hw h
theorem wpQuiet_mono {P : Program} {l : Array Oper} {C : World → Prop} {Q Q' : Act → Prop} (h : ∀ a, Q a → Q' a) : ∀ (os : List Oper) (a : Act), wpQuiet P l C Q os a → wpQuiet P l C Q' os a
  | [], a, hq => h a hq
  | o :: os, a, hq => by
    unfold wpQuiet at hq ⊢
    split
    · rename_i hwant
      rw [if_pos hwant] at hq
      exact Oper.quiet_mono (fun a' ha' => wpQuiet_mono h os a' ha') hq
    · rename_i hwant
      rw [if_neg hwant] at hq
      exact wpQuiet_mono h os _ hq
theorem put_other {a : Act} {d : Option Nat} {v : Value} {t : Nat} (h : d ≠ some t) : (a.put d v).tmps[t]? = a.tmps[t]? := by
  cases d with
  | none => rfl
  | some d =>
    have hne : d ≠ t := fun e => h (by rw [e])
    simp [Act.put, Array.getElem?_setIfInBounds, hne]
theorem put_size {a : Act} {d : Option Nat} {v : Value} : (a.put d v).tmps.size = a.tmps.size := by
  cases d with
  | none => rfl
  | some d => simp [Act.put]
theorem put_defers {a : Act} {d : Option Nat} {v : Value} : (a.put d v).defers = a.defers := by cases d <;> rfl
theorem wpQuiet_frame {P : Program} {l : Array Oper} {C : World → Prop} {Qa : Act → Prop} : ∀ (os : List Oper) (a : Act), wpQuiet P l C Qa os a → wpQuiet P l C (fun a' => Qa a' ∧ a'.tmps.size = a.tmps.size ∧ a'.defers = a.defers ∧ ∀ t, (∀ o ∈ os, o.dst ≠ some t) → a'.tmps[t]? = a.tmps[t]?) os a
  | [], a, h => ⟨h, rfl, rfl, fun t _ => rfl⟩
  | o :: os, a, h => by
    have step : ∀ v, wpQuiet P l C Qa os (a.put o.dst v) → wpQuiet P l C (fun a' => Qa a' ∧ a'.tmps.size = a.tmps.size ∧ a'.defers = a.defers ∧ ∀ t, (∀ o' ∈ o :: os, o'.dst ≠ some t) → a'.tmps[t]? = a.tmps[t]?) os (a.put o.dst v) := fun v hv => by
      refine wpQuiet_mono (fun a' ⟨h1, h2, h3, h4⟩ => ⟨h1, h2.trans put_size, h3.trans put_defers, fun t ht => ?_⟩) os _ (wpQuiet_frame os _ hv)
      exact (h4 t fun o' ho' => ht o' (List.mem_cons_of_mem _ ho')).trans (put_other (ht o (List.mem_cons_self ..)))
    unfold wpQuiet at h ⊢
    split
    · rename_i hwant
      rw [if_pos hwant] at h
      obtain ⟨v, h1, h2⟩ := h
      exact ⟨v, h1, step v h2⟩
    · rename_i hwant
      rw [if_neg hwant] at h
      exact step _ h
section
variable {P : Program} {N : Nat}
theorem SimAt.frozen {w0 : World} {S0 : Nat → Prop} {s : ASt} {φ : List (Option (Nat × Nat))} {a : Act} {w : World} (sim : SimAt w0 S0 s φ a w) (t id : Nat) {b : Blk} (ht : lookup s.σ t = some (.one (.ptr id 0))) (hb : s.h[id]? = some (some b)) :
    SimAt w0 S0 ⟨upd s.σ t (.one (.pv (.pin b.n b.f))), s.h.set id none, s.nt⟩ φ a w := by
  obtain ⟨sv, hst⟩ := sim.letgo id
  refine ⟨sv.heap, fun t' v hv => ?_, sv.defers, sv.size⟩
  rw [lookup_upd] at hv
  split at hv
  · rename_i et; subst et; injection hv with hv; subst hv
    obtain ⟨u, hu, b', z, hφ, rfl⟩ := sim.slots t' _ ht
    obtain ⟨cur, _, hB, hcur, hn, hx⟩ := sim.blkAt hb hφ
    refine ⟨_, hu, b', 0, rfl, fun i hi => ⟨⟨.inr hB, ?_⟩, ?_⟩⟩
    · rintro ⟨i, x, z', h1, h2⟩
      by_cases ei : id = i
      · subst ei
        have := (List.getElem?_eq_some_iff.1 hb).1
        simp [this] at h1
      · simp only [] at h1
        rw [List.getElem?_set_ne ei] at h1
        exact ei (sim.heap.inj id i b x b' _ _ hb h1 hφ h2)
    · obtain ⟨x, hx1, hx2⟩ := hx i hi
      exact ⟨x, by rw [Nat.zero_add]; exact cell_of_blk hcur hx1, Rd.mono (fun b hb _ => ⟨hst b hb, rfl⟩) _ _ hx2⟩
  · exact sv.slots t' v hv
theorem AWP.region_frz [Cx] {i : Nat} {ops : List Oper} {Q : Exit → ASt → Prop} {s : ASt} (t id d : Nat) {b : Blk} (ht : lookup s.σ t = some (.one (.ptr id 0))) (hb : s.h[id]? = some (some b)) (hfree : ∀ o ∈ ops, ∀ t', o.dst = some t' → lookup s.σ t' = none)
    (h : evOps P true ops ops (fun s' => ∃ x, lookup s'.σ d = some (sc x) ∧ Q .normal ⟨(d, sc x) :: s.σ, s.h, s.nt⟩) ⟨upd s.σ t (.one (.pv (.pin b.n b.f))), s.h.set id none, s.nt⟩) : AWP N P (.region i ops.toArray false) Q s := by
  refine AWP.of0 ?_
  rintro w0 S0 a w hN ⟨φ, sim⟩
  have hq := evOps_quiet ops (sim.frozen t id ht hb) h (Q := fun a' => ∃ x, a'.tmps[d]? = some x ∧ Q .normal ⟨(d, sc x) :: s.σ, s.h, s.nt⟩) (fun s' a' ⟨x, hx, hK⟩ sim' => by
    obtain ⟨u, hu, hr⟩ := sim'.slots d _ hx
    have hr : u = x := hr
    exact ⟨x, by rw [hu, hr], hK⟩)
  have hq2 := wpQuiet_frame ops a hq
  refine wp_region_lit (wpList_quiet (C := fun w' => Below w.heap.size w w') (fun a' w' hw' ⟨⟨x, hx, hK⟩, h2, h3, h4⟩ => ?_) ops a w ⟨rfl, rfl, rfl, Nat.le_refl _, fun _ _ => rfl⟩ hq2)
  have sim' := sim.after hw'
  refine ⟨_, hK, φ, sim'.heap, fun t' v hv => ?_, ⟨by rw [h3]; exact sim'.defers.1, sim'.defers.2⟩, by rw [h2]; exact sim'.size⟩
  simp only [lookup] at hv
  split at hv
  · rename_i e; subst e
    injection hv with hv; subst hv
    exact ⟨x, hx, rfl⟩
  · obtain ⟨u, hu, hr⟩ := sim'.slots t' v hv
    refine ⟨u, ?_, hr⟩
    rw [h4 t' fun o ho e => by rw [hfree o ho t' e] at hv; cases hv]
    exact hu
end
end Go.Proofs.Ytlomkebhopaliaa
namespace Go.Proofs.Ytlomkebhopaliaa
open Go.RowKit Go.Proofs
set_option linter.unusedSimpArgs false
set_option linter.unusedVariables false
set_option maxRecDepth 20000
theorem Fn.of_full {P : Program} {f : FuncId} {vs : List V} {D : List (List Int)} (h : FnE P f vs (fullL D.length 30 fun i => isRow (rowAt D i))) : Fn P f vs (.one (.pv (rows D))) := by
  refine ⟨h.entry, fun w S0 us hus => (h.runs w us (RdL.mono (fun _ _ _ => ⟨trivial, rfl⟩) _ _ hus)).mono ?_⟩
  rintro e w' ⟨r, u, φ, ⟨F, hF, rfl⟩, hnew, he, hh, r1⟩
  refine ⟨_, [], he, ⟨rfl, hh.below, fun id blk hi => by simp [bring, Res.list] at hi, fun i j bi bj b z z' hi => by simp [bring, Res.list] at hi⟩, ?_⟩
  show Rd w' (Stab w S0 [] []) (rows D) u
  have hb : (bring (Res.one (.fr 1 D.length ⟨30, D.length, F⟩)).list []).2[0]? = some (some ⟨30, D.length, F⟩) := rfl
  have hst : ∀ b, w.heap.size ≤ b → Stab w S0 [] [] b := fun b hb => ⟨.inr hb, fun ⟨i, x, z, h1, _⟩ => by simp at h1⟩
  rcases r1 with ⟨hφ, _, hl0, rfl⟩ | ⟨b', c, z, hφ, rfl, hc, _, _⟩
  · have hl0 : D.length = 0 := hl0
    exact ⟨none, 0, by rw [hl0], by omega, fun hp => by rw [hl0] at hp; omega⟩
  · rcases hh.blk 0 _ hb with ⟨h1, _⟩ | ⟨b'', cur, h1, h2, h3, h4, h5⟩
    · have e1 : φ[0]? = some (some (b', z)) := hφ
      rw [e1] at h1; cases h1
    · have e1 : φ[0]? = some (some (b', z)) := hφ
      rw [e1] at h1; injection h1 with h1; injection h1 with h1; injection h1 with h1 _
      subst h1
      refine ⟨_, c, rfl, hc, fun hp => ⟨b', 0, rfl, hst _ h2, fun i hi => ?_⟩⟩
      obtain ⟨x, hx1, hx2⟩ := h5 i (by show i < D.length; omega)
      have hi : i < D.length := by omega
      refine ⟨x, by rw [Nat.zero_add]; exact cell_of_blk h3 hx1, ?_⟩
      exact Bare.rd _ _ x (hF i hi).1.bare (NewV.rd (S' := Stab w S0 [] []) (fun Z hZ _ b hb => hst b (hZ b hb)) _ _ (hnew.1 i hi) hx2)
theorem Fn.of_fr {P : Program} {f : FuncId} {vs : List V} {n : Nat} {e : TypeId} {g : Nat → V} (h : Fn P f vs (.one (.fr 1 n ⟨e, n, g⟩))) : Fn P f vs (.one (.pv (.seq 1 n g))) := by
  refine ⟨h.entry, fun w S0 us hus => (h.runs w S0 us hus).mono ?_⟩
  rintro e' w' ⟨u, φ, he, hh, r1⟩
  refine ⟨u, [], he, ⟨rfl, hh.below, fun id blk hi => by simp [bring, Res.list] at hi, fun i j bi bj b z z' hi => by simp [bring, Res.list] at hi⟩, ?_⟩
  show Rd w' (Stab w S0 [] []) (.seq 1 n g) u
  have hb : (bring (Res.one (.fr 1 n ⟨e, n, g⟩)).list []).2[0]? = some (some ⟨e, n, g⟩) := rfl
  have hst : ∀ b, w.heap.size ≤ b → Stab w S0 [] [] b := fun b hb => ⟨.inr hb, fun ⟨i, x, z, h1, _⟩ => by simp at h1⟩
  rcases r1 with ⟨hφ, _, hl0, rfl⟩ | ⟨b', c, z, hφ, rfl, hc, _, _⟩
  · have hl0 : n = 0 := hl0
    exact ⟨none, 0, by rw [hl0], by omega, fun hp => by rw [hl0] at hp; omega⟩
  · rcases hh.blk 0 _ hb with ⟨h1, _⟩ | ⟨b'', cur, h1, h2, h3, h4, h5⟩
    · have e1 : φ[0]? = some (some (b', z)) := hφ
      rw [e1] at h1; cases h1
    · have e1 : φ[0]? = some (some (b', z)) := hφ
      rw [e1] at h1; injection h1 with h1; injection h1 with h1; injection h1 with h1 _
      subst h1
      refine ⟨_, c, rfl, hc, fun hp => ⟨b', 0, rfl, hst _ h2, fun i hi => ?_⟩⟩
      obtain ⟨x, hx1, hx2⟩ := h5 i (by show i < n; omega)
      refine ⟨x, by rw [Nat.zero_add]; exact cell_of_blk h3 hx1, ?_⟩
      exact Rd.mono (fun b hb _ => ⟨⟨hb.1, fun ⟨i, x, z, h1, _⟩ => by simp at h1⟩, rfl⟩) _ _ hx2
theorem unit_full (n : Nat) (hn : n ≤ 1099511627776) : FnE Try.prog 66 [vi n] (fullL n 30 fun i => isRow (rowAt (matL n wy0) i)) := by
  refine FnE.of_body (fun N => [vi n]) (fun _ _ h => h) Try.call66 Try.func66 rfl Try.ntmps66 (ts := [2]) rfl (fun _ => by simp) (fullL.shape) (fun N => ?_)
  repeat' (first | (with_reducible first | refine then_normal ?_ | refine then_ret ?_ | refine then_exit ?_ | refine block_normal ?_ | refine block_ret ?_) | ((with_reducible show blockQ _ _ _ _); first | refine block_exit ?_ | refine block_exit_ne rfl ?_) | ((with_reducible show AWP _ _ _ _ _); first | (with_reducible first | refine AWP.seq ?_ | refine AWP.block ?_ | refine AWP.region ?_ | refine AWP.ret ?_ | refine AWP.exit ?_ | refine AWP.skip ?_) | refine AWP.drawn rfl (by kernel_rfl) ?_ | refine AWP.cond rfl ?_ ?_) | with_reducible refine ev_nil ?_ | ((first | ((with_reducible show evOps _ _ _ _ _ _); (first | refine ev_step rfl ?_ | refine ev_undef rfl rfl rfl ?_); intro K hK) | ((with_reducible show EvOpen _ _ _ _ _ _ _); refine ev_open ?_; intro K hK) | ((with_reducible show SkOpen _ _ _ _ _ _ _); refine sk_open ?_; intro K hK) | ((with_reducible show callK _ _ _ _ _ _ _ _); first | fail)); simp only [evOp, evQ, withS, opd, kput, putS, upd, lookup, slotsOf, newBlk, partsK, buildSliceK, ei_rows, ea_rows, Nat.zero_le, List.nil_append, List.length_cons, List.length_nil, Nat.reduceEqDiff, Nat.reduceLT, Nat.reduceLeDiff, Nat.mul_one, Nat.zero_add, Nat.mod_one, List.getD_cons_zero, ↓reduceIte, eq_self, true_and]) | refine ev_guard rfl rfl rfl ?_ ?_ | ((with_reducible show retQ _ _ _ _); simp only [eq_self]) | (with_reducible refine hK _ ?_; clear hK K) | (with_reducible refine And.intro ?_ ?_) | (with_reducible intro hc; try simp only [eq_self] at hc) | omega)
  refine AWP.loop_entR [0] (fun x : Nat × (Nat → V) => ⟨[(0, sc (.int .i64 n)), (3, .one (.own 0 1 0 x.1)), (8, sc (.int .i64 n)), (9, sc (.int .i64 x.1))], [some ⟨30, x.1, x.2⟩], 33⟩)
    (fun x => partL N n x.1 (fun i => isRow (rowAt (matL n wy0) i)) x.2) (fun x => n - x.1) (0, fun _ => .val undef) ⟨by omega, fun i hi => by omega⟩ (by simp [EntR, EntSR, EntHR, SlR, VE, lookup, BE, upd, sc, VE.rfl']) ?_
  rintro ⟨k, F⟩ hG
  have hk := hG.1
  by_cases hkm : k < n
  · repeat' (first | (with_reducible first | refine then_normal ?_ | refine then_ret ?_ | refine then_exit ?_ | refine block_normal ?_ | refine block_ret ?_) | ((with_reducible show blockQ _ _ _ _); first | refine block_exit ?_ | refine block_exit_ne rfl ?_) | ((with_reducible show AWP _ _ _ _ _); first | (with_reducible first | refine AWP.seq ?_ | refine AWP.block ?_ | refine AWP.region ?_ | refine AWP.ret ?_ | refine AWP.exit ?_ | refine AWP.skip ?_) | refine AWP.drawn rfl (by kernel_rfl) ?_ | refine AWP.cond rfl ?_ ?_) | with_reducible refine ev_nil ?_ | ((first | ((with_reducible show evOps _ _ _ _ _ _); (first | refine ev_step rfl ?_ | refine ev_undef rfl rfl rfl ?_); intro K hK) | ((with_reducible show EvOpen _ _ _ _ _ _ _); refine ev_open ?_; intro K hK) | ((with_reducible show SkOpen _ _ _ _ _ _ _); refine sk_open ?_; intro K hK) | ((with_reducible show callK _ _ _ _ _ _ _ _); first | fail)); simp only [evOp, evQ, binK, withS, opd, kput, putS, upd, lookup, newBlk, partsK, buildSliceK, ei_ints, ea_ints, Nat.zero_le, List.nil_append, List.cons_append, List.length_cons, List.length_nil, Nat.reduceEqDiff, Nat.reduceLT, Nat.reduceLeDiff, Nat.mul_one, Nat.zero_add, Nat.mod_one, List.getD_cons_zero, ↓reduceIte, eq_self, true_and]) | refine ev_guard rfl rfl rfl ?_ ?_ | ((with_reducible show retQ _ _ _ _); simp only [eq_self]) | (with_reducible refine hK _ ?_; clear hK K) | (with_reducible refine And.intro ?_ ?_) | (with_reducible intro hc; try simp only [decide_eq_true_eq, decide_eq_false_iff_not, Int.not_lt] at hc) | omega)
    all_goals try first
      | (exfalso; omega; done)
      | (exact isRow.one (hG.2 _ (by assumption)).1)
      | (exact (by assumption : (F _).one = true))
    refine AWP.loop_entR [0, 1] (fun c : Nat => ⟨[(0, sc (.int .i64 n)), (3, .one (.own 0 1 0 k)), (4, sc (.int .i64 k)), (5, .one (.own 1 1 0 c)), (8, sc (.int .i64 n)), (9, sc (.int .i64 k)), (13, sc (.int .i64 n)), (14, sc (.int .i64 c))], [some ⟨30, k, F⟩, some ⟨3, c, fun j => vi (wy0 k j)⟩], 33⟩)
      (fun c => c ≤ n) (fun c => n - c) 0 (by omega) (by simp [EntR, EntSR, EntHR, SlR, VE, lookup, BE, upd, sc, VE.rfl']) ?_
    intro c hc
    by_cases hcm : c < n
    · repeat' (first | (with_reducible first | refine then_normal ?_ | refine then_ret ?_ | refine then_exit ?_ | refine block_normal ?_ | refine block_ret ?_) | ((with_reducible show blockQ _ _ _ _); first | refine block_exit ?_ | refine block_exit_ne rfl ?_) | ((with_reducible show AWP _ _ _ _ _); first | (with_reducible first | refine AWP.seq ?_ | refine AWP.block ?_ | refine AWP.region ?_ | refine AWP.ret ?_ | refine AWP.exit ?_ | refine AWP.skip ?_) | refine AWP.drawn rfl (by kernel_rfl) ?_ | refine AWP.cond rfl ?_ ?_) | with_reducible refine ev_nil ?_ | ((first | ((with_reducible show evOps _ _ _ _ _ _); (first | refine ev_step rfl ?_ | refine ev_undef rfl rfl rfl ?_); intro K hK) | ((with_reducible show EvOpen _ _ _ _ _ _ _); refine ev_open ?_; intro K hK) | ((with_reducible show SkOpen _ _ _ _ _ _ _); refine sk_open ?_; intro K hK) | ((with_reducible show callK _ _ _ _ _ _ _ _); first | fail)); simp only [evOp, evQ, binK, withS, opd, kput, putS, upd, lookup, InK_i64, appendK, srcK, growK, frz, newBlk, partsK, buildSliceK, plSlice, V.one, Value.oneCell', List.set_cons_zero, List.set_cons_succ, ei_ints, ea_ints, ei_rows, ea_rows, List.getElem?_cons_zero, List.getElem?_cons_succ, List.nil_append, List.cons_append, List.length_cons, List.length_nil, Nat.reduceEqDiff, Nat.reduceAdd, Nat.reduceLT, Nat.reduceLeDiff, Nat.mul_one, Nat.zero_add, Nat.mod_one, List.getD_cons_zero, ↓reduceIte, eq_self, true_and, Bool.false_eq_true, forall_const, implies_true]) | refine ev_guard rfl rfl rfl ?_ ?_ | ((with_reducible show retQ _ _ _ _); simp only [eq_self]) | (with_reducible refine hK _ ?_; clear hK K) | (with_reducible refine And.intro ?_ ?_) | (with_reducible intro hc; try simp only [decide_eq_true_eq, decide_eq_false_iff_not, beq_iff_eq, beq_eq_false_iff_ne, Int.not_lt, ne_eq] at hc) | omega)
      all_goals first
        | (exfalso; omega)
        | (exact isRow.one (hG.2 _ (by assumption)).1)
        | (rename_i q; obtain rfl : q = 0 := (by omega); rfl)
        | (exact ⟨c + 1, by omega, by omega, [0, 3], rfl, by decide, by simp [EntSR, SlR, VE, lookup, sc, VE.rfl'], BE.rfl' _, grow_be (VE.of_eq (by unfold wy0; first | rw [if_pos (by omega)] | rw [if_neg (by omega)])), trivial⟩)
        | trace_state
    · obtain rfl : c = n := by omega
      repeat' (first | ((with_reducible show evNx _ _ _ _ _ _); first | (with_reducible refine nx_done ?_) | (refine nx_one rfl ?_) | (refine nx_alt rfl ?_ ?_) | (with_reducible refine nx_st ?_)) | ((with_reducible show evSx _ _ _ _ _ _); first | (with_reducible refine sx_done ?_) | (with_reducible refine sx_st ?_) | (with_reducible refine sx_op ?_)) | ((with_reducible show evTake _ _ _ _ _); with_reducible refine take_nil ?_) | ((with_reducible show evSy _ _ _ _ _ _ _); first | (with_reducible refine sy_done ?_) | (refine sy_last rfl ?_) | (refine sy_one (by decide) rfl ?_) | (refine sy_alt (by decide) rfl ?_ ?_) | (with_reducible refine sy_st ?_)) | ((with_reducible show StK _ _ _); first | (refine stk_letRow (letRow_go (t := 5) rfl rfl (by simp) ?_) ; intro u1 Z1 hZ1 hD1 ; simp only [upd, List.set_cons_zero, List.set_cons_succ, Nat.reduceEqDiff, ↓reduceIte, eq_self]) | fail) | (with_reducible first | refine then_normal ?_ | refine then_ret ?_ | refine then_exit ?_ | refine block_normal ?_ | refine block_ret ?_) | ((with_reducible show blockQ _ _ _ _); first | refine block_exit ?_ | refine block_exit_ne rfl ?_) | ((with_reducible show AWP _ _ _ _ _); first | (refine AWP.region_sx (id := 13) [.st, .op, .op, .op, .op, .op] ?_) | (with_reducible first | refine AWP.seq ?_ | refine AWP.block ?_ | refine AWP.region ?_ | refine AWP.ret ?_ | refine AWP.exit ?_ | refine AWP.skip ?_) | refine AWP.drawn rfl (by kernel_rfl) ?_ | refine AWP.cond rfl ?_ ?_) | with_reducible refine ev_nil ?_ | ((first | ((with_reducible show evNx _ _ _ _ _ _); refine nx_take rfl ?_; intro K hK) | ((with_reducible show Ax _ _ _ _ _); first | (refine ax_op rfl ?_; intro K hK)) | ((with_reducible show evTake _ _ _ _ _); refine take_step rfl ?_; intro K hK) | ((with_reducible show evSy _ _ _ _ _ _ _); refine sy_take rfl ?_; intro K hK) | ((with_reducible show AxB _ _ _ _ _); first | (refine axb_op rfl rfl ?_; intro K hK)) | ((with_reducible show evOps _ _ _ _ _ _); (first | refine ev_step rfl ?_ | refine ev_undef rfl rfl rfl ?_); intro K hK) | ((with_reducible show EvOpen _ _ _ _ _ _ _); refine ev_open ?_; intro K hK) | ((with_reducible show SkOpen _ _ _ _ _ _ _); refine sk_open ?_; intro K hK) | ((with_reducible show callK _ _ _ _ _ _ _ _); first  | fail)); simp only [evOp, evQ, binK, withS, opd, kput, putS, upd, lookup, InK_i64, appendK, srcK, growK, frz, newBlk, partsK, buildSliceK, plSlice, V.one, Value.oneCell', List.set_cons_zero, List.set_cons_succ, ei_ints, ea_ints, ei_rows, ea_rows, List.getElem?_cons_zero, List.getElem?_cons_succ, List.nil_append, List.cons_append, List.length_cons, List.length_nil, Nat.reduceEqDiff, Nat.reduceAdd, Nat.reduceLT, Nat.reduceLeDiff, Nat.mul_one, Nat.zero_add, Nat.mod_one, List.getD_cons_zero, ↓reduceIte, eq_self, true_and, Bool.false_eq_true, forall_const, implies_true]) | refine ev_guard rfl rfl rfl ?_ ?_ | ((with_reducible show retQ _ _ _ _); simp only [eq_self]) | (with_reducible refine hK _ ?_; clear hK K) | (with_reducible refine And.intro ?_ ?_) | (with_reducible intro hc; try simp only [decide_eq_true_eq, decide_eq_false_iff_not, beq_iff_eq, beq_eq_false_iff_ne, Int.not_lt, ne_eq] at hc) | omega)
      all_goals first
        | (exfalso; omega)
        | (exact isRow.one (hG.2 _ (by assumption)).1)
        | (rename_i q; obtain rfl : q = 0 := (by omega); rfl)
        | skip
      exact ⟨(k + 1, _), hG.grow hkm (v := .row u1 Z1 1 (rowAt (matL c wy0) k).length fun j => vi ((rowAt (matL c wy0) k).getD j 0)) ⟨u1, Z1, rfl⟩ (fun b hb => hZ1 b (zofF.1 hb)) (fun q hq b ⟨Z', h1, h2⟩ hb' => hD1 Z' (zst_blk (id := 0) (i := q) rfl hq rfl h1) b h2 (zofF.1 hb')), by show c - (k + 1) < c - k; omega, [3], rfl, by decide, by simp [EntSR, SlR, VE, lookup, sc, VE.rfl'], grow_if (matL_ve hkm), trivial⟩
  · have e : k = n := by omega
    subst e
    repeat' (first | (with_reducible first | refine then_normal ?_ | refine then_ret ?_ | refine then_exit ?_ | refine block_normal ?_ | refine block_ret ?_) | ((with_reducible show blockQ _ _ _ _); first | refine block_exit ?_ | refine block_exit_ne rfl ?_) | ((with_reducible show AWP _ _ _ _ _); first | (with_reducible first | refine AWP.seq ?_ | refine AWP.block ?_ | refine AWP.region ?_ | refine AWP.ret ?_ | refine AWP.exit ?_ | refine AWP.skip ?_) | refine AWP.drawn rfl (by kernel_rfl) ?_ | refine AWP.cond rfl ?_ ?_) | with_reducible refine ev_nil ?_ | ((first | ((with_reducible show evOps _ _ _ _ _ _); (first | refine ev_step rfl ?_ | refine ev_undef rfl rfl rfl ?_); intro K hK) | ((with_reducible show EvOpen _ _ _ _ _ _ _); refine ev_open ?_; intro K hK) | ((with_reducible show SkOpen _ _ _ _ _ _ _); refine sk_open ?_; intro K hK) | ((with_reducible show callK _ _ _ _ _ _ _ _); first | fail)); simp only [evOp, evQ, binK, withS, opd, kput, putS, upd, lookup, newBlk, partsK, buildSliceK, ei_ints, ea_ints, Nat.zero_le, List.nil_append, List.cons_append, List.length_cons, List.length_nil, Nat.reduceEqDiff, Nat.reduceLT, Nat.reduceLeDiff, Nat.mul_one, Nat.zero_add, Nat.mod_one, List.getD_cons_zero, ↓reduceIte, eq_self, true_and]) | refine ev_guard rfl rfl rfl ?_ ?_ | ((with_reducible show retQ _ _ _ _); simp only [eq_self]) | (with_reducible refine hK _ ?_; clear hK K) | (with_reducible refine And.intro ?_ ?_) | (with_reducible intro hc; try simp only [decide_eq_true_eq, decide_eq_false_iff_not, Int.not_lt] at hc) | omega)
    refine ⟨_, ⟨F, fun i hi => ⟨(hG.2 i hi).1, (hG.2 i hi).2.2⟩, rfl⟩, ⟨fun i hi => NewV.of_zof (isRow.new (hG.2 i hi).1) (hG.2 i hi).2.1, trivial⟩, ?_⟩
    simp only [retOk, getL, lookup, Option.map_some, fitsL, fits, ND, srcs, Res.list, List.getElem?_cons_zero, Nat.reduceEqDiff, ↓reduceIte, and_true, true_and]
    exact ⟨⟨_, rfl, BE.rfl' _⟩, by simp⟩
def exR (m : List (List Int)) (t s : Nat) : List Int := tab m.length fun v => exN m t s v
def exL (m : List (List Int)) (t k : Nat) : List (List Int) := (List.range k).map (exR m t)
theorem exR_len (m : List (List Int)) (t s : Nat) : (exR m t s).length = m.length := tab_len _ _
theorem exR_get {m : List (List Int)} {t s v : Nat} (h : v < m.length) : (exR m t s).getD v 0 = exN m t s v := tab_get h
theorem exL_len (m : List (List Int)) (t k : Nat) : (exL m t k).length = k := by simp [exL]
theorem exL_row {m : List (List Int)} {t k s : Nat} (h : s < k) : rowAt (exL m t k) s = exR m t s := by simp [exL, rowAt, List.getD, h]
theorem exN_bd {m : List (List Int)} {t : Nat} (hm : numM m) {s v : Nat} (hs : s ≤ 100) (hv : v < m.length) : -1000000000000000 ≤ exN m t s v ∧ exN m t s v ≤ 1000000000000000 := by
  have := exN_num (t := t) hm s v hv; omega
theorem dotW_fn (a b : List Int) (hl : a.length ≤ b.length) (hn : a.length ≤ 1099511627776) (ha : ∀ i, i < a.length → -1000000000000000 ≤ a.getD i 0 ∧ a.getD i 0 ≤ 1000000000000000) (hb : ∀ i, i < a.length → -1000000000000000 ≤ b.getD i 0 ∧ b.getD i 0 ≤ 1000000000000000) :
    Fn Try.prog 90 [ints a, ints b] (.one (.pv (vi (leastN (fun i => plusI (a.getD i 0) (b.getD i 0)) a.length)))) := by
  refine Fn.of_body Try.call90 Try.func90 rfl Try.ntmps90 (ts := [4]) rfl (by simp) rfl (fun N => ?_)
  repeat' (first | (with_reducible first | refine then_normal ?_ | refine then_ret ?_ | refine then_exit ?_ | refine block_normal ?_ | refine block_ret ?_) | ((with_reducible show blockQ _ _ _ _); first | refine block_exit ?_ | refine block_exit_ne rfl ?_) | ((with_reducible show AWP _ _ _ _ _); first | (with_reducible first | refine AWP.seq ?_ | refine AWP.block ?_ | refine AWP.region ?_ | refine AWP.ret ?_ | refine AWP.exit ?_ | refine AWP.skip ?_) | refine AWP.drawn rfl (by kernel_rfl) ?_ | refine AWP.cond rfl ?_ ?_) | with_reducible refine ev_nil ?_ | ((first | ((with_reducible show evOps _ _ _ _ _ _); (first | refine ev_step rfl ?_ | refine ev_undef rfl rfl rfl ?_); intro K hK) | ((with_reducible show EvOpen _ _ _ _ _ _ _); refine ev_open ?_; intro K hK) | ((with_reducible show SkOpen _ _ _ _ _ _ _); refine sk_open ?_; intro K hK) | ((with_reducible show callK _ _ _ _ _ _ _ _); first | fail)); simp only [evOp, evQ, evB, withS, opd, kput, putS, upd, lookup, slotsOf, sz_ints, Nat.reduceEqDiff, Nat.reduceLT, Nat.zero_add, ↓reduceIte, eq_self, true_and, Option.isSome_some]) | refine ev_guard rfl rfl rfl ?_ ?_ | ((with_reducible show retQ _ _ _ _); simp only [eq_self]) | (with_reducible refine hK _ ?_; clear hK K) | (with_reducible refine And.intro ?_ ?_) | (with_reducible intro hc; try simp only [eq_self] at hc) | omega)
  refine AWP.loop_ent (fun k : Nat => ⟨[(0, .one (.pv (ints a))), (1, .one (.pv (ints b))), (5, sc (.int .i64 (leastN (fun i => plusI (a.getD i 0) (b.getD i 0)) k))), (8, sc (.int .i64 a.length)), (9, sc (.int .i64 k))], [], 25⟩)
    (fun k => k ≤ a.length) (fun k => a.length - k) 0 (by omega) (by simp [Ent, EntS, EntH, SlE, VE, VE.rfl', lookup, BE, leastN]) ?_
  intro k hk
  by_cases hka : k < a.length
  · have h1 := ha k hka
    have h2 := hb k hka
    repeat' (first | (with_reducible first | refine then_normal ?_ | refine then_ret ?_ | refine then_exit ?_ | refine block_normal ?_ | refine block_ret ?_) | ((with_reducible show blockQ _ _ _ _); first | refine block_exit ?_ | refine block_exit_ne rfl ?_) | ((with_reducible show AWP _ _ _ _ _); first | (with_reducible first | refine AWP.seq ?_ | refine AWP.block ?_ | refine AWP.region ?_ | refine AWP.ret ?_ | refine AWP.exit ?_ | refine AWP.skip ?_) | refine AWP.drawn rfl (by kernel_rfl) ?_ | refine AWP.cond rfl ?_ ?_) | with_reducible refine ev_nil ?_ | ((first | ((with_reducible show evOps _ _ _ _ _ _); (first | refine ev_step rfl ?_ | refine ev_undef rfl rfl rfl ?_); intro K hK) | ((with_reducible show EvOpen _ _ _ _ _ _ _); refine ev_open ?_; intro K hK) | ((with_reducible show SkOpen _ _ _ _ _ _ _); refine sk_open ?_; intro K hK) | ((with_reducible show callK _ _ _ _ _ _ _ _); first  | (refine call_scalar (productW_fn _ _ h1 h2) (Nat.le_of_ble_eq_true rfl) rfl ?_))); simp only [evOp, evQ, evB, binK, withS, opd, kput, putS, upd, lookup, argsK, bringIn, bring, Res.list, Res.slot, InK_i64, sz_ints, c_int, List.reverse_cons, List.reverse_nil, List.nil_append, List.cons_append, Nat.reduceEqDiff, Nat.reduceLT, Nat.mul_one, Nat.add_zero, ↓reduceIte, eq_self, true_and, Int.toNat_natCast]) | refine ev_guard rfl rfl rfl ?_ ?_ | ((with_reducible show retQ _ _ _ _); simp only [retQ, retOk, getL, lookup, Option.map_some, fitsL, fits, ND, srcs, Res.list, VE, Value.int.injEq, Nat.reduceEqDiff, ↓reduceIte, and_true, true_and]) | (with_reducible refine hK _ ?_; clear hK K) | (with_reducible refine And.intro ?_ ?_) | (with_reducible intro hc; try simp only [decide_eq_true_eq, decide_eq_false_iff_not, Int.not_lt] at hc) | omega)
    all_goals first
      | (exfalso; omega)
      | (refine ⟨k + 1, by omega, by omega, ?_⟩
         simp [Ent, EntS, EntH, SlE, VE, VE.rfl', lookup, BE, leastN_min])
      | trace_state
  · obtain rfl : k = a.length := by omega
    repeat' (first | (with_reducible first | refine then_normal ?_ | refine then_ret ?_ | refine then_exit ?_ | refine block_normal ?_ | refine block_ret ?_) | ((with_reducible show blockQ _ _ _ _); first | refine block_exit ?_ | refine block_exit_ne rfl ?_) | ((with_reducible show AWP _ _ _ _ _); first | (with_reducible first | refine AWP.seq ?_ | refine AWP.block ?_ | refine AWP.region ?_ | refine AWP.ret ?_ | refine AWP.exit ?_ | refine AWP.skip ?_) | refine AWP.drawn rfl (by kernel_rfl) ?_ | refine AWP.cond rfl ?_ ?_) | with_reducible refine ev_nil ?_ | ((first | ((with_reducible show evOps _ _ _ _ _ _); (first | refine ev_step rfl ?_ | refine ev_undef rfl rfl rfl ?_); intro K hK) | ((with_reducible show EvOpen _ _ _ _ _ _ _); refine ev_open ?_; intro K hK) | ((with_reducible show SkOpen _ _ _ _ _ _ _); refine sk_open ?_; intro K hK) | ((with_reducible show callK _ _ _ _ _ _ _ _); first | fail)); simp only [evOp, evQ, binK, withS, opd, kput, putS, upd, lookup, argsK, sz_ints, c_int, List.reverse_cons, List.reverse_nil, List.nil_append, List.cons_append, Nat.reduceEqDiff, Nat.reduceLT, Nat.mul_one, Nat.add_zero, ↓reduceIte, eq_self, true_and, Int.toNat_natCast]) | refine ev_guard rfl rfl rfl ?_ ?_ | ((with_reducible show retQ _ _ _ _); simp only [retQ, retOk, getL, lookup, Option.map_some, fitsL, fits, ND, srcs, Res.list, VE, Nat.reduceEqDiff, ↓reduceIte, and_true]) | (with_reducible refine hK _ ?_; clear hK K) | (with_reducible refine And.intro ?_ ?_) | (with_reducible intro hc; try simp only [decide_eq_true_eq, decide_eq_false_iff_not, Int.not_lt] at hc) | omega)
    all_goals first
      | (exfalso; omega)
      | rfl
      | trace_state
theorem appliedW_fn (m : List (List Int)) (t s : Nat) (h : squB m = true) (hs : s ≤ 20) : Fn Try.prog 67 [rows m, ints (exR m t s)] (.one (.fr 1 m.length (bints (exR m t (s + 1))))) := by
  obtain ⟨hn, hr, hm⟩ := squB_parts h
  have hxl := exR_len m t s
  have hd : ∀ k, k < m.length → Fn Try.prog 90 [ints (rowAt m k), ints (exR m t s)] (.one (.pv (vi ((exR m t (s + 1)).getD k 0)))) := fun k hk => by
    have hk2 := hr k hk
    have := dotW_fn (rowAt m k) (exR m t s) (by omega) (by omega) (fun i hi => by have := hm k i hk (by omega); unfold ent at this; omega) (fun i hi => by rw [exR_get (by omega)]; exact exN_bd hm (by omega) (by omega))
    rw [exR_get hk]
    have e : leastN (fun i => plusI ((rowAt m k).getD i 0) ((exR m t s).getD i 0)) (rowAt m k).length = exN m t (s + 1) k := by
      show _ = leastN (fun j => plusI (ent m k j) (exN m t s j)) m.length
      rw [hk2]
      exact leastN_congr fun j hj => by rw [exR_get hj]
    rwa [e] at this
  refine Fn.of_body Try.call67 Try.func67 rfl Try.ntmps67 (ts := [4]) rfl (by simp) rfl (fun N => ?_)
  repeat' (first | (with_reducible first | refine then_normal ?_ | refine then_ret ?_ | refine then_exit ?_ | refine block_normal ?_ | refine block_ret ?_) | ((with_reducible show blockQ _ _ _ _); first | refine block_exit ?_ | refine block_exit_ne rfl ?_) | ((with_reducible show AWP _ _ _ _ _); first | (with_reducible first | refine AWP.seq ?_ | refine AWP.block ?_ | refine AWP.region ?_ | refine AWP.ret ?_ | refine AWP.exit ?_ | refine AWP.skip ?_) | refine AWP.drawn rfl (by kernel_rfl) ?_ | refine AWP.cond rfl ?_ ?_) | with_reducible refine ev_nil ?_ | ((first | ((with_reducible show evOps _ _ _ _ _ _); (first | refine ev_step rfl ?_ | refine ev_undef rfl rfl rfl ?_); intro K hK) | ((with_reducible show EvOpen _ _ _ _ _ _ _); refine ev_open ?_; intro K hK) | ((with_reducible show SkOpen _ _ _ _ _ _ _); refine sk_open ?_; intro K hK) | ((with_reducible show callK _ _ _ _ _ _ _ _); first | fail)); simp only [evOp, evQ, evB, withS, opd, kput, putS, upd, lookup, slotsOf, newBlk, partsK, buildSliceK, ei_ints, ea_ints, sz_rows, Nat.zero_le, List.nil_append, List.length_cons, List.length_nil, Nat.reduceEqDiff, Nat.reduceLT, Nat.reduceLeDiff, Nat.mul_one, Nat.zero_add, Nat.mod_one, List.getD_cons_zero, ↓reduceIte, eq_self, true_and, Option.isSome_some]) | refine ev_guard rfl rfl rfl ?_ ?_ | ((with_reducible show retQ _ _ _ _); simp only [eq_self]) | (with_reducible refine hK _ ?_; clear hK K) | (with_reducible refine And.intro ?_ ?_) | (with_reducible intro hc; try simp only [eq_self] at hc) | omega)
  refine AWP.loop_entR [0] (fun k : Nat => ⟨[(1, .one (.pv (ints (exR m t s)))), (5, .one (.own 0 1 0 k)), (9, .one (.pv (rows m))), (10, sc (.int .i64 m.length)), (11, sc (.int .i64 k))], [some ⟨3, k, fun i => vi ((exR m t (s + 1)).getD i 0)⟩], 23⟩)
    (fun k => k ≤ m.length) (fun k => m.length - k) 0 (by omega) (by simp [EntR, EntSR, EntHR, SlR, VE, VE.rfl', lookup, BE, upd, sc]) ?_
  intro k hk
  by_cases hkm : k < m.length
  · repeat' (first | (with_reducible first | refine then_normal ?_ | refine then_ret ?_ | refine then_exit ?_ | refine block_normal ?_ | refine block_ret ?_) | ((with_reducible show blockQ _ _ _ _); first | refine block_exit ?_ | refine block_exit_ne rfl ?_) | ((with_reducible show AWP _ _ _ _ _); first | (with_reducible first | refine AWP.seq ?_ | refine AWP.block ?_ | refine AWP.region ?_ | refine AWP.ret ?_ | refine AWP.exit ?_ | refine AWP.skip ?_) | refine AWP.drawn rfl (by kernel_rfl) ?_ | refine AWP.cond rfl ?_ ?_) | with_reducible refine ev_nil ?_ | ((first | ((with_reducible show evOps _ _ _ _ _ _); (first | refine ev_step rfl ?_ | refine ev_undef rfl rfl rfl ?_); intro K hK) | ((with_reducible show EvOpen _ _ _ _ _ _ _); refine ev_open ?_; intro K hK) | ((with_reducible show SkOpen _ _ _ _ _ _ _); refine sk_open ?_; intro K hK) | ((with_reducible show callK _ _ _ _ _ _ _ _); first  | (refine call_scalar (hd k hkm) (Nat.le_of_ble_eq_true rfl) rfl ?_))); simp only [evOp, evQ, binK, withS, opd, kput, putS, upd, lookup, argsK, bringIn, bring, Res.list, Res.slot, InK_i64, appendK, srcK, growK, frz, newBlk, partsK, buildSliceK, plSlice, V.one, Value.oneCell', List.set_cons_zero, ei_ints, ea_ints, sz_rows, c_ints, List.getElem?_cons_zero, List.getElem?_cons_succ, List.reverse_cons, List.reverse_nil, List.nil_append, List.cons_append, List.length_cons, List.length_nil, Nat.reduceEqDiff, Nat.reduceAdd, Nat.reduceLT, Nat.reduceLeDiff, Nat.mul_one, Nat.add_zero, Nat.zero_add, Nat.mod_one, List.getD_cons_zero, ↓reduceIte, eq_self, true_and, Bool.false_eq_true, forall_const, implies_true, Int.toNat_natCast]) | refine ev_guard rfl rfl rfl ?_ ?_ | ((with_reducible show retQ _ _ _ _); simp only [retQ, retOk, getL, lookup, Option.map_some, fitsL, fits, ND, srcs, Res.list, List.getElem?_cons_zero, Nat.reduceEqDiff, ↓reduceIte, and_true, true_and]) | (with_reducible refine hK _ ?_; clear hK K) | (with_reducible refine And.intro ?_ ?_) | (with_reducible intro hc; try simp only [decide_eq_true_eq, decide_eq_false_iff_not, Int.not_lt] at hc) | omega)
    all_goals first
      | (exfalso; omega)
      | (rename_i q; obtain rfl : q = 0 := (by omega); rfl)
      | exact ⟨k + 1, by omega, by omega, [2], rfl, by decide, by simp [EntSR, SlR, VE, VE.rfl', lookup, sc], grow_be (VE.of_eq rfl), trivial⟩
      | trace_state
  · obtain rfl : k = m.length := by omega
    repeat' (first | (with_reducible first | refine then_normal ?_ | refine then_ret ?_ | refine then_exit ?_ | refine block_normal ?_ | refine block_ret ?_) | ((with_reducible show blockQ _ _ _ _); first | refine block_exit ?_ | refine block_exit_ne rfl ?_) | ((with_reducible show AWP _ _ _ _ _); first | (with_reducible first | refine AWP.seq ?_ | refine AWP.block ?_ | refine AWP.region ?_ | refine AWP.ret ?_ | refine AWP.exit ?_ | refine AWP.skip ?_) | refine AWP.drawn rfl (by kernel_rfl) ?_ | refine AWP.cond rfl ?_ ?_) | with_reducible refine ev_nil ?_ | ((first | ((with_reducible show evOps _ _ _ _ _ _); (first | refine ev_step rfl ?_ | refine ev_undef rfl rfl rfl ?_); intro K hK) | ((with_reducible show EvOpen _ _ _ _ _ _ _); refine ev_open ?_; intro K hK) | ((with_reducible show SkOpen _ _ _ _ _ _ _); refine sk_open ?_; intro K hK) | ((with_reducible show callK _ _ _ _ _ _ _ _); first | fail)); simp only [evOp, evQ, binK, withS, opd, kput, putS, upd, lookup, argsK, sz_rows, c_ints, List.reverse_cons, List.reverse_nil, List.nil_append, List.cons_append, Nat.reduceEqDiff, Nat.reduceLT, Nat.mul_one, Nat.add_zero, ↓reduceIte, eq_self, true_and, Int.toNat_natCast]) | refine ev_guard rfl rfl rfl ?_ ?_ | ((with_reducible show retQ _ _ _ _); simp only [retQ, retOk, getL, lookup, Option.map_some, fitsL, fits, ND, srcs, Res.list, List.getElem?_cons_zero, Nat.reduceEqDiff, ↓reduceIte, and_true, true_and]) | (with_reducible refine hK _ ?_; clear hK K) | (with_reducible refine And.intro ?_ ?_) | (with_reducible intro hc; try simp only [decide_eq_true_eq, decide_eq_false_iff_not, Int.not_lt] at hc) | omega)
    all_goals first
      | (exfalso; omega)
      | (refine ⟨_, rfl, rfl, by simp [bints, exR_len], fun i hi => VE.of_eq rfl⟩)
      | (simp; done)
      | trace_state
theorem appliedP_fn (m : List (List Int)) (t s : Nat) (h : squB m = true) (hs : s ≤ 20) : Fn Try.prog 67 [rows m, ints (exR m t s)] (.one (.pv (ints (exR m t (s + 1))))) := by
  have := appliedW_fn m t s h hs
  have e := exR_len m t (s + 1)
  unfold bints at this
  rw [← e] at this
  exact Fn.of_fr this
theorem unit_rows (n : Nat) (hn : n ≤ 1099511627776) : Fn Try.prog 66 [vi n] (.one (.pv (rows (matL n wy0)))) := by
  have h := unit_full n hn
  have e := matL_len n wy0
  refine Fn.of_full ?_
  rw [e]; exact h
theorem unit_row {m : List (List Int)} {t : Nat} (ht : t < m.length) : rowAt (matL m.length wy0) t = exR m t 0 := by
  rw [matL_row ht]
  refine List.ext_getElem (by rw [exR_len]; simp) fun i h1 h2 => ?_
  have hi : i < m.length := by simpa using h1
  have e : (exR m t 0)[i] = exN m t 0 i := by
    have := exR_get (m := m) (t := t) (s := 0) hi
    rw [List.getD, List.getElem?_eq_getElem h2] at this
    exact this
  rw [e]
  simp only [List.getElem_map, List.getElem_range]
  show wy0 t i = if i = t then 0 else 1000000000
  unfold wy0
  by_cases h : t = i
  · rw [if_pos h, if_pos h.symm]
  · rw [if_neg h, if_neg fun e => h e.symm]
theorem byStep_fn (m : List (List Int)) (t : Nat) (h : squB m = true) (ht : t < m.length) : Fn Try.prog 32 [rows m, vi t] (.one (.pv (rows (exL m t (m.length + 1))))) := by
  obtain ⟨hn, hr, hm⟩ := squB_parts h
  have hx : rows (exL m t (m.length + 1)) = .seq 1 (m.length + 1) fun i => ints (rowAt (exL m t (m.length + 1)) i) := by
    show V.seq 1 (exL m t (m.length + 1)).length _ = _
    rw [exL_len]
  rw [hx]
  refine Fn.of_fr (e := 30) ?_
  have hu := unit_rows m.length (by omega)
  have hur := unit_row ht
  have hul := matL_len m.length wy0
  generalize matL m.length wy0 = U at *
  refine Fn.of_body Try.call32 Try.func32 rfl Try.ntmps32 (ts := [4]) rfl (by simp) rfl (fun N => ?_)
  repeat' (first | (with_reducible first | refine then_normal ?_ | refine then_ret ?_ | refine then_exit ?_ | refine block_normal ?_ | refine block_ret ?_) | ((with_reducible show blockQ _ _ _ _); first | refine block_exit ?_ | refine block_exit_ne rfl ?_) | ((with_reducible show AWP _ _ _ _ _); first | (with_reducible first | refine AWP.seq ?_ | refine AWP.block ?_ | refine AWP.region ?_ | refine AWP.ret ?_ | refine AWP.exit ?_ | refine AWP.skip ?_) | refine AWP.drawn rfl (by kernel_rfl) ?_ | refine AWP.cond rfl ?_ ?_) | with_reducible refine ev_nil ?_ | ((first | ((with_reducible show evOps _ _ _ _ _ _); (first | refine ev_step rfl ?_ | refine ev_undef rfl rfl rfl ?_); intro K hK) | ((with_reducible show EvOpen _ _ _ _ _ _ _); refine ev_open ?_; intro K hK) | ((with_reducible show SkOpen _ _ _ _ _ _ _); refine sk_open ?_; intro K hK) | ((with_reducible show callK _ _ _ _ _ _ _ _); first  | (refine call_pure ( hu) (Nat.le_of_ble_eq_true rfl) ?_))); simp only [evOp, evQ, evB, withS, opd, kput, putS, upd, lookup, argsK, bringIn, bring, Res.list, Res.slot, slotsOf, frz, newBlk, partsK, buildSliceK, plSlice, V.one, sz_rows, c_ints, ei_rows, ea_rows, List.reverse_cons, List.reverse_nil, List.nil_append, List.length_cons, List.length_nil, Nat.reduceEqDiff, Nat.reduceLT, Nat.reduceLeDiff, Nat.mul_one, Nat.add_zero, Nat.zero_add, Nat.mod_one, List.getD_cons_zero, ↓reduceIte, eq_self, true_and, Bool.false_eq_true, Int.toNat_natCast, Option.isSome_some]) | refine ev_guard rfl rfl rfl ?_ ?_ | ((with_reducible show retQ _ _ _ _); simp only [eq_self]) | (with_reducible refine hK _ ?_; clear hK K) | (with_reducible refine And.intro ?_ ?_) | (with_reducible intro hc; try simp only [eq_self] at hc) | omega)
  all_goals try (exfalso; omega; done)
  all_goals try omega
  rw [hur]
  refine AWP.loop_entR [0] (fun k : Nat => ⟨[(0, .one (.pv (rows m))), (5, .one (.pv (ints (exR m t k)))), (6, .one (.own 0 1 0 (k + 1))), (16, sc (.int .i64 m.length)), (17, sc (.int .i64 k))], [some ⟨30, k + 1, fun i => ints (exR m t i)⟩], 28⟩)
    (fun k => k ≤ m.length) (fun k => m.length - k) 0 (by omega) ?_ ?_
  · simp [EntR, EntSR, EntHR, SlR, VE, VE.rfl', lookup, BE, upd, sc]
  intro k hk
  by_cases hkm : k < m.length
  · repeat' (first | (with_reducible first | refine then_normal ?_ | refine then_ret ?_ | refine then_exit ?_ | refine block_normal ?_ | refine block_ret ?_) | ((with_reducible show blockQ _ _ _ _); first | refine block_exit ?_ | refine block_exit_ne rfl ?_) | ((with_reducible show AWP _ _ _ _ _); first | (with_reducible first | refine AWP.seq ?_ | refine AWP.block ?_ | refine AWP.region ?_ | refine AWP.ret ?_ | refine AWP.exit ?_ | refine AWP.skip ?_) | refine AWP.drawn rfl (by kernel_rfl) ?_ | refine AWP.cond rfl ?_ ?_) | with_reducible refine ev_nil ?_ | ((first | ((with_reducible show evOps _ _ _ _ _ _); (first | refine ev_step rfl ?_ | refine ev_undef rfl rfl rfl ?_); intro K hK) | ((with_reducible show EvOpen _ _ _ _ _ _ _); refine ev_open ?_; intro K hK) | ((with_reducible show SkOpen _ _ _ _ _ _ _); refine sk_open ?_; intro K hK) | ((with_reducible show callK _ _ _ _ _ _ _ _); first  | (refine call_pure ( appliedP_fn m t k h (by omega)) (Nat.le_of_ble_eq_true rfl) ?_))); simp only [evOp, evQ, binK, withS, opd, kput, putS, upd, lookup, argsK, bringIn, bring, Res.list, Res.slot, InK_i64, appendK, srcK, growK, frz, newBlk, partsK, buildSliceK, plSlice, V.one, List.set_cons_zero, ei_rows, ea_rows, List.getElem?_cons_zero, List.getElem?_cons_succ, List.reverse_cons, List.reverse_nil, List.nil_append, List.cons_append, List.length_cons, List.length_nil, Nat.reduceEqDiff, Nat.reduceAdd, Nat.reduceLT, Nat.reduceLeDiff, Nat.mul_one, Nat.zero_add, Nat.mod_one, List.getD_cons_zero, ↓reduceIte, eq_self, true_and, Bool.false_eq_true, forall_const, implies_true]) | refine ev_guard rfl rfl rfl ?_ ?_ | ((with_reducible show retQ _ _ _ _); simp only [retQ, retOk, getL, lookup, Option.map_some, fitsL, fits, ND, srcs, Res.list, List.getElem?_cons_zero, Nat.reduceEqDiff, ↓reduceIte, and_true, true_and]) | (with_reducible refine hK _ ?_; clear hK K) | (with_reducible refine And.intro ?_ ?_) | (with_reducible intro hc; try simp only [decide_eq_true_eq, decide_eq_false_iff_not, Int.not_lt] at hc) | omega)
    all_goals first
      | (exfalso; omega)
      | (rename_i q; obtain rfl : q = 0 := (by omega); rfl)
      | exact ⟨k + 1, by omega, by omega, [2], rfl, by decide, by simp [EntSR, SlR, VE, VE.rfl', lookup, sc], grow_be (VE.of_eq rfl), trivial⟩
      | trace_state
  · obtain rfl : k = m.length := by omega
    repeat' (first | (with_reducible first | refine then_normal ?_ | refine then_ret ?_ | refine then_exit ?_ | refine block_normal ?_ | refine block_ret ?_) | ((with_reducible show blockQ _ _ _ _); first | refine block_exit ?_ | refine block_exit_ne rfl ?_) | ((with_reducible show AWP _ _ _ _ _); first | (with_reducible first | refine AWP.seq ?_ | refine AWP.block ?_ | refine AWP.region ?_ | refine AWP.ret ?_ | refine AWP.exit ?_ | refine AWP.skip ?_) | refine AWP.drawn rfl (by kernel_rfl) ?_ | refine AWP.cond rfl ?_ ?_) | with_reducible refine ev_nil ?_ | ((first | ((with_reducible show evOps _ _ _ _ _ _); (first | refine ev_step rfl ?_ | refine ev_undef rfl rfl rfl ?_); intro K hK) | ((with_reducible show EvOpen _ _ _ _ _ _ _); refine ev_open ?_; intro K hK) | ((with_reducible show SkOpen _ _ _ _ _ _ _); refine sk_open ?_; intro K hK) | ((with_reducible show callK _ _ _ _ _ _ _ _); first | fail)); simp only [evOp, evQ, binK, withS, opd, kput, putS, upd, lookup, argsK, List.reverse_cons, List.reverse_nil, List.nil_append, List.cons_append, Nat.reduceEqDiff, Nat.reduceLT, ↓reduceIte, eq_self, true_and]) | refine ev_guard rfl rfl rfl ?_ ?_ | ((with_reducible show retQ _ _ _ _); simp only [retQ, retOk, getL, lookup, Option.map_some, fitsL, fits, ND, srcs, Res.list, List.getElem?_cons_zero, Nat.reduceEqDiff, ↓reduceIte, and_true, true_and]) | (with_reducible refine hK _ ?_; clear hK K) | (with_reducible refine And.intro ?_ ?_) | (with_reducible intro hc; try simp only [decide_eq_true_eq, decide_eq_false_iff_not, Int.not_lt] at hc) | omega)
    all_goals first
      | (exfalso; omega)
      | (simp; done)
      | exact ⟨_, rfl, rfl, Nat.le_refl _, fun i hi => VE.of_eq (congrArg ints (exL_row hi).symm)⟩
      | trace_state
end Go.Proofs.Ytlomkebhopaliaa
