/- Parts of the proof of LawFnWayBounds: contracts of functions, laws of an abstract state, plain facts. No conditions. -/
import Derived.Test.YtlomkebhopaliaaB13
import Derived.WalkKit
namespace Go.Proofs.Ytlomkebhopaliaa
open Go.RowKit Go.Proofs
set_option linter.unusedSimpArgs false
set_option linter.unusedVariables false
set_option maxHeartbeats 1000000 in
theorem specWayBounds_fn (a b : List (List Int)) (f t : Int) (ha : a.length ≤ 1099511627776) (hb : b.length ≤ 1099511627776) (hra : ∀ i, i < a.length → (rowAt a i).length ≤ 1099511627776) (hrb : ∀ i, i < b.length → (rowAt b i).length ≤ 1099511627776) :
    Fn Try.prog 7 [rows a, rows b, vi f, vi t] (wb3 (wbR a b f t)) := by
  cases hw : wayB a b with
  | false =>
    rw [wbR_no (wbT_way hw)]
    have hbw := boWays_fn a b ha hb hra hrb
    rw [hw] at hbw
    refine Fn.of_body Try.call7 Try.func7 rfl Try.ntmps7 (ts := [8, 9, 10]) rfl (by simp) rfl (fun N => ?_)
    repeat' (first | (with_reducible first | refine then_normal ?_ | refine then_ret ?_ | refine then_exit ?_ | refine block_normal ?_ | refine block_ret ?_) | ((with_reducible show blockQ _ _ _ _); first | refine block_exit ?_ | refine block_exit_ne rfl ?_) | ((with_reducible show AWP _ _ _ _ _); first | (with_reducible first | refine AWP.seq ?_ | refine AWP.block ?_ | refine AWP.region ?_ | refine AWP.ret ?_ | refine AWP.exit ?_ | refine AWP.skip ?_) | refine AWP.drawn rfl (by kernel_rfl) ?_ | refine AWP.cond rfl ?_ ?_) | with_reducible refine ev_nil ?_ | ((first | ((with_reducible show evOps _ _ _ _ _ _); (first | refine ev_step rfl ?_ | refine ev_undef rfl rfl rfl ?_); intro K hK) | ((with_reducible show EvOpen _ _ _ _ _ _ _); refine ev_open ?_; intro K hK) | ((with_reducible show SkOpen _ _ _ _ _ _ _); refine sk_open ?_; intro K hK) | ((with_reducible show callK _ _ _ _ _ _ _ _); first  | (refine call_scalar (hbw) (Nat.le_of_ble_eq_true rfl) rfl ?_) | (refine call_scalar (l1In_fn _ _ _) (Nat.le_of_ble_eq_true rfl) rfl ?_))); simp only [evOp, evQ, withS, opd, kput, putS, upd, lookup, skipOp, argsK, bringIn, bring, Res.list, Res.slot, slotsOf, List.reverse_cons, List.reverse_nil, List.nil_append, List.cons_append, Nat.reduceEqDiff, Nat.reduceAdd, Nat.reduceLT, Nat.zero_add, ↓reduceIte, eq_self, true_and, and_true, Bool.not_false, Bool.true_eq_false, false_implies, forall_const]) | refine ev_guard rfl rfl rfl ?_ ?_ | ((with_reducible show retQ _ _ _ _); simp only [retQ, retOk, getL, lookup, Option.map_some, fitsL, fits, ND, srcs, Res.list, VE, Nat.reduceEqDiff, ↓reduceIte, and_true]) | (with_reducible refine hK _ ?_; clear hK K) | (with_reducible refine And.intro ?_ ?_) | (with_reducible intro hc; try simp only [Bool.not_false, Bool.true_eq_false] at hc) | omega)
    all_goals first
      | (exfalso; simp_all; done)
      | trace_state
  | true =>
    have hp := wayB_parts hw
    have pa := squB_parts hp.sa
    have pb := squB_parts hp.sb
    have la := dOf_lens a
    have lb := dOf_lens b
    have hl := hp.len
    have hbw := boWays_fn a b ha hb hra hrb
    rw [hw] at hbw
    refine Fn.of_body Try.call7 Try.func7 rfl Try.ntmps7 (ts := [8, 9, 10]) rfl (by simp) rfl (fun N => ?_)
    repeat' (first | (with_reducible first | refine then_normal ?_ | refine then_ret ?_ | refine then_exit ?_ | refine block_normal ?_ | refine block_ret ?_) | ((with_reducible show blockQ _ _ _ _); first | refine block_exit ?_ | refine block_exit_ne rfl ?_) | ((with_reducible show AWP _ _ _ _ _); first | (with_reducible first | refine AWP.seq ?_ | refine AWP.block ?_ | refine AWP.region ?_ | refine AWP.ret ?_ | refine AWP.exit ?_ | refine AWP.skip ?_) | refine AWP.drawn rfl (by kernel_rfl) ?_ | refine AWP.cond rfl ?_ ?_) | with_reducible refine ev_nil ?_ | ((first | ((with_reducible show evOps _ _ _ _ _ _); (first | refine ev_step rfl ?_ | refine ev_undef rfl rfl rfl ?_); intro K hK) | ((with_reducible show EvOpen _ _ _ _ _ _ _); refine ev_open ?_; intro K hK) | ((with_reducible show SkOpen _ _ _ _ _ _ _); refine sk_open ?_; intro K hK) | ((with_reducible show callK _ _ _ _ _ _ _ _); first  | (refine call_scalar (hbw) (Nat.le_of_ble_eq_true rfl) rfl ?_) | (refine call_scalar (l1In_fn _ _ _) (Nat.le_of_ble_eq_true rfl) rfl ?_) | (refine call_pure ( specCosts_fn a hp.sa) (Nat.le_of_ble_eq_true rfl) ?_) | (refine call_pure ( specCosts_fn b hp.sb) (Nat.le_of_ble_eq_true rfl) ?_) | (refine call_scalar (poFiniteW_fn _) (Nat.le_of_ble_eq_true rfl) rfl ?_))); simp only [evOp, evQ, evB, binK, withS, opd, kput, putS, upd, lookup, skipOp, argsK, bringIn, bring, Res.list, Res.slot, slotsOf, InK_i64, sz_ints, c_int, sz_rows, c_ints, List.getElem?_cons_zero, List.getElem?_cons_succ, List.reverse_cons, List.reverse_nil, List.nil_append, List.cons_append, Nat.reduceEqDiff, Nat.reduceAdd, Nat.reduceLT, Nat.mul_one, Nat.add_zero, Nat.zero_add, ↓reduceIte, eq_self, true_and, and_true, Bool.not_true, Bool.not_false, Bool.true_eq_false, Bool.false_eq_true, false_implies, forall_const, Option.isSome_some]) | refine ev_guard rfl rfl rfl ?_ ?_ | ((with_reducible show retQ _ _ _ _); simp only [retQ, retOk, getL, lookup, Option.map_some, fitsL, fits, ND, srcs, Res.list, VE, Value.bool.injEq, Value.int.injEq, Nat.reduceEqDiff, ↓reduceIte, and_true, true_and]) | (with_reducible refine hK _ ?_; clear hK K) | (with_reducible refine And.intro ?_ ?_) | (with_reducible intro hc; try simp only [Bool.not_eq_true', Bool.not_eq_false', Bool.not_false, reduceCtorEq, inB_true, inB_false, finB_true, finB_false, Bool.true_eq_false] at hc) | omega)
    all_goals first
      | (exfalso; omega)
      | (rw [la.2 _ (by omega)]; omega)
      | (rw [lb.2 _ (by omega)]; omega)
      | (rw [wbR_no (wbT_f (inB_false.2 ‹_›))]; done)
      | (rw [wbR_no (wbT_t (inB_false.2 ‹_›))]; done)
      | (rw [wbR_no (wbT_ok ‹_›)]; done)
      | (rw [wbR_no (wbT_lo (finB_false.2 ‹_›))]; done)
      | (rw [wbR_no (wbT_hi (finB_false.2 ‹_›))]; done)
      | (rw [wbR_yes (wbT_all hw (inB_true.2 ‹0 ≤ f ∧ _›) (inB_true.2 ‹0 ≤ t ∧ _›) ‹flOk a = true› (finB_true.2 ‹_›) (finB_true.2 ‹_›))]; done)
      | trace_state
set_option maxHeartbeats 1000000 in
theorem implWayBounds_fn (a b : List (List Int)) (f t : Int) (ha : a.length ≤ 1099511627776) (hb : b.length ≤ 1099511627776) (hra : ∀ i, i < a.length → (rowAt a i).length ≤ 1099511627776) (hrb : ∀ i, i < b.length → (rowAt b i).length ≤ 1099511627776) :
    Fn Try.prog 6 [rows a, rows b, vi f, vi t] (wb3 (wbR a b f t)) := by
  have hbw := areWayBounds_fn a b ha hb hra hrb
  cases hw : wayB a b with
  | false =>
    rw [wbR_no (wbT_way hw)]
    rw [hw] at hbw
    refine Fn.of_body Try.call6 Try.func6 rfl Try.ntmps6 (ts := [8, 9, 10]) rfl (by simp) rfl (fun N => ?_)
    repeat' (first | (with_reducible first | refine then_normal ?_ | refine then_ret ?_ | refine then_exit ?_ | refine block_normal ?_ | refine block_ret ?_) | ((with_reducible show blockQ _ _ _ _); first | refine block_exit ?_ | refine block_exit_ne rfl ?_) | ((with_reducible show AWP _ _ _ _ _); first | (with_reducible first | refine AWP.seq ?_ | refine AWP.block ?_ | refine AWP.region ?_ | refine AWP.ret ?_ | refine AWP.exit ?_ | refine AWP.skip ?_) | refine AWP.drawn rfl (by kernel_rfl) ?_ | refine AWP.cond rfl ?_ ?_) | with_reducible refine ev_nil ?_ | ((first | ((with_reducible show evOps _ _ _ _ _ _); (first | refine ev_step rfl ?_ | refine ev_undef rfl rfl rfl ?_); intro K hK) | ((with_reducible show EvOpen _ _ _ _ _ _ _); refine ev_open ?_; intro K hK) | ((with_reducible show SkOpen _ _ _ _ _ _ _); refine sk_open ?_; intro K hK) | ((with_reducible show callK _ _ _ _ _ _ _ _); first  | (refine call_scalar (hbw) (Nat.le_of_ble_eq_true rfl) rfl ?_))); simp only [evOp, evQ, withS, opd, kput, putS, upd, lookup, skipOp, argsK, bringIn, bring, Res.list, Res.slot, slotsOf, List.reverse_cons, List.reverse_nil, List.nil_append, List.cons_append, Nat.reduceEqDiff, Nat.reduceAdd, Nat.reduceLT, Nat.zero_add, ↓reduceIte, eq_self, true_and, and_true, Bool.not_false, Bool.true_eq_false, false_implies, forall_const]) | refine ev_guard rfl rfl rfl ?_ ?_ | ((with_reducible show retQ _ _ _ _); simp only [retQ, retOk, getL, lookup, Option.map_some, fitsL, fits, ND, srcs, Res.list, VE, Nat.reduceEqDiff, ↓reduceIte, and_true]) | (with_reducible refine hK _ ?_; clear hK K) | (with_reducible refine And.intro ?_ ?_) | (with_reducible intro hc; try simp only [Bool.not_false, Bool.true_eq_false] at hc) | omega)
    all_goals first
      | (exfalso; simp_all; done)
      | trace_state
  | true =>
    have hp := wayB_parts hw
    have pa := squB_parts hp.sa
    have pb := squB_parts hp.sb
    have la := dOf_lens a
    have lb := dOf_lens b
    have hl := hp.len
    rw [hw] at hbw
    have hv := fun (g : Nat → V) (h0 : g 0 = vi f) (h1 : g 1 = vi t) => areVertices_fn a 2 g (fun i => if i = 0 then f else t) ha (by decide) fun i hi => by
      rcases (show i = 0 ∨ i = 1 by omega) with rfl | rfl
      · exact h0
      · exact h1
    have hvt : vertB a.length (fun i => if i = 0 then f else t) 2 = (inB f 0 ((a.length : Int) - 1) && inB t 0 ((a.length : Int) - 1)) := by simp [vertB, allN, List.range_succ]
    rw [hvt] at hv
    have han := fun (x y : Int) (g : Nat → V) (h0 : g 0 = vi x) (h1 : g 1 = vi y) => (areNumbers_fn [x, y] (by simp)).of_ve (vs' := [.seq 1 2 g]) ⟨⟨rfl, rfl, fun i hi => VE.of_eq (by
      rcases (show i = 0 ∨ i = 1 by simp at hi; omega) with rfl | rfl
      · exact h0
      · exact h1)⟩, trivial⟩
    cases hf : inB f 0 ((a.length : Int) - 1) with
    | false =>
      rw [wbR_no (wbT_f hf)]
      rw [hf] at hv
      refine Fn.of_body Try.call6 Try.func6 rfl Try.ntmps6 (ts := [8, 9, 10]) rfl (by simp) rfl (fun N => ?_)
      repeat' (first | (with_reducible first | refine then_normal ?_ | refine then_ret ?_ | refine then_exit ?_ | refine block_normal ?_ | refine block_ret ?_) | ((with_reducible show blockQ _ _ _ _); first | refine block_exit ?_ | refine block_exit_ne rfl ?_) | ((with_reducible show AWP _ _ _ _ _); first | (with_reducible first | refine AWP.seq ?_ | refine AWP.block ?_ | refine AWP.region ?_ | refine AWP.ret ?_ | refine AWP.exit ?_ | refine AWP.skip ?_) | refine AWP.drawn rfl (by kernel_rfl) ?_ | refine AWP.cond rfl ?_ ?_) | with_reducible refine ev_nil ?_ | ((first | ((with_reducible show evOps _ _ _ _ _ _); (first | refine ev_step rfl ?_ | refine ev_undef rfl rfl rfl ?_); intro K hK) | ((with_reducible show EvOpen _ _ _ _ _ _ _); refine ev_open ?_; intro K hK) | ((with_reducible show SkOpen _ _ _ _ _ _ _); refine sk_open ?_; intro K hK) | ((with_reducible show callK _ _ _ _ _ _ _ _); first  | (refine call_scalar (hbw) (Nat.le_of_ble_eq_true rfl) rfl ?_) | (refine call_scalar (hv _ rfl rfl) (Nat.le_of_ble_eq_true rfl) rfl ?_))); simp only [evOp, evQ, withS, opd, kput, putS, upd, lookup, argsK, bringIn, bring, Res.list, Res.slot, slotsOf, frz, newBlk, partsK, buildSliceK, plSlice, V.one, Value.oneCell', ei_ints, ea_ints, List.getElem?_cons_zero, List.reverse_cons, List.reverse_nil, List.nil_append, List.cons_append, List.length_cons, List.length_nil, Nat.reduceEqDiff, Nat.reduceAdd, Nat.reduceLT, Nat.reduceLeDiff, Nat.mul_one, Nat.zero_add, Nat.mod_one, List.getD_cons_zero, ↓reduceIte, eq_self, true_and, Bool.not_true, Bool.false_eq_true, false_implies, forall_const]) | refine ev_guard rfl rfl rfl ?_ ?_ | ((with_reducible show retQ _ _ _ _); simp only [retQ, retOk, getL, lookup, Option.map_some, fitsL, fits, ND, srcs, Res.list, VE, Nat.reduceEqDiff, ↓reduceIte, and_true]) | (with_reducible refine hK _ ?_; clear hK K) | (with_reducible refine And.intro ?_ ?_) | (with_reducible intro hc; try simp only [Bool.not_eq_true', Bool.not_eq_false', Bool.not_false, reduceCtorEq] at hc) | omega)
      all_goals first
        | (exfalso; simp_all; done)
        | trace_state
    | true =>
    cases ht : inB t 0 ((a.length : Int) - 1) with
    | false =>
      rw [wbR_no (wbT_t ht)]
      rw [hf, ht] at hv
      refine Fn.of_body Try.call6 Try.func6 rfl Try.ntmps6 (ts := [8, 9, 10]) rfl (by simp) rfl (fun N => ?_)
      repeat' (first | (with_reducible first | refine then_normal ?_ | refine then_ret ?_ | refine then_exit ?_ | refine block_normal ?_ | refine block_ret ?_) | ((with_reducible show blockQ _ _ _ _); first | refine block_exit ?_ | refine block_exit_ne rfl ?_) | ((with_reducible show AWP _ _ _ _ _); first | (with_reducible first | refine AWP.seq ?_ | refine AWP.block ?_ | refine AWP.region ?_ | refine AWP.ret ?_ | refine AWP.exit ?_ | refine AWP.skip ?_) | refine AWP.drawn rfl (by kernel_rfl) ?_ | refine AWP.cond rfl ?_ ?_) | with_reducible refine ev_nil ?_ | ((first | ((with_reducible show evOps _ _ _ _ _ _); (first | refine ev_step rfl ?_ | refine ev_undef rfl rfl rfl ?_); intro K hK) | ((with_reducible show EvOpen _ _ _ _ _ _ _); refine ev_open ?_; intro K hK) | ((with_reducible show SkOpen _ _ _ _ _ _ _); refine sk_open ?_; intro K hK) | ((with_reducible show callK _ _ _ _ _ _ _ _); first  | (refine call_scalar (hbw) (Nat.le_of_ble_eq_true rfl) rfl ?_) | (refine call_scalar (hv _ rfl rfl) (Nat.le_of_ble_eq_true rfl) rfl ?_))); simp only [evOp, evQ, withS, opd, kput, putS, upd, lookup, argsK, bringIn, bring, Res.list, Res.slot, slotsOf, frz, newBlk, partsK, buildSliceK, plSlice, V.one, Value.oneCell', ei_ints, ea_ints, List.getElem?_cons_zero, List.reverse_cons, List.reverse_nil, List.nil_append, List.cons_append, List.length_cons, List.length_nil, Nat.reduceEqDiff, Nat.reduceAdd, Nat.reduceLT, Nat.reduceLeDiff, Nat.mul_one, Nat.zero_add, Nat.mod_one, List.getD_cons_zero, ↓reduceIte, eq_self, true_and, Bool.not_true, Bool.false_eq_true, false_implies, forall_const]) | refine ev_guard rfl rfl rfl ?_ ?_ | ((with_reducible show retQ _ _ _ _); simp only [retQ, retOk, getL, lookup, Option.map_some, fitsL, fits, ND, srcs, Res.list, VE, Nat.reduceEqDiff, ↓reduceIte, and_true]) | (with_reducible refine hK _ ?_; clear hK K) | (with_reducible refine And.intro ?_ ?_) | (with_reducible intro hc; try simp only [Bool.not_eq_true', Bool.not_eq_false', Bool.not_false, reduceCtorEq] at hc) | omega)
      all_goals first
        | (exfalso; simp_all; done)
        | trace_state
    | true =>
    rw [hf, ht] at hv
    simp only [Bool.and_true] at hv
    have hc1 := implCosts_fn a hp.sa
    have hf' := inB_true.1 hf
    have ht' := inB_true.1 ht
    cases hok : flOk a with
    | false =>
      rw [wbR_no (wbT_ok hok)]
      rw [hok] at hc1
      refine Fn.of_body Try.call6 Try.func6 rfl Try.ntmps6 (ts := [8, 9, 10]) rfl (by simp) rfl (fun N => ?_)
      repeat' (first | (with_reducible first | refine then_normal ?_ | refine then_ret ?_ | refine then_exit ?_ | refine block_normal ?_ | refine block_ret ?_) | ((with_reducible show blockQ _ _ _ _); first | refine block_exit ?_ | refine block_exit_ne rfl ?_) | ((with_reducible show AWP _ _ _ _ _); first | (with_reducible first | refine AWP.seq ?_ | refine AWP.block ?_ | refine AWP.region ?_ | refine AWP.ret ?_ | refine AWP.exit ?_ | refine AWP.skip ?_) | refine AWP.drawn rfl (by kernel_rfl) ?_ | refine AWP.cond rfl ?_ ?_) | with_reducible refine ev_nil ?_ | ((first | ((with_reducible show evOps _ _ _ _ _ _); (first | refine ev_step rfl ?_ | refine ev_undef rfl rfl rfl ?_); intro K hK) | ((with_reducible show EvOpen _ _ _ _ _ _ _); refine ev_open ?_; intro K hK) | ((with_reducible show SkOpen _ _ _ _ _ _ _); refine sk_open ?_; intro K hK) | ((with_reducible show callK _ _ _ _ _ _ _ _); first  | (refine call_scalar (hbw) (Nat.le_of_ble_eq_true rfl) rfl ?_) | (refine call_scalar (hv _ rfl rfl) (Nat.le_of_ble_eq_true rfl) rfl ?_) | (refine call_pure ( hc1) (Nat.le_of_ble_eq_true rfl) ?_))); simp only [evOp, evQ, withS, opd, kput, putS, upd, lookup, skipOp, argsK, bringIn, bring, Res.list, Res.slot, slotsOf, frz, newBlk, partsK, buildSliceK, plSlice, V.one, Value.oneCell', ei_ints, ea_ints, List.getElem?_cons_zero, List.getElem?_cons_succ, List.reverse_cons, List.reverse_nil, List.nil_append, List.cons_append, List.length_cons, List.length_nil, Nat.reduceEqDiff, Nat.reduceAdd, Nat.reduceLT, Nat.reduceLeDiff, Nat.mul_one, Nat.zero_add, Nat.mod_one, List.getD_cons_zero, ↓reduceIte, eq_self, true_and, and_true, Bool.not_true, Bool.not_false, Bool.true_eq_false, Bool.false_eq_true, false_implies, forall_const]) | refine ev_guard rfl rfl rfl ?_ ?_ | ((with_reducible show retQ _ _ _ _); simp only [retQ, retOk, getL, lookup, Option.map_some, fitsL, fits, ND, srcs, Res.list, VE, Nat.reduceEqDiff, ↓reduceIte, and_true]) | (with_reducible refine hK _ ?_; clear hK K) | (with_reducible refine And.intro ?_ ?_) | (with_reducible intro hc; try simp only [Bool.not_false, reduceCtorEq, Bool.true_eq_false] at hc) | omega)
      all_goals first
        | (exfalso; simp_all; done)
        | trace_state
    | true =>
      have hok' := ok_high pa.2.2 pb.2.2 (by omega) hl hp.le hok
      have hc2 := implCosts_fn b hp.sb
      rw [hok] at hc1
      rw [hok'] at hc2
      simp only [if_true] at hc1 hc2
      have hinf := dOf_inf hp (i := f.toNat) (c := t.toNat) (by omega) (by omega)
      by_cases hxi : ent (dOf a) f.toNat t.toNat = 1000000000
      · rw [wbR_no (wbT_lo (finB_false.2 (by omega)))]
        refine Fn.of_body Try.call6 Try.func6 rfl Try.ntmps6 (ts := [8, 9, 10]) rfl (by simp) rfl (fun N => ?_)
        repeat' (first | (with_reducible first | refine then_normal ?_ | refine then_ret ?_ | refine then_exit ?_ | refine block_normal ?_ | refine block_ret ?_) | ((with_reducible show blockQ _ _ _ _); first | refine block_exit ?_ | refine block_exit_ne rfl ?_) | ((with_reducible show AWP _ _ _ _ _); first | (with_reducible first | refine AWP.seq ?_ | refine AWP.block ?_ | refine AWP.region ?_ | refine AWP.ret ?_ | refine AWP.exit ?_ | refine AWP.skip ?_) | refine AWP.drawn rfl (by kernel_rfl) ?_ | refine AWP.cond rfl ?_ ?_) | with_reducible refine ev_nil ?_ | ((first | ((with_reducible show evOps _ _ _ _ _ _); (first | refine ev_step rfl ?_ | refine ev_undef rfl rfl rfl ?_); intro K hK) | ((with_reducible show EvOpen _ _ _ _ _ _ _); refine ev_open ?_; intro K hK) | ((with_reducible show SkOpen _ _ _ _ _ _ _); refine sk_open ?_; intro K hK) | ((with_reducible show callK _ _ _ _ _ _ _ _); first  | (refine call_scalar (hbw) (Nat.le_of_ble_eq_true rfl) rfl ?_) | (refine call_scalar (hv _ rfl rfl) (Nat.le_of_ble_eq_true rfl) rfl ?_) | (refine call_pure ( hc1) (Nat.le_of_ble_eq_true rfl) ?_))); simp only [evOp, evQ, binK, withS, opd, kput, putS, upd, lookup, argsK, bringIn, bring, Res.list, Res.slot, slotsOf, frz, newBlk, partsK, buildSliceK, plSlice, V.one, Value.oneCell', sz_ints, c_int, ei_ints, ea_ints, sz_rows, c_ints, List.getElem?_cons_zero, List.getElem?_cons_succ, List.reverse_cons, List.reverse_nil, List.nil_append, List.cons_append, List.length_cons, List.length_nil, Nat.reduceEqDiff, Nat.reduceAdd, Nat.reduceLT, Nat.reduceLeDiff, Nat.mul_one, Nat.add_zero, Nat.zero_add, Nat.mod_one, List.getD_cons_zero, ↓reduceIte, eq_self, true_and, Bool.not_true, Bool.false_eq_true, false_implies, forall_const]) | refine ev_guard rfl rfl rfl ?_ ?_ | ((with_reducible show retQ _ _ _ _); simp only [retQ, retOk, getL, lookup, Option.map_some, fitsL, fits, ND, srcs, Res.list, VE, Nat.reduceEqDiff, ↓reduceIte, and_true]) | (with_reducible refine hK _ ?_; clear hK K) | (with_reducible refine And.intro ?_ ?_) | (with_reducible intro hc; try simp only [beq_iff_eq, beq_eq_false_iff_ne, Bool.not_false, ne_eq, reduceCtorEq] at hc) | omega)
        all_goals first
          | (exfalso; omega)
          | (rw [la.2 _ (by omega)]; omega)
          | (exfalso; simp_all; done)
          | trace_state
      · have hyi : ent (dOf b) f.toNat t.toNat ≠ 1000000000 := fun e => hxi (hinf.2 e)
        have hnn : numsB [ent (dOf a) f.toNat t.toNat, ent (dOf b) f.toNat t.toNat] = (finB (ent (dOf a) f.toNat t.toNat) && finB (ent (dOf b) f.toNat t.toNat)) := by
          rw [← numB_finB hxi, ← numB_finB hyi]; exact numsB2 _ _
        have han' := han (ent (dOf a) f.toNat t.toNat) (ent (dOf b) f.toNat t.toNat)
        cases hxx : finB (ent (dOf a) f.toNat t.toNat) with
        | false =>
          rw [wbR_no (wbT_lo hxx)]
          rw [hxx] at hnn
          rw [hnn] at han'
          refine Fn.of_body Try.call6 Try.func6 rfl Try.ntmps6 (ts := [8, 9, 10]) rfl (by simp) rfl (fun N => ?_)
          repeat' (first | (with_reducible first | refine then_normal ?_ | refine then_ret ?_ | refine then_exit ?_ | refine block_normal ?_ | refine block_ret ?_) | ((with_reducible show blockQ _ _ _ _); first | refine block_exit ?_ | refine block_exit_ne rfl ?_) | ((with_reducible show AWP _ _ _ _ _); first | (with_reducible first | refine AWP.seq ?_ | refine AWP.block ?_ | refine AWP.region ?_ | refine AWP.ret ?_ | refine AWP.exit ?_ | refine AWP.skip ?_) | refine AWP.drawn rfl (by kernel_rfl) ?_ | refine AWP.cond rfl ?_ ?_) | with_reducible refine ev_nil ?_ | ((first | ((with_reducible show evOps _ _ _ _ _ _); (first | refine ev_step rfl ?_ | refine ev_undef rfl rfl rfl ?_); intro K hK) | ((with_reducible show EvOpen _ _ _ _ _ _ _); refine ev_open ?_; intro K hK) | ((with_reducible show SkOpen _ _ _ _ _ _ _); refine sk_open ?_; intro K hK) | ((with_reducible show callK _ _ _ _ _ _ _ _); first  | (refine call_scalar (hbw) (Nat.le_of_ble_eq_true rfl) rfl ?_) | (refine call_scalar (hv _ rfl rfl) (Nat.le_of_ble_eq_true rfl) rfl ?_) | (refine call_pure ( hc1) (Nat.le_of_ble_eq_true rfl) ?_) | (refine call_pure ( hc2) (Nat.le_of_ble_eq_true rfl) ?_) | (refine call_scalar (han' _ rfl rfl) (Nat.le_of_ble_eq_true rfl) rfl ?_))); simp only [evOp, evQ, binK, withS, opd, kput, putS, upd, lookup, argsK, bringIn, bring, Res.list, Res.slot, slotsOf, frz, newBlk, partsK, buildSliceK, plSlice, V.one, Value.oneCell', sz_ints, c_int, ei_ints, ea_ints, sz_rows, c_ints, List.getElem?_cons_zero, List.getElem?_cons_succ, List.reverse_cons, List.reverse_nil, List.nil_append, List.cons_append, List.length_cons, List.length_nil, Nat.reduceEqDiff, Nat.reduceAdd, Nat.reduceLT, Nat.reduceLeDiff, Nat.mul_one, Nat.add_zero, Nat.zero_add, Nat.mod_one, List.getD_cons_zero, ↓reduceIte, eq_self, true_and, Bool.not_true, Bool.false_eq_true, false_implies, forall_const]) | refine ev_guard rfl rfl rfl ?_ ?_ | ((with_reducible show retQ _ _ _ _); simp only [retQ, retOk, getL, lookup, Option.map_some, fitsL, fits, ND, srcs, Res.list, VE, Value.bool.injEq, Value.int.injEq, Nat.reduceEqDiff, ↓reduceIte, and_true, true_and]) | (with_reducible refine hK _ ?_; clear hK K) | (with_reducible refine And.intro ?_ ?_) | (with_reducible intro hc; try simp only [beq_iff_eq, beq_eq_false_iff_ne, Bool.not_eq_true', Bool.not_eq_false', Bool.not_false, ne_eq, reduceCtorEq] at hc) | omega)
          all_goals first
            | (exfalso; omega)
            | (rw [la.2 _ (by omega)]; omega)
            | (rw [lb.2 _ (by omega)]; omega)
            | (exfalso; simp_all; done)
            | trace_state
        | true =>
          cases hyy : finB (ent (dOf b) f.toNat t.toNat) with
          | false =>
            rw [wbR_no (wbT_hi hyy)]
            rw [hxx, hyy] at hnn
            rw [hnn] at han'
            refine Fn.of_body Try.call6 Try.func6 rfl Try.ntmps6 (ts := [8, 9, 10]) rfl (by simp) rfl (fun N => ?_)
            repeat' (first | (with_reducible first | refine then_normal ?_ | refine then_ret ?_ | refine then_exit ?_ | refine block_normal ?_ | refine block_ret ?_) | ((with_reducible show blockQ _ _ _ _); first | refine block_exit ?_ | refine block_exit_ne rfl ?_) | ((with_reducible show AWP _ _ _ _ _); first | (with_reducible first | refine AWP.seq ?_ | refine AWP.block ?_ | refine AWP.region ?_ | refine AWP.ret ?_ | refine AWP.exit ?_ | refine AWP.skip ?_) | refine AWP.drawn rfl (by kernel_rfl) ?_ | refine AWP.cond rfl ?_ ?_) | with_reducible refine ev_nil ?_ | ((first | ((with_reducible show evOps _ _ _ _ _ _); (first | refine ev_step rfl ?_ | refine ev_undef rfl rfl rfl ?_); intro K hK) | ((with_reducible show EvOpen _ _ _ _ _ _ _); refine ev_open ?_; intro K hK) | ((with_reducible show SkOpen _ _ _ _ _ _ _); refine sk_open ?_; intro K hK) | ((with_reducible show callK _ _ _ _ _ _ _ _); first  | (refine call_scalar (hbw) (Nat.le_of_ble_eq_true rfl) rfl ?_) | (refine call_scalar (hv _ rfl rfl) (Nat.le_of_ble_eq_true rfl) rfl ?_) | (refine call_pure ( hc1) (Nat.le_of_ble_eq_true rfl) ?_) | (refine call_pure ( hc2) (Nat.le_of_ble_eq_true rfl) ?_) | (refine call_scalar (han' _ rfl rfl) (Nat.le_of_ble_eq_true rfl) rfl ?_))); simp only [evOp, evQ, binK, withS, opd, kput, putS, upd, lookup, argsK, bringIn, bring, Res.list, Res.slot, slotsOf, frz, newBlk, partsK, buildSliceK, plSlice, V.one, Value.oneCell', sz_ints, c_int, ei_ints, ea_ints, sz_rows, c_ints, List.getElem?_cons_zero, List.getElem?_cons_succ, List.reverse_cons, List.reverse_nil, List.nil_append, List.cons_append, List.length_cons, List.length_nil, Nat.reduceEqDiff, Nat.reduceAdd, Nat.reduceLT, Nat.reduceLeDiff, Nat.mul_one, Nat.add_zero, Nat.zero_add, Nat.mod_one, List.getD_cons_zero, ↓reduceIte, eq_self, true_and, Bool.not_true, Bool.false_eq_true, false_implies, forall_const]) | refine ev_guard rfl rfl rfl ?_ ?_ | ((with_reducible show retQ _ _ _ _); simp only [retQ, retOk, getL, lookup, Option.map_some, fitsL, fits, ND, srcs, Res.list, VE, Value.bool.injEq, Value.int.injEq, Nat.reduceEqDiff, ↓reduceIte, and_true, true_and]) | (with_reducible refine hK _ ?_; clear hK K) | (with_reducible refine And.intro ?_ ?_) | (with_reducible intro hc; try simp only [beq_iff_eq, beq_eq_false_iff_ne, Bool.not_eq_true', Bool.not_eq_false', Bool.not_false, ne_eq, reduceCtorEq] at hc) | omega)
            all_goals first
              | (exfalso; omega)
              | (rw [la.2 _ (by omega)]; omega)
              | (rw [lb.2 _ (by omega)]; omega)
              | (exfalso; simp_all; done)
              | trace_state
          | true =>
            rw [wbR_yes (wbT_all hw hf ht hok hxx hyy)]
            rw [hxx, hyy] at hnn
            rw [hnn] at han'
            refine Fn.of_body Try.call6 Try.func6 rfl Try.ntmps6 (ts := [8, 9, 10]) rfl (by simp) rfl (fun N => ?_)
            repeat' (first | (with_reducible first | refine then_normal ?_ | refine then_ret ?_ | refine then_exit ?_ | refine block_normal ?_ | refine block_ret ?_) | ((with_reducible show blockQ _ _ _ _); first | refine block_exit ?_ | refine block_exit_ne rfl ?_) | ((with_reducible show AWP _ _ _ _ _); first | (with_reducible first | refine AWP.seq ?_ | refine AWP.block ?_ | refine AWP.region ?_ | refine AWP.ret ?_ | refine AWP.exit ?_ | refine AWP.skip ?_) | refine AWP.drawn rfl (by kernel_rfl) ?_ | refine AWP.cond rfl ?_ ?_) | with_reducible refine ev_nil ?_ | ((first | ((with_reducible show evOps _ _ _ _ _ _); (first | refine ev_step rfl ?_ | refine ev_undef rfl rfl rfl ?_); intro K hK) | ((with_reducible show EvOpen _ _ _ _ _ _ _); refine ev_open ?_; intro K hK) | ((with_reducible show SkOpen _ _ _ _ _ _ _); refine sk_open ?_; intro K hK) | ((with_reducible show callK _ _ _ _ _ _ _ _); first  | (refine call_scalar (hbw) (Nat.le_of_ble_eq_true rfl) rfl ?_) | (refine call_scalar (hv _ rfl rfl) (Nat.le_of_ble_eq_true rfl) rfl ?_) | (refine call_pure ( hc1) (Nat.le_of_ble_eq_true rfl) ?_) | (refine call_pure ( hc2) (Nat.le_of_ble_eq_true rfl) ?_) | (refine call_scalar (han' _ rfl rfl) (Nat.le_of_ble_eq_true rfl) rfl ?_))); simp only [evOp, evQ, binK, withS, opd, kput, putS, upd, lookup, argsK, bringIn, bring, Res.list, Res.slot, slotsOf, frz, newBlk, partsK, buildSliceK, plSlice, V.one, Value.oneCell', sz_ints, c_int, ei_ints, ea_ints, sz_rows, c_ints, List.getElem?_cons_zero, List.getElem?_cons_succ, List.reverse_cons, List.reverse_nil, List.nil_append, List.cons_append, List.length_cons, List.length_nil, Nat.reduceEqDiff, Nat.reduceAdd, Nat.reduceLT, Nat.reduceLeDiff, Nat.mul_one, Nat.add_zero, Nat.zero_add, Nat.mod_one, List.getD_cons_zero, ↓reduceIte, eq_self, true_and, Bool.not_true, Bool.false_eq_true, false_implies, forall_const]) | refine ev_guard rfl rfl rfl ?_ ?_ | ((with_reducible show retQ _ _ _ _); simp only [retQ, retOk, getL, lookup, Option.map_some, fitsL, fits, ND, srcs, Res.list, VE, Value.bool.injEq, Value.int.injEq, Nat.reduceEqDiff, ↓reduceIte, and_true, true_and]) | (with_reducible refine hK _ ?_; clear hK K) | (with_reducible refine And.intro ?_ ?_) | (with_reducible intro hc; try simp only [beq_iff_eq, beq_eq_false_iff_ne, Bool.not_eq_true', Bool.not_eq_false', Bool.not_false, ne_eq, reduceCtorEq] at hc) | omega)
            all_goals first
              | (exfalso; omega)
              | (rw [la.2 _ (by omega)]; omega)
              | (rw [lb.2 _ (by omega)]; omega)
              | (exfalso; simp_all; done)
              | trace_state
end Go.Proofs.Ytlomkebhopaliaa
namespace Go.Proofs.Ytlomkebhopaliaa
open Go.RowKit Go.Proofs
set_option linter.unusedSimpArgs false
set_option linter.unusedVariables false
structure FnPass (P : Program) (f : FuncId) (v : V) (ok : Bool) : Prop where
  entry : ∀ (args : Array Value) (w : World), (callFunc f args).run P w = .ok (.enter f args) w
  runs : ∀ (w : World) (u : Value), Gl w → Rd w (fun _ => True) v u → Calls P f #[u] w fun e w' => e = .returned (.tuple #[if ok = true then u else .slice none 0 0, .bool ok]) ∧ Below w.heap.size w w'
def passK (P : Program) (f : FuncId) (x : Operand) (d : Nat) (s : ASt) (K : ASt → Prop) : Prop :=
  ∃ (id sz n : Nat) (blk : Blk) (ok : Bool), opd s x = some (.one (.own id sz 0 n)) ∧ s.h[id]? = some (some blk) ∧ 0 + n * sz ≤ blk.n ∧ d < s.nt ∧ FnPass P f (.seq sz n fun i => blk.f (0 + i)) ok ∧
    (ok = true → K (putS s d (.many [.own id sz 0 n, .pv (vb true)]))) ∧ (ok = false → K (putS s d (.many [.pv (.val (.slice none 0 0)), .pv (vb false)])))
theorem pass_rule {N : Nat} {P : Program} {f : FuncId} {x : Operand} {d ty : Nat} {ts : Array TypeId} {pos : String} {after : Array Edge} :
    OpRule N P ⟨some d, .call ⟨.value (.func f), #[x], ts⟩, ty, pos, after, none⟩ (fun s K => passK P f x d s K) := by
  refine ⟨rfl, fun w0 S0 s φ a w K next Q hN sim h hn => ?_⟩
  obtain ⟨id, sz, n, blk, ok, hx, hb, hle, hd, hf, h1, h2⟩ := h
  have hrun : (execOp a.eval ⟨some d, .call ⟨.value (.func f), #[x], ts⟩, ty, pos, after, none⟩).run P w = .ok (.enter f #[a.eval x]) w := by
    have e : execOp a.eval ⟨some d, .call ⟨.value (.func f), #[x], ts⟩, ty, pos, after, none⟩ = callFunc f (#[] ++ #[x].map a.eval ++ #[]) := rfl
    rw [e, hf.entry]
    congr 2
    rw [← Array.toList_inj]
    simp
  unfold Oper.wp
  rw [hrun, Oper.upon_enter]
  refine (hf.runs w _ sim.gl (sim.own_seq hb hle (sim.opd hx))).mono ?_
  rintro e w' ⟨rfl, hbel⟩
  have sim' := sim.after hbel
  cases ok with
  | true => exact hn _ _ _ (h1 rfl) ⟨φ, sim'.put hd ⟨_, rfl, sim'.opd hx, rfl, trivial⟩⟩
  | false => exact hn _ _ _ (h2 rfl) ⟨φ, sim'.put hd ⟨_, rfl, rfl, rfl, trivial⟩⟩
theorem pass_go {P : Program} {f : FuncId} {x : Operand} {d : Nat} {s : ASt} {K : ASt → Prop} {id sz n : Nat} {blk : Blk} {ok : Bool} (hx : opd s x = some (.one (.own id sz 0 n))) (hb : s.h[id]? = some (some blk)) (hl : 0 + n * sz ≤ blk.n) (hd : d < s.nt)
    (hf : FnPass P f (.seq sz n fun i => blk.f (0 + i)) ok) (h1 : ok = true → K (putS s d (.many [.own id sz 0 n, .pv (vb true)]))) (h2 : ok = false → K (putS s d (.many [.pv (.val (.slice none 0 0)), .pv (vb false)]))) : passK P f x d s K :=
  ⟨id, sz, n, blk, ok, hx, hb, hl, hd, hf, h1, h2⟩
theorem AWP.region_pass3 [Cx] {N : Nat} {P : Program} {id : Nat} {o1 o2 o3 p1 p2 p3 p4 : Oper} {f : FuncId} {x : Operand} {d ty : Nat} {ts : Array TypeId} {pos : String} {after : Array Edge} {Q : Exit → ASt → Prop} {s : ASt}
    (h : evOps P false [o1, o2, o3, ⟨some d, .call ⟨.value (.func f), #[x], ts⟩, ty, pos, after, none⟩, p1, p2, p3, p4] [o1, o2, o3] (fun s' => passK P f x d s' (evOps P false [o1, o2, o3, ⟨some d, .call ⟨.value (.func f), #[x], ts⟩, ty, pos, after, none⟩, p1, p2, p3, p4] [p1, p2, p3, p4] (Q .normal))) s) :
    AWP N P (.region id #[o1, o2, o3, ⟨some d, .call ⟨.value (.func f), #[x], ts⟩, ty, pos, after, none⟩, p1, p2, p3, p4] false) Q s :=
  AWP.region_rule (os1 := [o1, o2, o3]) (os2 := [p1, p2, p3, p4]) pass_rule h
end Go.Proofs.Ytlomkebhopaliaa
namespace Go.Proofs.Ytlomkebhopaliaa
open Go.RowKit Go.Proofs
set_option linter.unusedSimpArgs false
set_option linter.unusedVariables false
theorem pt_bound {l : List Int} (h : polyB l = true) (i : Nat) : -1000000 ≤ pt l i ∧ pt l i ≤ 1000000000 := by
  unfold pt
  split
  · exact numB_le (numsB_get (polyB_nums h) ‹_›)
  · omega
theorem poAt_fn (l : List Int) (i : Nat) : Fn Try.prog 77 [ints l, vi i] (.one (.pv (vi (pt l i)))) := by
  refine Fn.of_body Try.call77 Try.func77 rfl Try.ntmps77 (ts := [4]) rfl (by simp) rfl (fun N => ?_)
  repeat' (first | (with_reducible first | refine then_normal ?_ | refine then_ret ?_ | refine then_exit ?_ | refine block_normal ?_ | refine block_ret ?_) | ((with_reducible show blockQ _ _ _ _); first | refine block_exit ?_ | refine block_exit_ne rfl ?_) | ((with_reducible show AWP _ _ _ _ _); first | (with_reducible first | refine AWP.seq ?_ | refine AWP.block ?_ | refine AWP.region ?_ | refine AWP.ret ?_ | refine AWP.exit ?_ | refine AWP.skip ?_) | refine AWP.drawn rfl (by kernel_rfl) ?_ | refine AWP.cond rfl ?_ ?_) | with_reducible refine ev_nil ?_ | ((first | ((with_reducible show evOps _ _ _ _ _ _); (first | refine ev_step rfl ?_ | refine ev_undef rfl rfl rfl ?_); intro K hK) | ((with_reducible show EvOpen _ _ _ _ _ _ _); refine ev_open ?_; intro K hK) | ((with_reducible show SkOpen _ _ _ _ _ _ _); refine sk_open ?_; intro K hK) | ((with_reducible show callK _ _ _ _ _ _ _ _); first | fail)); simp only [evOp, evQ, evB, binK, withS, opd, kput, putS, upd, lookup, slotsOf, sz_ints, c_int, Nat.reduceEqDiff, Nat.reduceLT, Nat.mul_one, Nat.add_zero, Nat.zero_add, ↓reduceIte, eq_self, true_and, Int.toNat_natCast, Option.isSome_some]) | refine ev_guard rfl rfl rfl ?_ ?_ | ((with_reducible show retQ _ _ _ _); simp only [retQ, retOk, getL, lookup, Option.map_some, fitsL, fits, ND, srcs, Res.list, VE, Value.int.injEq, Nat.reduceEqDiff, ↓reduceIte, and_true, true_and]) | (with_reducible refine hK _ ?_; clear hK K) | (with_reducible refine And.intro ?_ ?_) | (with_reducible intro hc; try simp only [decide_eq_true_eq, decide_eq_false_iff_not, Int.not_le, ge_iff_le] at hc) | omega)
  all_goals first | (rw [pt_out (by omega)]; done) | (rw [pt_in (by omega)]; done) | trace_state
theorem poAt2_fn (l : List Int) (n i : Nat) (h : i ≤ n) : Fn Try.prog 77 [ints l, vi ((n : Int) - (i : Int))] (.one (.pv (vi (pt l (n - i))))) := by
  have := poAt_fn l (n - i)
  rwa [Int.ofNat_sub h] at this
theorem nuPlus_fn (a b : Int) (ha : -1000000 ≤ a ∧ a ≤ 1000000000) (hb : -1000000 ≤ b ∧ b ≤ 1000000000) : Fn Try.prog 76 [vi a, vi b] (.one (.pv (vi (plusI a b)))) := by
  refine Fn.of_body Try.call76 Try.func76 rfl Try.ntmps76 (ts := [4]) rfl (by simp) rfl (fun N => ?_)
  repeat' (first | (with_reducible first | refine then_normal ?_ | refine then_ret ?_ | refine then_exit ?_ | refine block_normal ?_ | refine block_ret ?_) | ((with_reducible show blockQ _ _ _ _); first | refine block_exit ?_ | refine block_exit_ne rfl ?_) | ((with_reducible show AWP _ _ _ _ _); first | (with_reducible first | refine AWP.seq ?_ | refine AWP.block ?_ | refine AWP.region ?_ | refine AWP.ret ?_ | refine AWP.exit ?_ | refine AWP.skip ?_) | refine AWP.drawn rfl (by kernel_rfl) ?_ | refine AWP.cond rfl ?_ ?_) | with_reducible refine ev_nil ?_ | ((first | ((with_reducible show evOps _ _ _ _ _ _); (first | refine ev_step rfl ?_ | refine ev_undef rfl rfl rfl ?_); intro K hK) | ((with_reducible show EvOpen _ _ _ _ _ _ _); refine ev_open ?_; intro K hK) | ((with_reducible show SkOpen _ _ _ _ _ _ _); refine sk_open ?_; intro K hK) | ((with_reducible show callK _ _ _ _ _ _ _ _); first | fail)); simp only [evOp, evQ, binK, withS, opd, kput, putS, upd, lookup, skipOp, slotsOf, InK_i64, Nat.reduceEqDiff, Nat.reduceLT, Nat.zero_add, ↓reduceIte, eq_self, true_and, and_true, Bool.not_false, Bool.true_eq_false, Bool.false_eq_true, false_implies, forall_const]) | refine ev_guard rfl rfl rfl ?_ ?_ | ((with_reducible show retQ _ _ _ _); simp only [retQ, retOk, getL, lookup, Option.map_some, fitsL, fits, ND, srcs, Res.list, VE, Value.int.injEq, Nat.reduceEqDiff, ↓reduceIte, and_true, true_and]) | (with_reducible refine hK _ ?_; clear hK K) | (with_reducible refine And.intro ?_ ?_) | (with_reducible intro hc; try simp only [beq_iff_eq, beq_eq_false_iff_ne, Bool.not_false, ne_eq, reduceCtorEq, Bool.true_eq_false] at hc) | omega)
  all_goals first | (rw [plusI_a ‹_›]; done) | (rw [plusI_b ‹_›]; done) | (rw [plusI_ab ‹_› ‹_›]; done) | trace_state
theorem product2_fn (a b : Int) (ha : -1000000 ≤ a ∧ a ≤ 1000000000) (hb : -1000000 ≤ b ∧ b ≤ 1000000000) : Fn Try.prog 35 [vi a, vi b] (.one (.pv (vi (plusI a b)))) := by
  refine Fn.of_body Try.call35 Try.func35 rfl Try.ntmps35 (ts := [4]) rfl (by simp) rfl (fun N => ?_)
  repeat' (first | (with_reducible first | refine then_normal ?_ | refine then_ret ?_ | refine then_exit ?_ | refine block_normal ?_ | refine block_ret ?_) | ((with_reducible show blockQ _ _ _ _); first | refine block_exit ?_ | refine block_exit_ne rfl ?_) | ((with_reducible show AWP _ _ _ _ _); first | (with_reducible first | refine AWP.seq ?_ | refine AWP.block ?_ | refine AWP.region ?_ | refine AWP.ret ?_ | refine AWP.exit ?_ | refine AWP.skip ?_) | refine AWP.drawn rfl (by kernel_rfl) ?_ | refine AWP.cond rfl ?_ ?_) | with_reducible refine ev_nil ?_ | ((first | ((with_reducible show evOps _ _ _ _ _ _); (first | refine ev_step rfl ?_ | refine ev_undef rfl rfl rfl ?_); intro K hK) | ((with_reducible show EvOpen _ _ _ _ _ _ _); refine ev_open ?_; intro K hK) | ((with_reducible show SkOpen _ _ _ _ _ _ _); refine sk_open ?_; intro K hK) | ((with_reducible show callK _ _ _ _ _ _ _ _); first | fail)); simp only [evOp, evQ, binK, withS, opd, kput, putS, upd, lookup, skipOp, slotsOf, InK_i64, Nat.reduceEqDiff, Nat.reduceLT, Nat.zero_add, ↓reduceIte, eq_self, true_and, and_true, Bool.not_false, Bool.true_eq_false, Bool.false_eq_true, false_implies, forall_const]) | refine ev_guard rfl rfl rfl ?_ ?_ | ((with_reducible show retQ _ _ _ _); simp only [retQ, retOk, getL, lookup, Option.map_some, fitsL, fits, ND, srcs, Res.list, VE, Value.int.injEq, Nat.reduceEqDiff, ↓reduceIte, and_true, true_and]) | (with_reducible refine hK _ ?_; clear hK K) | (with_reducible refine And.intro ?_ ?_) | (with_reducible intro hc; try simp only [beq_iff_eq, beq_eq_false_iff_ne, Bool.not_false, ne_eq, reduceCtorEq, Bool.true_eq_false] at hc) | omega)
  all_goals first | (rw [plusI_a ‹_›]; done) | (rw [plusI_b ‹_›]; done) | (rw [plusI_ab ‹_› ‹_›]; done) | trace_state
theorem poGoodP_fn (p q : List Int) (hp : polyB p = true) (hq : polyB q = true) (n : Nat) (hn : n = p.length + q.length - 1) : Fn Try.prog 74 [.seq 1 n fun i => vi (leastN (cv p q i) (i + 1))] (.one (.pv (vb (polyB (prodL p q))))) := by
  have h1 := polyB_len hp
  have h2 := polyB_len hq
  refine (poGood_fn (prodL p q) (by simp; omega)).of_ve ⟨⟨rfl, by simp; exact hn, fun i hi => VE.of_eq ?_⟩, trivial⟩
  show vi _ = vi _
  rw [prodL_get (by omega)]
theorem poProduct_fn (p q : List Int) (hp : polyB p = true) (hq : polyB q = true) : Fn Try.prog 46 [ints p, ints q] (.many [.fr 1 (prodR p q).1.length (bints (prodR p q).1), .pv (vb (prodR p q).2)]) := by
  have h1 := polyB_len hp
  have h2 := polyB_len hq
  refine Fn.of_body Try.call46 Try.func46 rfl Try.ntmps46 (ts := [4, 5]) rfl (by simp) rfl (fun N => ?_)
  repeat' (first | (with_reducible first | refine then_normal ?_ | refine then_ret ?_ | refine then_exit ?_ | refine block_normal ?_ | refine block_ret ?_) | ((with_reducible show blockQ _ _ _ _); first | refine block_exit ?_ | refine block_exit_ne rfl ?_) | ((with_reducible show AWP _ _ _ _ _); first | (with_reducible first | refine AWP.seq ?_ | refine AWP.block ?_ | refine AWP.region ?_ | refine AWP.ret ?_ | refine AWP.exit ?_ | refine AWP.skip ?_) | refine AWP.drawn rfl (by kernel_rfl) ?_ | refine AWP.cond rfl ?_ ?_) | with_reducible refine ev_nil ?_ | ((first | ((with_reducible show evOps _ _ _ _ _ _); (first | refine ev_step rfl ?_ | refine ev_undef rfl rfl rfl ?_); intro K hK) | ((with_reducible show EvOpen _ _ _ _ _ _ _); refine ev_open ?_; intro K hK) | ((with_reducible show SkOpen _ _ _ _ _ _ _); refine sk_open ?_; intro K hK) | ((with_reducible show callK _ _ _ _ _ _ _ _); first | fail)); simp only [evOp, evQ, withS, opd, kput, putS, upd, slotsOf, Nat.reduceEqDiff, Nat.reduceLT, Nat.zero_add, ↓reduceIte, true_and]) | refine ev_guard rfl rfl rfl ?_ ?_ | ((with_reducible show retQ _ _ _ _); simp only [eq_self]) | (with_reducible refine hK _ ?_; clear hK K) | (with_reducible refine And.intro ?_ ?_) | (with_reducible intro hc; try simp only [eq_self] at hc) | omega)
  refine AWP.virtual 6 3 1 rfl ?_
  refine AWP.loop_entR [0] (fun n : Nat => ⟨[(0, .one (.pv (ints p))), (1, .one (.pv (ints q))), (6, .one (.own 0 1 0 n)), (7, sc (.int .i64 n))], [some ⟨3, n, fun i => vi (leastN (cv p q i) (i + 1))⟩], 44⟩)
    (fun n => n ≤ p.length + q.length - 1) (fun n => p.length + q.length - 1 - n) 0 (by omega) (by simp [EntR, EntSR, EntHR, SlR, VE, lookup, BE, upd, sc]) ?_
  intro n hn
  repeat' (first | (with_reducible first | refine then_normal ?_ | refine then_ret ?_ | refine then_exit ?_ | refine block_normal ?_ | refine block_ret ?_) | ((with_reducible show blockQ _ _ _ _); first | refine block_exit ?_ | refine block_exit_ne rfl ?_) | ((with_reducible show AWP _ _ _ _ _); first | (with_reducible first | refine AWP.seq ?_ | refine AWP.block ?_ | refine AWP.region ?_ | refine AWP.ret ?_ | refine AWP.exit ?_ | refine AWP.skip ?_) | refine AWP.drawn rfl (by kernel_rfl) ?_ | refine AWP.cond rfl ?_ ?_) | with_reducible refine ev_nil ?_ | ((first | ((with_reducible show evOps _ _ _ _ _ _); (first | refine ev_step rfl ?_ | refine ev_undef rfl rfl rfl ?_); intro K hK) | ((with_reducible show EvOpen _ _ _ _ _ _ _); refine ev_open ?_; intro K hK) | ((with_reducible show SkOpen _ _ _ _ _ _ _); refine sk_open ?_; intro K hK) | ((with_reducible show callK _ _ _ _ _ _ _ _); first  | (refine call_scalar (poGoodP_fn p q hp hq n (by omega)) (Nat.le_of_ble_eq_true rfl) rfl ?_))); simp only [evOp, evQ, evB, binK, withS, opd, kput, putS, upd, lookup, argsK, bringIn, bring, Res.list, Res.slot, InK_i64, sz_ints, List.getElem?_cons_zero, List.reverse_cons, List.reverse_nil, List.nil_append, Nat.reduceEqDiff, Nat.reduceLT, Nat.mul_one, Nat.zero_add, ↓reduceIte, eq_self, true_and, Option.isSome_some]) | refine ev_guard rfl rfl rfl ?_ ?_ | ((with_reducible show retQ _ _ _ _); simp only [retQ, retOk, getL, lookup, Option.map_some, fitsL, fits, ND, srcs, Res.list, VE, List.getElem?_cons_zero, Value.bool.injEq, Nat.reduceEqDiff, ↓reduceIte, and_true, true_and]) | (with_reducible refine hK _ ?_; clear hK K) | (with_reducible refine And.intro ?_ ?_) | (with_reducible intro hc; try simp only [decide_eq_true_eq, decide_eq_false_iff_not, Bool.not_eq_true', Bool.not_eq_false', Int.not_lt] at hc) | omega)
  · refine AWP.loop_ent (fun i : Nat => ⟨[(0, .one (.pv (ints p))), (1, .one (.pv (ints q))), (6, .one (.own 0 1 0 n)), (7, sc (.int .i64 n)), (8, sc (.int .i64 (leastN (cv p q n) i))), (9, sc (.int .i64 i))], [some ⟨3, n, fun i => vi (leastN (cv p q i) (i + 1))⟩], 44⟩)
      (fun i => i ≤ n + 1) (fun i => n + 1 - i) 0 (by omega) (by simp [Ent, EntS, EntH, SlE, VE, lookup, BE, leastN, VE.rfl']) ?_
    intro i hi
    repeat' (first | (with_reducible first | refine then_normal ?_ | refine then_ret ?_ | refine then_exit ?_ | refine block_normal ?_ | refine block_ret ?_) | ((with_reducible show blockQ _ _ _ _); first | refine block_exit ?_ | refine block_exit_ne rfl ?_) | ((with_reducible show AWP _ _ _ _ _); first | (with_reducible first | refine AWP.seq ?_ | refine AWP.block ?_ | refine AWP.region ?_ | refine AWP.ret ?_ | refine AWP.exit ?_ | refine AWP.skip ?_) | refine AWP.drawn rfl (by kernel_rfl) ?_ | refine AWP.cond rfl ?_ ?_) | with_reducible refine ev_nil ?_ | ((first | ((with_reducible show evOps _ _ _ _ _ _); (first | refine ev_step rfl ?_ | refine ev_undef rfl rfl rfl ?_); intro K hK) | ((with_reducible show EvOpen _ _ _ _ _ _ _); refine ev_open ?_; intro K hK) | ((with_reducible show SkOpen _ _ _ _ _ _ _); refine sk_open ?_; intro K hK) | ((with_reducible show callK _ _ _ _ _ _ _ _); first  | (refine call_scalar (poAt_fn p i) (Nat.le_of_ble_eq_true rfl) rfl ?_) | (refine call_scalar (poAt2_fn q n i (by omega)) (Nat.le_of_ble_eq_true rfl) rfl ?_) | (refine call_scalar (nuPlus_fn _ _ (pt_bound hp _) (pt_bound hq _)) (Nat.le_of_ble_eq_true rfl) rfl ?_) | (refine call_scalar (l1Least_fn _ _) (Nat.le_of_ble_eq_true rfl) rfl ?_))); simp only [evOp, evQ, binK, withS, opd, kput, putS, upd, lookup, argsK, bringIn, bring, Res.list, Res.slot, InK_i64, appendK, srcK, growK, frz, newBlk, partsK, buildSliceK, plSlice, V.one, Value.oneCell', List.set_cons_zero, ei_ints, ea_ints, List.getElem?_cons_zero, List.getElem?_cons_succ, List.reverse_cons, List.reverse_nil, List.nil_append, List.cons_append, List.length_cons, List.length_nil, Nat.reduceEqDiff, Nat.reduceAdd, Nat.reduceLT, Nat.reduceLeDiff, Nat.mul_one, Nat.zero_add, Nat.mod_one, List.getD_cons_zero, ↓reduceIte, eq_self, true_and, Bool.false_eq_true, forall_const, implies_true]) | refine ev_guard rfl rfl rfl ?_ ?_ | ((with_reducible show retQ _ _ _ _); simp only [eq_self]) | (with_reducible refine hK _ ?_; clear hK K) | (with_reducible refine And.intro ?_ ?_) | (with_reducible intro hc; try simp only [decide_eq_true_eq, decide_eq_false_iff_not, Int.not_le] at hc) | omega)
    all_goals first
      | (have e : leastN (cv p q n) (i + 1) = if leastN (cv p q n) i < plusI (pt p i) (pt q (n - i)) then leastN (cv p q n) i else plusI (pt p i) (pt q (n - i)) := by
           show (if leastN (cv p q n) i < cv p q n i then _ else cv p q n i) = _
           rw [show cv p q n i = plusI (pt p i) (pt q (n - i)) from if_pos (by omega)]
         refine ⟨i + 1, by omega, by omega, ?_⟩
         simp [Ent, EntS, EntH, SlE, VE, lookup, BE, e, VE.rfl']
         done)
      | (rename_i i; obtain rfl : i = 0 := (by omega); rfl)
      | (obtain rfl : i = n + 1 := by omega
         exact ⟨n + 1, by omega, by omega, [2], rfl, by decide, by simp [EntSR, SlR, VE, lookup, sc], grow_be (VE.of_eq rfl), trivial⟩)
      | trace_state
  all_goals first
    | (simp [prodR_no ‹polyB (prodL p q) = false›, bints]; done)
    | (simp [prodR_yes ‹polyB (prodL p q) = true›]; omega)
    | (simp [prodR_yes ‹polyB (prodL p q) = true›]; done)
    | (obtain rfl : n = p.length + q.length - 1 := by omega
       rw [prodR_yes ‹polyB (prodL p q) = true›]
       refine ⟨_, rfl, rfl, by simp [bints], fun i hi => VE.of_eq ?_⟩
       simp only [bints, prodL_len] at hi
       show vi _ = vi _
       rw [prodL_get (by omega)])
    | trace_state
set_option maxRecDepth 20000 in
theorem toldPoly_pass (v : V) (ok : Bool) (hf : Fn Try.prog 47 [v] (.one (.pv (vb ok)))) : FnPass Try.prog 48 v ok := by
  refine ⟨Try.call48, fun w u hg hu => ?_⟩
  go_enter Try.func48, Try.ntmps48
  go_wp2_with fail
  refine Calls.mono (hf.runs _ (fun _ => True) [u] ⟨hu, hg⟩) ?_
  rintro e w' ⟨u', φ, rfl, hh, hr⟩
  obtain rfl : u' = .bool ok := hr
  have hb := hh.below
  cases ok
  · go_wp2
    go_ret2
    exact ⟨rfl, hb⟩
  · go_wp2
    go_ret2
    exact ⟨rfl, hb⟩
abbrev pn (p q : List Int) : Nat := ((p.length : Int) + (q.length : Int) - 1).toNat
theorem polyProduct_fn (p q : List Int) (hp : polyB p = true) (hq : polyB q = true) : Fn Try.prog 49 [ints p, ints q] (.one (.fr 1 (prodL p q).length (bints (prodL p q)))) := by
  have h1 := polyB_len hp
  have h2 := polyB_len hq
  have hN : pn p q = p.length + q.length - 1 := by show Int.toNat _ = _; omega
  have hN' : (((p.length : Int) + (q.length : Int) - 1).toNat : Int) = (p.length : Int) + (q.length : Int) - 1 := by omega
  refine Fn.of_body Try.call49 Try.func49 rfl Try.ntmps49 (ts := [4]) rfl (by simp) rfl (fun N => ?_)
  repeat' (first | (with_reducible first | refine then_normal ?_ | refine then_ret ?_ | refine then_exit ?_ | refine block_normal ?_ | refine block_ret ?_) | ((with_reducible show blockQ _ _ _ _); first | refine block_exit ?_ | refine block_exit_ne rfl ?_) | ((with_reducible show AWP _ _ _ _ _); first | (with_reducible first | refine AWP.seq ?_ | refine AWP.block ?_ | refine AWP.region ?_ | refine AWP.ret ?_ | refine AWP.exit ?_ | refine AWP.skip ?_) | refine AWP.drawn rfl (by kernel_rfl) ?_ | refine AWP.cond rfl ?_ ?_) | with_reducible refine ev_nil ?_ | ((first | ((with_reducible show evOps _ _ _ _ _ _); (first | refine ev_step rfl ?_ | refine ev_undef rfl rfl rfl ?_); intro K hK) | ((with_reducible show EvOpen _ _ _ _ _ _ _); refine ev_open ?_; intro K hK) | ((with_reducible show SkOpen _ _ _ _ _ _ _); refine sk_open ?_; intro K hK) | ((with_reducible show callK _ _ _ _ _ _ _ _); first | fail)); simp only [evOp, evQ, evB, binK, withS, opd, kput, putS, upd, lookup, slotsOf, InK_i64, makeK, newBlk, sz_ints, ei_ints, List.nil_append, List.length_cons, List.length_nil, Nat.reduceEqDiff, Nat.reduceLT, Nat.mul_one, Nat.zero_add, Nat.mod_one, List.getD_cons_zero, ↓reduceIte, eq_self, true_and, Option.isSome_some]) | refine ev_guard rfl rfl rfl ?_ ?_ | ((with_reducible show retQ _ _ _ _); simp only [eq_self]) | (with_reducible refine hK _ ?_; clear hK K) | (with_reducible refine And.intro ?_ ?_) | (with_reducible intro hc; try simp only [eq_self] at hc) | omega)
  refine AWP.loop_ent (fun k : Nat => ⟨[(0, .one (.pv (ints p))), (1, .one (.pv (ints q))), (5, .one (.own 0 1 0 (pn p q))), (18, .one (.own 0 1 0 (pn p q))), (19, sc (.int .i64 (pn p q))), (20, sc (.int .i64 k))], [some ⟨3, pn p q, fun i => if i < k then vi 1000000000 else vi 0⟩], 59⟩)
    (fun k => k ≤ pn p q) (fun k => pn p q - k) 0 (by omega) (by simp [Ent, EntS, EntH, SlE, VE, lookup, BE, VE.rfl']) ?_
  intro k hk
  repeat' (first | (with_reducible first | refine then_normal ?_ | refine then_ret ?_ | refine then_exit ?_ | refine block_normal ?_ | refine block_ret ?_) | ((with_reducible show blockQ _ _ _ _); first | refine block_exit ?_ | refine block_exit_ne rfl ?_) | ((with_reducible show AWP _ _ _ _ _); first | (with_reducible first | refine AWP.seq ?_ | refine AWP.block ?_ | refine AWP.region ?_ | refine AWP.ret ?_ | refine AWP.exit ?_ | refine AWP.skip ?_) | refine AWP.drawn rfl (by kernel_rfl) ?_ | refine AWP.cond rfl ?_ ?_) | with_reducible refine ev_nil ?_ | ((first | ((with_reducible show evOps _ _ _ _ _ _); (first | refine ev_step rfl ?_ | refine ev_undef rfl rfl rfl ?_); intro K hK) | ((with_reducible show EvOpen _ _ _ _ _ _ _); refine ev_open ?_; intro K hK) | ((with_reducible show SkOpen _ _ _ _ _ _ _); refine sk_open ?_; intro K hK) | ((with_reducible show callK _ _ _ _ _ _ _ _); first | fail)); simp only [evOp, evQ, evB, binK, withS, opd, kput, putS, upd, lookup, InK_i64, storeK, frz, storeV, setBlk, V.one, Value.oneCell', List.set_cons_zero, sz_ints, c_int, List.getElem?_cons_zero, Nat.reduceEqDiff, Nat.reduceLT, Nat.mul_one, Nat.zero_add, ↓reduceIte, eq_self, true_and, Int.toNat_natCast, Option.isSome_some]) | refine ev_guard rfl rfl rfl ?_ ?_ | ((with_reducible show retQ _ _ _ _); simp only [eq_self]) | (with_reducible refine hK _ ?_; clear hK K) | (with_reducible refine And.intro ?_ ?_) | (with_reducible intro hc; try simp only [decide_eq_true_eq, decide_eq_false_iff_not, Int.not_lt] at hc) | omega)
  · refine ⟨k + 1, by omega, by omega, ?_⟩
    simp [Ent, EntS, EntH, SlE, VE, lookup, BE, VE.rfl']
    intro i hi
    apply VE.of_eq
    by_cases h1 : i = k
    · subst h1; simp
    · simp only [h1, if_false]
      by_cases h2 : i < k
      · rw [if_pos h2, if_pos (by omega)]
      · rw [if_neg h2, if_neg (by omega)]
  obtain rfl : k = pn p q := by omega
  refine AWP.loop_ent (fun i : Nat => ⟨[(0, .one (.pv (ints p))), (1, .one (.pv (ints q))), (5, .one (.own 0 1 0 (pn p q))), (27, .one (.pv (ints p))), (28, sc (.int .i64 p.length)), (29, sc (.int .i64 i))], [some ⟨3, pn p q, fun m => vi (cell p q m i 0)⟩], 59⟩)
    (fun i => i ≤ p.length) (fun i => p.length - i) 0 (by omega) ?_ ?_
  · simp [Ent, EntS, EntH, SlE, VE, lookup, BE, VE.rfl']
    intro m hm
    apply VE.of_eq
    rw [if_pos hm, cell_first]
  intro i hi
  repeat' (first | (with_reducible first | refine then_normal ?_ | refine then_ret ?_ | refine then_exit ?_ | refine block_normal ?_ | refine block_ret ?_) | ((with_reducible show blockQ _ _ _ _); first | refine block_exit ?_ | refine block_exit_ne rfl ?_) | ((with_reducible show AWP _ _ _ _ _); first | (with_reducible first | refine AWP.seq ?_ | refine AWP.block ?_ | refine AWP.region ?_ | refine AWP.ret ?_ | refine AWP.exit ?_ | refine AWP.skip ?_) | refine AWP.drawn rfl (by kernel_rfl) ?_ | refine AWP.cond rfl ?_ ?_) | with_reducible refine ev_nil ?_ | ((first | ((with_reducible show evOps _ _ _ _ _ _); (first | refine ev_step rfl ?_ | refine ev_undef rfl rfl rfl ?_); intro K hK) | ((with_reducible show EvOpen _ _ _ _ _ _ _); refine ev_open ?_; intro K hK) | ((with_reducible show SkOpen _ _ _ _ _ _ _); refine sk_open ?_; intro K hK) | ((with_reducible show callK _ _ _ _ _ _ _ _); first | fail)); simp only [evOp, evQ, evB, binK, withS, opd, kput, putS, upd, lookup, sz_ints, c_int, Nat.reduceEqDiff, Nat.reduceLT, Nat.mul_one, Nat.add_zero, ↓reduceIte, eq_self, true_and, Int.toNat_natCast, Option.isSome_some]) | refine ev_guard rfl rfl rfl ?_ ?_ | ((with_reducible show retQ _ _ _ _); simp only [retQ, retOk, getL, lookup, Option.map_some, fitsL, fits, ND, srcs, Res.list, List.getElem?_cons_zero, Nat.reduceEqDiff, ↓reduceIte, and_true, true_and]) | (with_reducible refine hK _ ?_; clear hK K) | (with_reducible refine And.intro ?_ ?_) | (with_reducible intro hc; try simp only [decide_eq_true_eq, decide_eq_false_iff_not, Int.not_lt] at hc) | omega)
  · refine AWP.loop_ent (fun k : Nat => ⟨[(0, .one (.pv (ints p))), (1, .one (.pv (ints q))), (5, .one (.own 0 1 0 (pn p q))), (7, sc (.int .i64 i)), (8, sc (.int .i64 (p.getD i 0))), (27, .one (.pv (ints p))), (28, sc (.int .i64 p.length)), (29, sc (.int .i64 i)), (34, .one (.pv (ints q))), (35, sc (.int .i64 q.length)), (36, sc (.int .i64 k))], [some ⟨3, pn p q, fun m => vi (cell p q m i k)⟩], 59⟩)
      (fun k => k ≤ q.length) (fun k => q.length - k) 0 (by omega) (by simp [Ent, EntS, EntH, SlE, VE, lookup, BE, VE.rfl']) ?_
    intro k hk2
    have hik : ((i : Int) + (k : Int)).toNat = i + k := by omega
    repeat' (first | ((with_reducible show evTake _ _ _ _ _); first | (with_reducible refine take_nil ?_) | (refine take_step rfl ?_; intro K hK; simp only [evOp, evQ, binK, withS, opd, kput, putS, upd, lookup, InK_i64, sz_ints, Nat.reduceEqDiff, Nat.reduceLT, Nat.mul_one, Nat.zero_add, ↓reduceIte, eq_self, true_and])) | ((with_reducible show evTr _ _ _ _ _); first | (with_reducible refine tr_done ?_) | (refine tr_one rfl ?_; intro K hK; simp only [evOp, evQ, evB, opd, kput, putS, upd, lookup, argsK, loadOwn, storeK, frz, storeV, setBlk, V.one, Value.oneCell', List.set_cons_zero, sz_ints, c_int, List.getElem?_cons_zero, List.reverse_cons, List.reverse_nil, List.nil_append, List.cons_append, Nat.reduceEqDiff, Nat.reduceLT, Nat.mul_one, Nat.zero_add, ↓reduceIte, eq_self, true_and]) | (refine tr_two rfl rfl ?_ ?_)) | ((with_reducible show TrOpen _ _ _ _ _ _); refine tr_open ?_; intro K hK; simp only [evOp, evQ, opd, kput, putS, upd, lookup, argsK, loadOwn, c_int, List.getElem?_cons_zero, List.reverse_cons, List.reverse_nil, List.nil_append, List.cons_append, Nat.reduceEqDiff, Nat.reduceLT, ↓reduceIte, eq_self, true_and]) | (with_reducible first | refine then_normal ?_ | refine then_ret ?_ | refine then_exit ?_ | refine block_normal ?_ | refine block_ret ?_) | ((with_reducible show blockQ _ _ _ _); first | refine block_exit ?_ | refine block_exit_ne rfl ?_) | ((with_reducible show AWP _ _ _ _ _); first | (refine AWP.drawn_tree  [0, 1, 2, 3, 4, 5, 6, 7, 8, 10, 11] (.two 9 (.one 12 (.one 13 (.one 14 (.one 15 .done)))) 12 (.one 9 (.one 13 (.one 14 (.one 15 .done))))) rfl (by kernel_rfl) ?_) | (with_reducible first | refine AWP.seq ?_ | refine AWP.block ?_ | refine AWP.region ?_ | refine AWP.ret ?_ | refine AWP.exit ?_ | refine AWP.skip ?_) | refine AWP.drawn rfl (by kernel_rfl) ?_ | refine AWP.cond rfl ?_ ?_) | with_reducible refine ev_nil ?_ | ((first | ((with_reducible show evOps _ _ _ _ _ _); (first | refine ev_step rfl ?_ | refine ev_undef rfl rfl rfl ?_); intro K hK) | ((with_reducible show EvOpen _ _ _ _ _ _ _); refine ev_open ?_; intro K hK) | ((with_reducible show SkOpen _ _ _ _ _ _ _); refine sk_open ?_; intro K hK) | ((with_reducible show callK _ _ _ _ _ _ _ _); first  | (refine call_scalar (product2_fn _ _ (numB_le (numsB_get (polyB_nums hp) (by omega))) (numB_le (numsB_get (polyB_nums hq) (by omega)))) (Nat.le_of_ble_eq_true rfl) rfl ?_))); simp only [evOp, evQ, binK, withS, opd, kput, putS, upd, lookup, bringIn, bring, Res.list, Res.slot, InK_i64, sz_ints, c_int, Nat.reduceEqDiff, Nat.reduceLT, Nat.mul_one, Nat.add_zero, ↓reduceIte, eq_self, true_and, Int.toNat_natCast]) | refine ev_guard rfl rfl rfl ?_ ?_ | ((with_reducible show retQ _ _ _ _); simp only [eq_self]) | (with_reducible refine hK _ ?_; clear hK K) | (with_reducible refine And.intro ?_ ?_) | (with_reducible intro hc; try simp only [decide_eq_true_eq, decide_eq_false_iff_not, Int.not_lt] at hc) | omega)
    all_goals first
      | (refine ⟨k + 1, by omega, by omega, ?_⟩
         simp [Ent, EntS, EntH, SlE, VE, lookup, BE, VE.rfl', hik]
         intro m hm
         apply VE.of_eq
         by_cases h3 : m = i + k
         · subst h3; simp [cell_step p q i k (by omega) (by omega)]
         · simp [h3, cell_else p q m i k h3])
      | (obtain rfl : k = q.length := by omega
         refine ⟨i + 1, by omega, by omega, rfl, by simp [EntS, SlE, VE, lookup, VE.rfl'], ⟨rfl, Nat.le_refl _, fun m hm => VE.of_eq ?_⟩, trivial⟩
         show vi (cell p q m i q.length) = vi (cell p q m (i + 1) 0)
         rw [cell_row])
      | trace_state
  all_goals obtain rfl : i = p.length := by omega
  all_goals first
    | (rw [prodL_len]; omega)
    | (refine ⟨_, rfl, rfl, by simp [bints]; omega, fun m hm => VE.of_eq ?_⟩
       simp only [bints, prodL_len] at hm
       show vi _ = vi _
       rw [cell_done, prodL_get hm])
    | simp
    | trace_state
theorem toldProd_pass (p q : List Int) (hp : polyB p = true) (hq : polyB q = true) : FnPass Try.prog 48 (.seq 1 (prodL p q).length fun i => (bints (prodL p q)).f (0 + i)) (polyB (prodL p q)) := by
  have h1 := polyB_len hp
  have h2 := polyB_len hq
  refine toldPoly_pass _ (polyB (prodL p q)) ((isPoly_fn (prodL p q) (by simp; omega)).of_ve ⟨⟨rfl, rfl, fun i hi => VE.of_eq ?_⟩, trivial⟩)
  show vi ((prodL p q).getD (0 + i) 0) = vi ((prodL p q).getD i 0)
  rw [Nat.zero_add]
theorem implPolyProduct_fn (p q : List Int) (hp : polyB p = true) (hq : polyB q = true) : Fn Try.prog 18 [ints p, ints q] (.many [.fr 1 (prodR p q).1.length (bints (prodR p q).1), .pv (vb (prodR p q).2)]) := by
  have h1 := polyB_len hp
  have h2 := polyB_len hq
  refine Fn.of_body Try.call18 Try.func18 rfl Try.ntmps18 (ts := [4, 5]) rfl (by simp) rfl (fun N => ?_)
  repeat' (first | ((with_reducible show passK _ _ _ _ _ _); refine pass_go rfl rfl (by first | omega | simp) (Nat.le_of_ble_eq_true rfl) (toldProd_pass p q hp hq) ?_ ?_) | (with_reducible first | refine then_normal ?_ | refine then_ret ?_ | refine then_exit ?_ | refine block_normal ?_ | refine block_ret ?_) | ((with_reducible show blockQ _ _ _ _); first | refine block_exit ?_ | refine block_exit_ne rfl ?_) | ((with_reducible show AWP _ _ _ _ _); first | (refine AWP.region_pass3 (f := 48) ?_) | (with_reducible first | refine AWP.seq ?_ | refine AWP.block ?_ | refine AWP.region ?_ | refine AWP.ret ?_ | refine AWP.exit ?_ | refine AWP.skip ?_) | refine AWP.drawn rfl (by kernel_rfl) ?_ | refine AWP.cond rfl ?_ ?_) | with_reducible refine ev_nil ?_ | ((first | ((with_reducible show evOps _ _ _ _ _ _); (first | refine ev_step rfl ?_ | refine ev_undef rfl rfl rfl ?_); intro K hK) | ((with_reducible show EvOpen _ _ _ _ _ _ _); refine ev_open ?_; intro K hK) | ((with_reducible show SkOpen _ _ _ _ _ _ _); refine sk_open ?_; intro K hK) | ((with_reducible show callK _ _ _ _ _ _ _ _); first  | (refine call_scalar (isPoly_fn p (by omega)) (Nat.le_of_ble_eq_true rfl) rfl ?_) | (refine call_scalar (isPoly_fn q (by omega)) (Nat.le_of_ble_eq_true rfl) rfl ?_) | (refine call_safe ( polyProduct_fn p q hp hq) (Nat.le_of_ble_eq_true rfl) (by repeat' (first | ((with_reducible show passK _ _ _ _ _ _); refine pass_go rfl rfl (by first | omega | simp) (Nat.le_of_ble_eq_true rfl) (toldProd_pass p q hp hq) ?_ ?_) | exact trivial | refine ⟨fun _ _ => ⟨_, rfl⟩, ?_⟩)) ?_))); simp only [evOp, evQ, withS, opd, kput, putS, upd, lookup, skipOp, argsK, bringIn, bring, Res.list, Res.slot, slotsOf, bints, List.getElem?_cons_zero, List.getElem?_cons_succ, List.reverse_cons, List.reverse_nil, List.nil_append, List.cons_append, List.length_nil, Nat.reduceEqDiff, Nat.reduceLT, Nat.zero_add, ↓reduceIte, eq_self, true_and, and_true, Bool.not_false, Bool.true_eq_false, Bool.false_eq_true, false_implies, forall_const]) | refine ev_guard rfl rfl rfl ?_ ?_ | ((with_reducible show retQ _ _ _ _); simp only [retQ, retOk, getL, lookup, Option.map_some, fitsL, fits, ND, srcs, Res.list, VE, List.getElem?_cons_zero, Value.bool.injEq, Nat.reduceEqDiff, ↓reduceIte, and_true, true_and]) | (with_reducible refine hK _ ?_; clear hK K) | (with_reducible refine And.intro ?_ ?_) | (with_reducible intro hc; try simp only [Bool.not_eq_true', Bool.not_eq_false', Bool.not_false, reduceCtorEq, Bool.true_eq_false] at hc) | omega)
  all_goals first
    | (exfalso; simp_all; done)
    | (simp [prodR_no ‹polyB (prodL p q) = false›, bints]; done)
    | (simp [prodR_yes ‹polyB (prodL p q) = true›]; done)
    | (rw [prodR_yes ‹polyB (prodL p q) = true›]; exact ⟨_, rfl, BE.rfl' _⟩)
    | trace_state
end Go.Proofs.Ytlomkebhopaliaa
namespace Go.Proofs.Ytlomkebhopaliaa
open Go.RowKit Go.Proofs
set_option linter.unusedSimpArgs false
set_option linter.unusedVariables false
theorem implProductBounds_fn (a b c d : List Int) (ha : a.length ≤ 1099511627776) (hb : b.length ≤ 1099511627776) (hC : c.length ≤ 1099511627776) (hD : d.length ≤ 1099511627776) : Fn Try.prog 15 [ints a, ints b, ints c, ints d]
    (.many [.fr 1 (pbR a b c d).1.length (bints (pbR a b c d).1), .fr 1 (pbR a b c d).2.1.length (bints (pbR a b c d).2.1), .pv (vb (pbR a b c d).2.2)]) := by
  refine Fn.of_body Try.call15 Try.func15 rfl Try.ntmps15 (ts := [8, 9, 10]) rfl (by simp) rfl (fun N => ?_)
  repeat' (first | (with_reducible first | refine then_normal ?_ | refine then_ret ?_ | refine then_exit ?_ | refine block_normal ?_ | refine block_ret ?_) | ((with_reducible show blockQ _ _ _ _); first | refine block_exit ?_ | refine block_exit_ne rfl ?_) | ((with_reducible show AWP _ _ _ _ _); first | (with_reducible first | refine AWP.seq ?_ | refine AWP.block ?_ | refine AWP.region ?_ | refine AWP.ret ?_ | refine AWP.exit ?_ | refine AWP.skip ?_) | refine AWP.drawn rfl (by kernel_rfl) ?_ | refine AWP.cond rfl ?_ ?_) | with_reducible refine ev_nil ?_ | ((first | ((with_reducible show evOps _ _ _ _ _ _); (first | refine ev_step rfl ?_ | refine ev_undef rfl rfl rfl ?_); intro K hK) | ((with_reducible show EvOpen _ _ _ _ _ _ _); refine ev_open ?_; intro K hK) | ((with_reducible show SkOpen _ _ _ _ _ _ _); refine sk_open ?_; intro K hK) | ((with_reducible show callK _ _ _ _ _ _ _ _); first  | (refine call_scalar (areBounds_fn a b ha hb) (Nat.le_of_ble_eq_true rfl) rfl ?_) | (refine call_scalar (areBounds_fn c d hC hD) (Nat.le_of_ble_eq_true rfl) rfl ?_) | (refine call_safe ( implPolyProduct_fn a c (boundsB_parts ‹boundsB a b = true›).1 (boundsB_parts ‹boundsB c d = true›).1) (Nat.le_of_ble_eq_true rfl) (by repeat' (first | exact trivial | refine ⟨fun _ _ => ⟨_, rfl⟩, ?_⟩)) ?_) | (refine call_safe ( implPolyProduct_fn b d (boundsB_parts ‹boundsB a b = true›).2.1 (boundsB_parts ‹boundsB c d = true›).2.1) (Nat.le_of_ble_eq_true rfl) (by repeat' (first | exact trivial | refine ⟨fun _ _ => ⟨_, rfl⟩, ?_⟩)) ?_))); simp only [evOp, evQ, withS, opd, kput, putS, upd, lookup, skipOp, argsK, bringIn, bring, Res.list, Res.slot, slotsOf, bints, List.getElem?_cons_zero, List.getElem?_cons_succ, List.reverse_cons, List.reverse_nil, List.nil_append, List.cons_append, List.length_cons, List.length_nil, Nat.reduceEqDiff, Nat.reduceAdd, Nat.reduceLT, Nat.zero_add, ↓reduceIte, eq_self, true_and, and_true, Bool.not_false, Bool.true_eq_false, Bool.false_eq_true, false_implies, forall_const]) | refine ev_guard rfl rfl rfl ?_ ?_ | ((with_reducible show retQ _ _ _ _); simp only [retQ, retOk, getL, lookup, Option.map_some, fitsL, fits, ND, srcs, Res.list, VE, List.getElem?_cons_zero, List.getElem?_cons_succ, Value.bool.injEq, Nat.reduceEqDiff, ↓reduceIte, and_true, true_and]) | (with_reducible refine hK _ ?_; clear hK K) | (with_reducible refine And.intro ?_ ?_) | (with_reducible intro hc; try simp only [Bool.not_eq_true', Bool.not_eq_false', Bool.not_false, reduceCtorEq, Bool.true_eq_false] at hc) | omega)
  all_goals first
    | (simp [pbR_no1 ‹boundsB a b = false›, bints]; done)
    | (simp [pbR_no2 ‹boundsB c d = false›, bints]; done)
    | (simp [pbR_no3 ‹(prodR a c).2 = false›, bints]; done)
    | (simp [pbR_no4 ‹(prodR b d).2 = false›, bints]; done)
    | (simp [pbR_yes ‹boundsB a b = true› ‹boundsB c d = true› ‹(prodR a c).2 = true› ‹(prodR b d).2 = true›]; done)
    | (rw [pbR_yes ‹boundsB a b = true› ‹boundsB c d = true› ‹(prodR a c).2 = true› ‹(prodR b d).2 = true›]; exact ⟨_, rfl, BE.rfl' _⟩)
    | trace_state
theorem specProductBounds_fn (a b c d : List Int) (ha : a.length ≤ 1099511627776) (hb : b.length ≤ 1099511627776) (hC : c.length ≤ 1099511627776) (hD : d.length ≤ 1099511627776) : Fn Try.prog 16 [ints a, ints b, ints c, ints d]
    (.many [.fr 1 (pbR a b c d).1.length (bints (pbR a b c d).1), .fr 1 (pbR a b c d).2.1.length (bints (pbR a b c d).2.1), .pv (vb (pbR a b c d).2.2)]) := by
  refine Fn.of_body Try.call16 Try.func16 rfl Try.ntmps16 (ts := [8, 9, 10]) rfl (by simp) rfl (fun N => ?_)
  repeat' (first | (with_reducible first | refine then_normal ?_ | refine then_ret ?_ | refine then_exit ?_ | refine block_normal ?_ | refine block_ret ?_) | ((with_reducible show blockQ _ _ _ _); first | refine block_exit ?_ | refine block_exit_ne rfl ?_) | ((with_reducible show AWP _ _ _ _ _); first | (with_reducible first | refine AWP.seq ?_ | refine AWP.block ?_ | refine AWP.region ?_ | refine AWP.ret ?_ | refine AWP.exit ?_ | refine AWP.skip ?_) | refine AWP.drawn rfl (by kernel_rfl) ?_ | refine AWP.cond rfl ?_ ?_) | with_reducible refine ev_nil ?_ | ((first | ((with_reducible show evOps _ _ _ _ _ _); (first | refine ev_step rfl ?_ | refine ev_undef rfl rfl rfl ?_); intro K hK) | ((with_reducible show EvOpen _ _ _ _ _ _ _); refine ev_open ?_; intro K hK) | ((with_reducible show SkOpen _ _ _ _ _ _ _); refine sk_open ?_; intro K hK) | ((with_reducible show callK _ _ _ _ _ _ _ _); first  | (refine call_scalar (boGood_fn a b ha hb) (Nat.le_of_ble_eq_true rfl) rfl ?_) | (refine call_scalar (boGood_fn c d hC hD) (Nat.le_of_ble_eq_true rfl) rfl ?_) | (refine call_safe ( poProduct_fn a c (boundsB_parts ‹boundsB a b = true›).1 (boundsB_parts ‹boundsB c d = true›).1) (Nat.le_of_ble_eq_true rfl) (by repeat' (first | exact trivial | refine ⟨fun _ _ => ⟨_, rfl⟩, ?_⟩)) ?_) | (refine call_safe ( poProduct_fn b d (boundsB_parts ‹boundsB a b = true›).2.1 (boundsB_parts ‹boundsB c d = true›).2.1) (Nat.le_of_ble_eq_true rfl) (by repeat' (first | exact trivial | refine ⟨fun _ _ => ⟨_, rfl⟩, ?_⟩)) ?_))); simp only [evOp, evQ, withS, opd, kput, putS, upd, lookup, skipOp, argsK, bringIn, bring, Res.list, Res.slot, slotsOf, bints, List.getElem?_cons_zero, List.getElem?_cons_succ, List.reverse_cons, List.reverse_nil, List.nil_append, List.cons_append, List.length_cons, List.length_nil, Nat.reduceEqDiff, Nat.reduceAdd, Nat.reduceLT, Nat.zero_add, ↓reduceIte, eq_self, true_and, and_true, Bool.not_false, Bool.true_eq_false, Bool.false_eq_true, false_implies, forall_const]) | refine ev_guard rfl rfl rfl ?_ ?_ | ((with_reducible show retQ _ _ _ _); simp only [retQ, retOk, getL, lookup, Option.map_some, fitsL, fits, ND, srcs, Res.list, VE, List.getElem?_cons_zero, List.getElem?_cons_succ, Value.bool.injEq, Nat.reduceEqDiff, ↓reduceIte, and_true, true_and]) | (with_reducible refine hK _ ?_; clear hK K) | (with_reducible refine And.intro ?_ ?_) | (with_reducible intro hc; try simp only [Bool.not_eq_true', Bool.not_eq_false', Bool.not_false, reduceCtorEq, Bool.true_eq_false] at hc) | omega)
  all_goals first
    | (simp [pbR_no1 ‹boundsB a b = false›, bints]; done)
    | (simp [pbR_no2 ‹boundsB c d = false›, bints]; done)
    | (simp [pbR_no3 ‹(prodR a c).2 = false›, bints]; done)
    | (simp [pbR_no4 ‹(prodR b d).2 = false›, bints]; done)
    | (simp [pbR_yes ‹boundsB a b = true› ‹boundsB c d = true› ‹(prodR a c).2 = true› ‹(prodR b d).2 = true›]; done)
    | (rw [pbR_yes ‹boundsB a b = true› ‹boundsB c d = true› ‹(prodR a c).2 = true› ‹(prodR b d).2 = true›]; exact ⟨_, rfl, BE.rfl' _⟩)
    | trace_state
end Go.Proofs.Ytlomkebhopaliaa
namespace Go.Proofs.Ytlomkebhopaliaa
open Go.RowKit Go.Proofs
set_option linter.unusedSimpArgs false
set_option linter.unusedVariables false
set_option maxRecDepth 20000
theorem bigA_fn (m n : Nat) (f g : Nat → Int) (hm : m ≤ 9223372036854775807) (hn : n ≤ 9223372036854775807) (hs : m + n ≤ 9223372036854775807) : Fn Try.prog 4 [bytV m f, bytV n g] (.one (.pv (vb (decide (1048576 < m + n))))) := by
  refine Fn.of_body Try.call4 Try.func4 rfl Try.ntmps4 (ts := [4]) rfl (by simp) rfl (fun N => ?_)
  repeat' (first | (with_reducible first | refine then_normal ?_ | refine then_ret ?_ | refine then_exit ?_ | refine block_normal ?_ | refine block_ret ?_) | ((with_reducible show blockQ _ _ _ _); first | refine block_exit ?_ | refine block_exit_ne rfl ?_) | ((with_reducible show AWP _ _ _ _ _); first | (with_reducible first | refine AWP.seq ?_ | refine AWP.block ?_ | refine AWP.region ?_ | refine AWP.ret ?_ | refine AWP.exit ?_ | refine AWP.skip ?_) | refine AWP.drawn rfl (by kernel_rfl) ?_ | refine AWP.cond rfl ?_ ?_) | with_reducible refine ev_nil ?_ | ((first | ((with_reducible show evOps _ _ _ _ _ _); (first | refine ev_step rfl ?_ | refine ev_undef rfl rfl rfl ?_); intro K hK) | ((with_reducible show EvOpen _ _ _ _ _ _ _); refine ev_open ?_; intro K hK) | ((with_reducible show SkOpen _ _ _ _ _ _ _); refine sk_open ?_; intro K hK) | ((with_reducible show callK _ _ _ _ _ _ _ _); first | fail)); simp only [evOp, evQ, evB, binK, withS, opd, kput, putS, upd, lookup, skipOp, slotsOf, InK_i64, sz_bytes, Nat.reduceEqDiff, Nat.reduceLT, Nat.zero_add, ↓reduceIte, eq_self, true_and, and_true, Bool.not_false, Bool.true_eq_false, Bool.false_eq_true, false_implies, forall_const, Option.isSome_some]) | refine ev_guard rfl rfl rfl ?_ ?_ | ((with_reducible show retQ _ _ _ _); simp only [retQ, retOk, getL, lookup, Option.map_some, fitsL, fits, ND, srcs, Res.list, VE, Value.bool.injEq, Nat.reduceEqDiff, ↓reduceIte, and_true]) | (with_reducible refine hK _ ?_; clear hK K) | (with_reducible refine And.intro ?_ ?_) | (with_reducible intro hc; try simp only [decide_eq_true_eq, decide_eq_false_iff_not, Bool.not_false, Int.not_lt, gt_iff_lt, reduceCtorEq, Bool.true_eq_false] at hc) | omega)
  all_goals first
    | (exfalso; omega)
    | exact decide_eq_decide.2 (by omega)
    | (symm; rw [decide_eq_true_eq]; omega)
    | trace_state
theorem pbR_len2 (a b c d : List Int) : (pbR a b c d).1.length ≤ a.length + c.length ∧ (pbR a b c d).2.1.length ≤ b.length + d.length := by
  unfold pbR
  have h1 := prodR_len a c
  have h2 := prodR_len b d
  split
  · exact ⟨h1, h2⟩
  · simp
theorem sameInts_self2 (a : List Int) (ha : a.length ≤ 1099511627776) : Fn Try.prog 17 [ints a, ints a] (.one (.pv (vb true))) := by
  refine Fn.of_body Try.call17 Try.func17 rfl Try.ntmps17 (ts := [4]) rfl (by simp) rfl (fun N => ?_)
  repeat' (first | (with_reducible first | refine then_normal ?_ | refine then_ret ?_ | refine then_exit ?_ | refine block_normal ?_ | refine block_ret ?_) | ((with_reducible show blockQ _ _ _ _); first | refine block_exit ?_ | refine block_exit_ne rfl ?_) | ((with_reducible show AWP _ _ _ _ _); first | (with_reducible first | refine AWP.seq ?_ | refine AWP.block ?_ | refine AWP.region ?_ | refine AWP.ret ?_ | refine AWP.exit ?_ | refine AWP.skip ?_) | refine AWP.drawn rfl (by kernel_rfl) ?_ | refine AWP.cond rfl ?_ ?_) | with_reducible refine ev_nil ?_ | ((first | ((with_reducible show evOps _ _ _ _ _ _); (first | refine ev_step rfl ?_ | refine ev_undef rfl rfl rfl ?_); intro K hK) | ((with_reducible show EvOpen _ _ _ _ _ _ _); refine ev_open ?_; intro K hK) | ((with_reducible show SkOpen _ _ _ _ _ _ _); refine sk_open ?_; intro K hK) | ((with_reducible show callK _ _ _ _ _ _ _ _); first | fail)); simp only [evOp, evQ, evB, binK, withS, opd, kput, putS, upd, lookup, slotsOf, sz_ints, Nat.reduceEqDiff, Nat.reduceLT, Nat.zero_add, ↓reduceIte, eq_self, true_and, Option.isSome_some]) | refine ev_guard rfl rfl rfl ?_ ?_ | ((with_reducible show retQ _ _ _ _); simp only [eq_self]) | (with_reducible refine hK _ ?_; clear hK K) | (with_reducible refine And.intro ?_ ?_) | (with_reducible intro hc; try simp only [bne_iff_ne, bne_eq_false_iff_eq, ne_eq, not_true_eq_false] at hc) | omega)
  all_goals try (exfalso; simp_all; done)
  refine AWP.loop_ent (fun k : Nat => ⟨[(0, .one (.pv (ints a))), (1, .one (.pv (ints a))), (12, sc (.int .i64 a.length)), (13, sc (.int .i64 k))], [], 26⟩)
    (fun k => k ≤ a.length) (fun k => a.length - k) 0 (by omega) (by (simp [Ent, EntS, EntH, SlE, VE, lookup, BE])) ?_
  intro k hk
  repeat' (first | (with_reducible first | refine then_normal ?_ | refine then_ret ?_ | refine then_exit ?_ | refine block_normal ?_ | refine block_ret ?_) | ((with_reducible show blockQ _ _ _ _); first | refine block_exit ?_ | refine block_exit_ne rfl ?_) | ((with_reducible show AWP _ _ _ _ _); first | (with_reducible first | refine AWP.seq ?_ | refine AWP.block ?_ | refine AWP.region ?_ | refine AWP.ret ?_ | refine AWP.exit ?_ | refine AWP.skip ?_) | refine AWP.drawn rfl (by kernel_rfl) ?_ | refine AWP.cond rfl ?_ ?_) | with_reducible refine ev_nil ?_ | ((first | ((with_reducible show evOps _ _ _ _ _ _); (first | refine ev_step rfl ?_ | refine ev_undef rfl rfl rfl ?_); intro K hK) | ((with_reducible show EvOpen _ _ _ _ _ _ _); refine ev_open ?_; intro K hK) | ((with_reducible show SkOpen _ _ _ _ _ _ _); refine sk_open ?_; intro K hK) | ((with_reducible show callK _ _ _ _ _ _ _ _); first | fail)); simp only [evOp, evQ, binK, withS, opd, kput, putS, upd, lookup, InK_i64, sz_ints, c_int, Nat.reduceEqDiff, Nat.reduceLT, Nat.mul_one, Nat.add_zero, ↓reduceIte, eq_self, true_and, Int.toNat_natCast]) | refine ev_guard rfl rfl rfl ?_ ?_ | ((with_reducible show retQ _ _ _ _); simp only [retQ, retOk, getL, lookup, Option.map_some, fitsL, fits, ND, srcs, Res.list, VE, Nat.reduceEqDiff, ↓reduceIte, and_true]) | (with_reducible refine hK _ ?_; clear hK K) | (with_reducible refine And.intro ?_ ?_) | (with_reducible intro hc; try simp only [decide_eq_true_eq, decide_eq_false_iff_not, bne_iff_ne, bne_eq_false_iff_eq, Int.not_lt, ne_eq, not_true_eq_false] at hc) | omega)
  all_goals first
    | (exfalso; omega)
    | (exfalso; simp_all; done)
    | exact ⟨k + 1, by omega, by omega, by (simp [Ent, EntS, EntH, SlE, VE, lookup, BE])⟩
    | rfl
    | trace_state
set_option maxHeartbeats 8000000 in
theorem lawWayBounds_fn (m n : Nat) (f g : Nat → Int) (hm : m ≤ 140737488351232) (hn : n ≤ 140737488351232) (hf : ∀ i, i < m → 0 ≤ f i ∧ f i < 256) (hg : ∀ i, i < n → 0 ≤ g i ∧ g i < 256) :
    Fn Try.prog 3 [bytV m f, bytV n g] (.one (.pv (vb true))) := by
  refine Fn.of_body Try.call3 Try.func3 rfl Try.ntmps3 (ts := [4]) rfl (by simp) rfl (fun N => ?_)
  have hbg := bigA_fn m n f g (by omega) (by omega) (by omega)
  by_cases hbig : 1048576 < m + n
  · rw [decide_eq_true hbig] at hbg
    repeat' (first | (with_reducible first | refine then_normal ?_ | refine then_ret ?_ | refine then_exit ?_ | refine block_normal ?_ | refine block_ret ?_) | ((with_reducible show blockQ _ _ _ _); first | refine block_exit ?_ | refine block_exit_ne rfl ?_) | ((with_reducible show AWP _ _ _ _ _); first | (with_reducible first | refine AWP.seq ?_ | refine AWP.block ?_ | refine AWP.region ?_ | refine AWP.ret ?_ | refine AWP.exit ?_ | refine AWP.skip ?_) | refine AWP.drawn rfl (by kernel_rfl) ?_ | refine AWP.cond rfl ?_ ?_) | with_reducible refine ev_nil ?_ | ((first | ((with_reducible show evOps _ _ _ _ _ _); (first | refine ev_step rfl ?_ | refine ev_undef rfl rfl rfl ?_); intro K hK) | ((with_reducible show EvOpen _ _ _ _ _ _ _); refine ev_open ?_; intro K hK) | ((with_reducible show SkOpen _ _ _ _ _ _ _); refine sk_open ?_; intro K hK) | ((with_reducible show callK _ _ _ _ _ _ _ _); first  | (refine call_scalar (hbg) (Nat.le_of_ble_eq_true rfl) rfl ?_))); simp only [evOp, evQ, withS, opd, kput, putS, upd, lookup, argsK, bringIn, bring, Res.list, Res.slot, slotsOf, List.reverse_cons, List.reverse_nil, List.nil_append, List.cons_append, Nat.reduceEqDiff, Nat.reduceLT, Nat.zero_add, ↓reduceIte, eq_self, true_and]) | refine ev_guard rfl rfl rfl ?_ ?_ | ((with_reducible show retQ _ _ _ _); simp only [retQ, retOk, getL, lookup, Option.map_some, fitsL, fits, ND, srcs, Res.list, VE, Nat.reduceEqDiff, ↓reduceIte, and_true]) | (with_reducible refine hK _ ?_; clear hK K) | (with_reducible refine And.intro ?_ ?_) | (with_reducible intro hc; try simp only [Bool.true_eq_false] at hc) | omega)
    all_goals first
      | rfl
      | (exfalso; simp_all; omega)
      | trace_state
  rw [decide_eq_false hbig] at hbg
  have hb1 : BytOk m f := ⟨by omega, hf⟩
  have hb2 : BytOk n g := ⟨by omega, hg⟩
  repeat' (first | ((with_reducible show evNx _ _ _ _ _ _); first | (with_reducible refine nx_done ?_) | (refine nx_one rfl ?_) | (refine nx_alt rfl ?_ ?_) | (with_reducible refine nx_st ?_)) | ((with_reducible show evSx _ _ _ _ _ _); first | (with_reducible refine sx_done ?_) | (with_reducible refine sx_st ?_) | (with_reducible refine sx_op ?_)) | ((with_reducible show evTake _ _ _ _ _); with_reducible refine take_nil ?_) | ((with_reducible show evSy _ _ _ _ _ _ _); first | (with_reducible refine sy_done ?_) | (refine sy_last rfl ?_) | (refine sy_one (by decide) rfl ?_) | (refine sy_alt (by decide) rfl ?_ ?_) | (with_reducible refine sy_st ?_)) | ((with_reducible show StK _ _ _); first | fail) | (with_reducible first | refine then_normal ?_ | refine then_ret ?_ | refine then_exit ?_ | refine block_normal ?_ | refine block_ret ?_) | ((with_reducible show blockQ _ _ _ _); first | refine block_exit ?_ | refine block_exit_ne rfl ?_) | ((with_reducible show AWP _ _ _ _ _); first | (refine AWP.holdW (id := 4) ?_) | (refine AWP.region_sx (id := 3) [.op, .op, .op, .op, .op, .op, .op, .op, .op, .op, .op] ?_) | (with_reducible first | refine AWP.seq ?_ | refine AWP.block ?_ | refine AWP.region ?_ | refine AWP.ret ?_ | refine AWP.exit ?_ | refine AWP.skip ?_) | refine AWP.drawn rfl (by kernel_rfl) ?_ | refine AWP.cond rfl ?_ ?_) | with_reducible refine ev_nil ?_ | ((first | ((with_reducible show evNx _ _ _ _ _ _); refine nx_take rfl ?_; intro K hK) | ((with_reducible show Ax _ _ _ _ _); first | (refine ax_callE (f := 5) ?_) | (refine ax_op rfl ?_; intro K hK)) | ((with_reducible show evTake _ _ _ _ _); refine take_step rfl ?_; intro K hK) | ((with_reducible show evSy _ _ _ _ _ _ _); refine sy_take rfl ?_; intro K hK) | ((with_reducible show AxB _ _ _ _ _); first | (refine axb_callE (f := 5) ?_) | (refine axb_op rfl rfl ?_; intro K hK)) | (refine ⟨_, drawWayBounds_E hb1, ?_⟩; rintro _ ⟨A, B, Z, W, x, y, ⟨hA, hB⟩, rfl⟩ hn1; simp only [Res.list, NewL, and_true, true_and] at hn1) | ((with_reducible show evOps _ _ _ _ _ _); (first | refine ev_step rfl ?_ | refine ev_undef rfl rfl rfl ?_); intro K hK) | ((with_reducible show EvOpen _ _ _ _ _ _ _); refine ev_open ?_; intro K hK) | ((with_reducible show SkOpen _ _ _ _ _ _ _); refine sk_open ?_; intro K hK) | ((with_reducible show callK _ _ _ _ _ _ _ _); first  | (refine call_scalar (hbg) (Nat.le_of_ble_eq_true rfl) rfl ?_))); simp only [callEK, evOp, evQ, withS, opd, kput, putS, upd, lookup, argsK, bringIn, bring, Res.list, Res.slot, slotsOf, List.getElem?_cons_zero, List.getElem?_cons_succ, List.reverse_cons, List.reverse_nil, List.nil_append, List.cons_append, Nat.reduceEqDiff, Nat.reduceLT, Nat.zero_add, ↓reduceIte, eq_self, true_and]) | refine ev_guard rfl rfl rfl ?_ ?_ | ((with_reducible show retQ _ _ _ _); simp only [eq_self]) | (with_reducible refine hK _ ?_; clear hK K) | (with_reducible refine And.intro ?_ ?_) | (with_reducible intro hc; try simp only [reduceCtorEq] at hc) | omega)
  all_goals try (exfalso; simp_all; done)
  unfold HoldW
  clear hn1 hbg
  have hA1 := hA.1
  have hB1 := hB.1
  have hA2 : ∀ i, i < A.length → (rowAt A i).length ≤ 1099511627776 := fun i hi => by have := hA.2 i hi; omega
  have hB2 : ∀ i, i < B.length → (rowAt B i).length ≤ 1099511627776 := fun i hi => by have := hB.2 i hi; omega
  have hw1 := Fn.bare (implWayBounds_fn A B x y (by omega) (by omega) hA2 hB2) (vs' := [.old Z (rows A), .old W (rows B), vi x, vi y]) ⟨VE.rfl' _, VE.rfl' _, rfl, rfl, trivial⟩
  have hw2 := Fn.bare (specWayBounds_fn A B x y (by omega) (by omega) hA2 hB2) (vs' := [.old Z (rows A), .old W (rows B), vi x, vi y]) ⟨VE.rfl' _, VE.rfl' _, rfl, rfl, trivial⟩
  have hw3 := Fn.bare (implAreWayBounds_fn A B (by omega) (by omega) hA2 hB2) (vs' := [.old Z (rows A), .old W (rows B)]) ⟨VE.rfl' _, VE.rfl' _, trivial⟩
  have hch1 := FnE.bare (implCheapest_E A x y (by omega) hA2) (vs' := [.old Z (rows A), vi x, vi y]) ⟨VE.rfl' _, rfl, rfl, trivial⟩
  have hch2 := FnE.bare (implCheapest_E B x y (by omega) hB2) (vs' := [.old W (rows B), vi x, vi y]) ⟨VE.rfl' _, rfl, rfl, trivial⟩
  have hfac := wb_facts (A := A) (B := B) (x := x) (y := y)
  have hgt : (wbR A B x y).2.2 = true → ¬ (wbR A B x y).2.1 < (wbR A B x y).1 := fun h => by have := (hfac h).le; omega
  have hwy : (wbR A B x y).2.2 = true → wayB A B = true := fun h => (hfac h).way
  repeat' (first | (with_reducible first | refine then_normal ?_ | refine then_ret ?_ | refine then_exit ?_ | refine block_normal ?_ | refine block_ret ?_) | ((with_reducible show blockQ _ _ _ _); first | refine block_exit ?_ | refine block_exit_ne rfl ?_) | ((with_reducible show AWP _ _ _ _ _); first | (refine AWP.holdW (id := 9) ?_) | (refine AWP.condX (t := 106) (fun _ : Unit => ⟨[(1, .one (.pv (bytV n g)))], [], 297⟩) (fun _ => True) ?_ ?_) | (with_reducible first | refine AWP.seq ?_ | refine AWP.block ?_ | refine AWP.region ?_ | refine AWP.ret ?_ | refine AWP.exit ?_ | refine AWP.skip ?_) | refine AWP.drawn rfl (by kernel_rfl) ?_ | refine AWP.cond rfl ?_ ?_) | with_reducible refine ev_nil ?_ | ((first | ((with_reducible show evOps _ _ _ _ _ _); (first | refine ev_step rfl ?_ | refine ev_undef rfl rfl rfl ?_); intro K hK) | ((with_reducible show EvOpen _ _ _ _ _ _ _); refine ev_open ?_; intro K hK) | ((with_reducible show SkOpen _ _ _ _ _ _ _); refine sk_open ?_; intro K hK) | ((with_reducible show callK _ _ _ _ _ _ _ _); first  | (refine call_scalar (hw1) (Nat.le_of_ble_eq_true rfl) rfl ?_) | (refine call_scalar (hw2) (Nat.le_of_ble_eq_true rfl) rfl ?_) | (refine call_scalar (hw3) (Nat.le_of_ble_eq_true rfl) rfl ?_))); simp only [evOp, evQ, binK, withS, opd, kput, putS, upd, lookup, skipOp, argsK, bringIn, bring, Res.list, Res.slot, u_bool, List.getElem?_cons_zero, List.getElem?_cons_succ, List.reverse_cons, List.reverse_nil, List.nil_append, List.cons_append, Nat.reduceEqDiff, Nat.reduceLT, ↓reduceIte, eq_self, true_and, and_true, Bool.not_true, Bool.not_false, Bool.true_eq_false, Bool.false_eq_true, false_implies, forall_const]) | refine ev_guard rfl rfl rfl ?_ ?_ | ((with_reducible show retQ _ _ _ _); simp only [retQ, retOk, getL, lookup, Option.map_some, fitsL, fits, ND, srcs, Res.list, VE, Value.bool.injEq, Nat.reduceEqDiff, ↓reduceIte, and_true]) | (with_reducible refine hK _ ?_; clear hK K) | (with_reducible refine And.intro ?_ ?_) | (with_reducible intro hc; try simp only [decide_eq_true_eq, decide_eq_false_iff_not, bne_iff_ne, bne_eq_false_iff_eq, Bool.not_eq_true', Bool.not_eq_false', Bool.not_true, Bool.not_false, Int.not_lt, gt_iff_lt, ne_eq, reduceCtorEq, not_true_eq_false, Bool.true_eq_false] at hc) | omega)
  all_goals try (exfalso; simp_all; done)
  all_goals try exact ⟨(), trivial, [], rfl, by decide, ⟨VE.rfl' _, trivial⟩, trivial⟩
  all_goals first
    | (with_reducible show HoldW _
       unfold HoldW
       have ho : (wbR A B x y).2.2 = true := by assumption
       have F := hfac ho
       have hp := wayB_parts F.way
       have f1 := F.f1
       have f2 := F.f2
       rw [F.v1] at f1
       rw [F.v2] at f2
       repeat' (first | ((with_reducible show evNx _ _ _ _ _ _); first | (with_reducible refine nx_done ?_) | (refine nx_one rfl ?_) | (refine nx_alt rfl ?_ ?_) | (with_reducible refine nx_st ?_)) | ((with_reducible show evSx _ _ _ _ _ _); first | (with_reducible refine sx_done ?_) | (with_reducible refine sx_st ?_) | (with_reducible refine sx_op ?_)) | ((with_reducible show evTake _ _ _ _ _); with_reducible refine take_nil ?_) | ((with_reducible show evSy _ _ _ _ _ _ _); first | (with_reducible refine sy_done ?_) | (refine sy_last rfl ?_) | (refine sy_one (by decide) rfl ?_) | (refine sy_alt (by decide) rfl ?_ ?_) | (with_reducible refine sy_st ?_)) | ((with_reducible show StK _ _ _); first | fail) | (with_reducible first | refine then_normal ?_ | refine then_ret ?_ | refine then_exit ?_ | refine block_normal ?_ | refine block_ret ?_) | ((with_reducible show blockQ _ _ _ _); first | refine block_exit ?_ | refine block_exit_ne rfl ?_) | ((with_reducible show AWP _ _ _ _ _); first | (refine AWP.holdW (id := 10) ?_) | (refine AWP.region_sx (id := 9) [.op, .op, .op, .op, .op, .op, .op, .op, .op] ?_) | (with_reducible first | refine AWP.seq ?_ | refine AWP.block ?_ | refine AWP.region ?_ | refine AWP.ret ?_ | refine AWP.exit ?_ | refine AWP.skip ?_) | refine AWP.drawn rfl (by kernel_rfl) ?_ | refine AWP.cond rfl ?_ ?_) | with_reducible refine ev_nil ?_ | ((first | ((with_reducible show evNx _ _ _ _ _ _); refine nx_take rfl ?_; intro K hK) | ((with_reducible show Ax _ _ _ _ _); first | (refine ax_callE (f := 9) ?_) | (refine ax_op rfl ?_; intro K hK)) | ((with_reducible show evTake _ _ _ _ _); refine take_step rfl ?_; intro K hK) | ((with_reducible show evSy _ _ _ _ _ _ _); refine sy_take rfl ?_; intro K hK) | ((with_reducible show AxB _ _ _ _ _); first | (refine axb_callE (f := 9) ?_) | (refine axb_op rfl rfl ?_; intro K hK)) | (refine ⟨_, hch1, ?_⟩; rintro _ (⟨hT1, w1, ⟨hc1, hl1⟩, rfl⟩ | ⟨hT1, rfl⟩) hn2; simp only [Res.list, NewL, and_true, true_and] at hn2) | ((with_reducible show evOps _ _ _ _ _ _); (first | refine ev_step rfl ?_ | refine ev_undef rfl rfl rfl ?_); intro K hK) | ((with_reducible show EvOpen _ _ _ _ _ _ _); refine ev_open ?_; intro K hK) | ((with_reducible show SkOpen _ _ _ _ _ _ _); refine sk_open ?_; intro K hK) | ((with_reducible show callK _ _ _ _ _ _ _ _); first  | fail)); simp only [callEK, evOp, evQ, withS, opd, kput, putS, upd, lookup, argsK, bringIn, bring, Res.list, Res.slot, bints, List.getElem?_cons_zero, List.getElem?_cons_succ, List.reverse_cons, List.reverse_nil, List.nil_append, List.cons_append, List.length_nil, Nat.reduceEqDiff, Nat.reduceLT, ↓reduceIte, eq_self, true_and]) | refine ev_guard rfl rfl rfl ?_ ?_ | ((with_reducible show retQ _ _ _ _); simp only [eq_self]) | (with_reducible refine hK _ ?_; clear hK K) | (with_reducible refine And.intro ?_ ?_) | (with_reducible intro hc; try simp only [eq_self] at hc) | omega)
       · unfold HoldW
         have hk1 := Fn.bare (costOfWay_fn A w1 (by omega) hA2 (by omega)) (vs' := [.old Z (rows A), ints w1]) ⟨VE.rfl' _, VE.rfl' _, trivial⟩
         rw [cheap_cost hp.sa hc1 f1] at hk1
         repeat' (first | ((with_reducible show evNx _ _ _ _ _ _); first | (with_reducible refine nx_done ?_) | (refine nx_one rfl ?_) | (refine nx_alt rfl ?_ ?_) | (with_reducible refine nx_st ?_)) | ((with_reducible show evSx _ _ _ _ _ _); first | (with_reducible refine sx_done ?_) | (with_reducible refine sx_st ?_) | (with_reducible refine sx_op ?_)) | ((with_reducible show evTake _ _ _ _ _); with_reducible refine take_nil ?_) | ((with_reducible show evSy _ _ _ _ _ _ _); first | (with_reducible refine sy_done ?_) | (refine sy_last rfl ?_) | (refine sy_one (by decide) rfl ?_) | (refine sy_alt (by decide) rfl ?_ ?_) | (with_reducible refine sy_st ?_)) | ((with_reducible show StK _ _ _); first | fail) | (with_reducible first | refine then_normal ?_ | refine then_ret ?_ | refine then_exit ?_ | refine block_normal ?_ | refine block_ret ?_) | ((with_reducible show blockQ _ _ _ _); first | refine block_exit ?_ | refine block_exit_ne rfl ?_) | ((with_reducible show AWP _ _ _ _ _); first | (refine AWP.holdW (id := 11) ?_) | (refine AWP.region_sx (id := 10) [.op, .op, .op, .op, .op, .op, .op, .op, .op] ?_) | (with_reducible first | refine AWP.seq ?_ | refine AWP.block ?_ | refine AWP.region ?_ | refine AWP.ret ?_ | refine AWP.exit ?_ | refine AWP.skip ?_) | refine AWP.drawn rfl (by kernel_rfl) ?_ | refine AWP.cond rfl ?_ ?_) | with_reducible refine ev_nil ?_ | ((first | ((with_reducible show evNx _ _ _ _ _ _); refine nx_take rfl ?_; intro K hK) | ((with_reducible show Ax _ _ _ _ _); first | (refine ax_callE (f := 9) ?_) | (refine ax_op rfl ?_; intro K hK)) | ((with_reducible show evTake _ _ _ _ _); refine take_step rfl ?_; intro K hK) | ((with_reducible show evSy _ _ _ _ _ _ _); refine sy_take rfl ?_; intro K hK) | ((with_reducible show AxB _ _ _ _ _); first | (refine axb_callE (f := 9) ?_) | (refine axb_op rfl rfl ?_; intro K hK)) | (refine ⟨_, hch2, ?_⟩; rintro _ (⟨hT2, w2, ⟨hc2, hl2⟩, rfl⟩ | ⟨hT2, rfl⟩) hn3; simp only [Res.list, NewL, and_true, true_and] at hn3) | ((with_reducible show evOps _ _ _ _ _ _); (first | refine ev_step rfl ?_ | refine ev_undef rfl rfl rfl ?_); intro K hK) | ((with_reducible show EvOpen _ _ _ _ _ _ _); refine ev_open ?_; intro K hK) | ((with_reducible show SkOpen _ _ _ _ _ _ _); refine sk_open ?_; intro K hK) | ((with_reducible show callK _ _ _ _ _ _ _ _); first  | fail)); simp only [callEK, evOp, evQ, withS, opd, kput, putS, upd, lookup, argsK, bringIn, bring, Res.list, Res.slot, bints, List.getElem?_cons_zero, List.getElem?_cons_succ, List.reverse_cons, List.reverse_nil, List.nil_append, List.cons_append, List.length_cons, List.length_nil, Nat.reduceEqDiff, Nat.reduceLT, Nat.zero_add, ↓reduceIte, eq_self, true_and]) | refine ev_guard rfl rfl rfl ?_ ?_ | ((with_reducible show retQ _ _ _ _); simp only [eq_self]) | (with_reducible refine hK _ ?_; clear hK K) | (with_reducible refine And.intro ?_ ?_) | (with_reducible intro hc; try simp only [eq_self] at hc) | omega)
         · unfold HoldW
           have hk2 := Fn.bare (costOfWay_fn B w2 (by omega) hB2 (by omega)) (vs' := [.old W (rows B), ints w2]) ⟨VE.rfl' _, VE.rfl' _, trivial⟩
           rw [cheap_cost hp.sb hc2 f2] at hk2
           have v1 := F.v1
           have v2 := F.v2
           repeat' (first | (with_reducible first | refine then_normal ?_ | refine then_ret ?_ | refine then_exit ?_ | refine block_normal ?_ | refine block_ret ?_) | ((with_reducible show blockQ _ _ _ _); first | refine block_exit ?_ | refine block_exit_ne rfl ?_) | ((with_reducible show AWP _ _ _ _ _); first | (with_reducible first | refine AWP.seq ?_ | refine AWP.block ?_ | refine AWP.region ?_ | refine AWP.ret ?_ | refine AWP.exit ?_ | refine AWP.skip ?_) | refine AWP.drawn rfl (by kernel_rfl) ?_ | refine AWP.cond rfl ?_ ?_) | with_reducible refine ev_nil ?_ | ((first | ((with_reducible show evOps _ _ _ _ _ _); (first | refine ev_step rfl ?_ | refine ev_undef rfl rfl rfl ?_); intro K hK) | ((with_reducible show EvOpen _ _ _ _ _ _ _); refine ev_open ?_; intro K hK) | ((with_reducible show SkOpen _ _ _ _ _ _ _); refine sk_open ?_; intro K hK) | ((with_reducible show callK _ _ _ _ _ _ _ _); first  | (refine call_scalar (hk1) (Nat.le_of_ble_eq_true rfl) rfl ?_) | (refine call_scalar (hk2) (Nat.le_of_ble_eq_true rfl) rfl ?_))); simp only [evOp, evQ, binK, withS, opd, kput, putS, upd, lookup, skipOp, argsK, bringIn, bring, Res.list, Res.slot, List.getElem?_cons_zero, List.getElem?_cons_succ, List.reverse_cons, List.reverse_nil, List.nil_append, List.cons_append, Nat.reduceEqDiff, Nat.reduceLT, Nat.mul_one, Nat.zero_add, ↓reduceIte, eq_self, true_and, and_true, Bool.not_true, Bool.not_false, Bool.true_eq_false, Bool.false_eq_true, false_implies, forall_const]) | refine ev_guard rfl rfl rfl ?_ ?_ | ((with_reducible show retQ _ _ _ _); simp only [retQ, retOk, getL, lookup, Option.map_some, fitsL, fits, ND, srcs, Res.list, VE, Value.bool.injEq, Nat.reduceEqDiff, ↓reduceIte, and_true]) | (with_reducible refine hK _ ?_; clear hK K) | (with_reducible refine And.intro ?_ ?_) | (with_reducible intro hc; try simp only [bne_iff_ne, bne_eq_false_iff_eq, Bool.not_false, ne_eq, reduceCtorEq, Bool.true_eq_false] at hc) | omega)
           all_goals first
             | (exfalso; simp_all; done)
             | exact ⟨(), trivial, [], rfl, by decide, ⟨VE.rfl' _, trivial⟩, trivial⟩
             | exact ⟨(), [], rfl, by decide, ⟨VE.rfl' _, trivial⟩, trivial⟩
             | trace_state
         · exfalso; rw [F.hi] at hT2; cases hT2
       · exfalso; rw [F.lo] at hT1; cases hT1)
    | skip
  all_goals
    clear hw1 hw2 hw3 hch1 hch2 hfac hgt hwy
    intro _ _
    repeat' (first | ((with_reducible show evNx _ _ _ _ _ _); first | (with_reducible refine nx_done ?_) | (refine nx_one rfl ?_) | (refine nx_alt rfl ?_ ?_) | (with_reducible refine nx_st ?_)) | ((with_reducible show evSx _ _ _ _ _ _); first | (with_reducible refine sx_done ?_) | (with_reducible refine sx_st ?_) | (with_reducible refine sx_op ?_)) | ((with_reducible show evTake _ _ _ _ _); with_reducible refine take_nil ?_) | ((with_reducible show evSy _ _ _ _ _ _ _); first | (with_reducible refine sy_done ?_) | (refine sy_last rfl ?_) | (refine sy_one (by decide) rfl ?_) | (refine sy_alt (by decide) rfl ?_ ?_) | (with_reducible refine sy_st ?_)) | ((with_reducible show StK _ _ _); first | fail) | (with_reducible first | refine then_normal ?_ | refine then_ret ?_ | refine then_exit ?_ | refine block_normal ?_ | refine block_ret ?_) | ((with_reducible show blockQ _ _ _ _); first | refine block_exit ?_ | refine block_exit_ne rfl ?_) | ((with_reducible show AWP _ _ _ _ _); first | (refine AWP.holdW (id := 18) ?_) | (refine AWP.region_sx (id := 17) [.op, .op, .op, .op, .op, .op, .op, .op, .op] ?_) | (with_reducible first | refine AWP.seq ?_ | refine AWP.block ?_ | refine AWP.region ?_ | refine AWP.ret ?_ | refine AWP.exit ?_ | refine AWP.skip ?_) | refine AWP.drawn rfl (by kernel_rfl) ?_ | refine AWP.cond rfl ?_ ?_) | with_reducible refine ev_nil ?_ | ((first | ((with_reducible show evNx _ _ _ _ _ _); refine nx_take rfl ?_; intro K hK) | ((with_reducible show Ax _ _ _ _ _); first | (refine ax_callE (f := 11) ?_) | (refine ax_op rfl ?_; intro K hK)) | ((with_reducible show evTake _ _ _ _ _); refine take_step rfl ?_; intro K hK) | ((with_reducible show evSy _ _ _ _ _ _ _); refine sy_take rfl ?_; intro K hK) | ((with_reducible show AxB _ _ _ _ _); first | (refine axb_callE (f := 11) ?_) | (refine axb_op rfl rfl ?_; intro K hK)) | (refine ⟨_, drawIsSureWay_E hb2, ?_⟩; rintro _ ⟨C, D, Z2, W2, way, ⟨hC, hD, hwl⟩, rfl⟩ hn2; simp only [Res.list, NewL, and_true, true_and] at hn2) | ((with_reducible show evOps _ _ _ _ _ _); (first | refine ev_step rfl ?_ | refine ev_undef rfl rfl rfl ?_); intro K hK) | ((with_reducible show EvOpen _ _ _ _ _ _ _); refine ev_open ?_; intro K hK) | ((with_reducible show SkOpen _ _ _ _ _ _ _); refine sk_open ?_; intro K hK) | ((with_reducible show callK _ _ _ _ _ _ _ _); first  | fail)); simp only [callEK, evOp, evQ, withS, opd, kput, putS, upd, lookup, argsK, bringIn, bring, Res.list, Res.slot, bints, List.getElem?_cons_zero, List.getElem?_cons_succ, List.reverse_cons, List.reverse_nil, List.nil_append, List.length_nil, Nat.reduceEqDiff, Nat.reduceLT, ↓reduceIte, eq_self, true_and]) | refine ev_guard rfl rfl rfl ?_ ?_ | ((with_reducible show retQ _ _ _ _); simp only [eq_self]) | (with_reducible refine hK _ ?_; clear hK K) | (with_reducible refine And.intro ?_ ?_) | (with_reducible intro hc; try simp only [eq_self] at hc) | omega)
    unfold HoldW
    clear hn2
    have hC1 := hC.1
    have hD1 := hD.1
    have hC2 : ∀ i, i < C.length → (rowAt C i).length ≤ 1099511627776 := fun i hi => by have := hC.2 i hi; omega
    have hD2 : ∀ i, i < D.length → (rowAt D i).length ≤ 1099511627776 := fun i hi => by have := hD.2 i hi; omega
    have hs1 := Fn.bare (implIsSureWay_fn C D way (by omega) (by omega) (by omega) hC2 hD2) (vs' := [.old Z2 (rows C), .old W2 (rows D), ints way]) ⟨VE.rfl' _, VE.rfl' _, VE.rfl' _, trivial⟩
    have hs2 := Fn.bare (specIsSureWay_fn C D way (by omega) (by omega) (by omega) hC2 hD2) (vs' := [.old Z2 (rows C), .old W2 (rows D), ints way]) ⟨VE.rfl' _, VE.rfl' _, VE.rfl' _, trivial⟩
    repeat' (first | (with_reducible first | refine then_normal ?_ | refine then_ret ?_ | refine then_exit ?_ | refine block_normal ?_ | refine block_ret ?_) | ((with_reducible show blockQ _ _ _ _); first | refine block_exit ?_ | refine block_exit_ne rfl ?_) | ((with_reducible show AWP _ _ _ _ _); first | (refine AWP.holdW (id := 23) ?_) | (refine AWP.regX (id := 22) (t := 186) (fun _ : Unit => ⟨[(1, .one (.pv (bytV n g)))], [], 297⟩) (fun _ => True) ?_ ?_) | (with_reducible first | refine AWP.seq ?_ | refine AWP.block ?_ | refine AWP.region ?_ | refine AWP.ret ?_ | refine AWP.exit ?_ | refine AWP.skip ?_) | refine AWP.drawn rfl (by kernel_rfl) ?_ | refine AWP.cond rfl ?_ ?_) | with_reducible refine ev_nil ?_ | ((first | ((with_reducible show evOps _ _ _ _ _ _); (first | refine ev_step rfl ?_ | refine ev_undef rfl rfl rfl ?_); intro K hK) | ((with_reducible show EvOpen _ _ _ _ _ _ _); refine ev_open ?_; intro K hK) | ((with_reducible show SkOpen _ _ _ _ _ _ _); refine sk_open ?_; intro K hK) | ((with_reducible show callK _ _ _ _ _ _ _ _); first  | (refine call_scalar (hs1) (Nat.le_of_ble_eq_true rfl) rfl ?_) | (refine call_scalar (hs2) (Nat.le_of_ble_eq_true rfl) rfl ?_))); simp only [evOp, evQ, binK, withS, opd, kput, putS, upd, lookup, skipOp, argsK, bringIn, bring, Res.list, Res.slot, u_bool, List.getElem?_cons_zero, List.getElem?_cons_succ, List.reverse_cons, List.reverse_nil, List.nil_append, List.cons_append, Nat.reduceEqDiff, Nat.reduceLT, Nat.mul_one, Nat.zero_add, ↓reduceIte, eq_self, true_and, and_true, Bool.not_true, Bool.true_eq_false, Bool.false_eq_true, false_implies, forall_const]) | refine ev_guard rfl rfl rfl ?_ ?_ | ((with_reducible show retQ _ _ _ _); simp only [eq_self]) | (with_reducible refine hK _ ?_; clear hK K) | (with_reducible refine And.intro ?_ ?_) | (with_reducible intro hc; try simp only [bne_iff_ne, bne_eq_false_iff_eq, Bool.not_true, Bool.not_false, ne_eq, reduceCtorEq, not_true_eq_false] at hc) | omega)
    all_goals try (exfalso; simp_all; done)
    all_goals try exact ⟨(), trivial, [], rfl, by decide, ⟨VE.rfl' _, trivial⟩, trivial⟩
    · unfold HoldW
      have g2 : (swR C D way).2 = true := by assumption
      have g1 : (swR C D way).1 = true := by assumption
      have hsf := sure_facts g2 g1
      have hT : swT C D way = true := by
        cases e : swT C D way with
        | true => rfl
        | false => rw [swR_no e] at g2; cases g2
      have hwy : wayOk C way = true := by
        unfold swT at hT
        simp only [Bool.and_eq_true] at hT
        exact hT.1.2
      obtain ⟨q1, q2, q3⟩ := wayOk_parts hwy
      have hwb := Fn.bare (implWayBounds_fn C D (way.getD 0 0) (way.getD (way.length - 1) 0) (by omega) (by omega) hC2 hD2) (vs' := [.old Z2 (rows C), .old W2 (rows D), vi (way.getD 0 0), vi (way.getD (way.length - 1) 0)]) ⟨VE.rfl' _, VE.rfl' _, rfl, rfl, trivial⟩
      have hk1 := Fn.bare (costOfWay_fn C way (by omega) hC2 (by omega)) (vs' := [.old Z2 (rows C), ints way]) ⟨VE.rfl' _, VE.rfl' _, trivial⟩
      have hk2 := Fn.bare (costOfWay_fn D way (by omega) hD2 (by omega)) (vs' := [.old W2 (rows D), ints way]) ⟨VE.rfl' _, VE.rfl' _, trivial⟩
      change Fn _ _ _ (.many [.pv (vi (cowR C way).1), .pv (vb (cowR C way).2)]) at hk1
      change Fn _ _ _ (.many [.pv (vi (cowR D way).1), .pv (vb (cowR D way).2)]) at hk2
      repeat' (first | ((with_reducible show evNx _ _ _ _ _ _); first | (with_reducible refine nx_done ?_) | (refine nx_one rfl ?_) | (refine nx_alt rfl ?_ ?_) | (with_reducible refine nx_st ?_)) | ((with_reducible show evSx _ _ _ _ _ _); first | (with_reducible refine sx_done ?_) | (with_reducible refine sx_st ?_) | (with_reducible refine sx_op ?_)) | ((with_reducible show evTake _ _ _ _ _); with_reducible refine take_nil ?_) | ((with_reducible show evSy _ _ _ _ _ _ _); first | (with_reducible refine sy_done ?_) | (refine sy_last rfl ?_) | (refine sy_one (by decide) rfl ?_) | (refine sy_alt (by decide) rfl ?_ ?_) | (with_reducible refine sy_st ?_)) | ((with_reducible show StK _ _ _); first | fail) | (with_reducible first | refine then_normal ?_ | refine then_ret ?_ | refine then_exit ?_ | refine block_normal ?_ | refine block_ret ?_) | ((with_reducible show blockQ _ _ _ _); first | refine block_exit ?_ | refine block_exit_ne rfl ?_) | ((with_reducible show AWP _ _ _ _ _); first | (refine AWP.drawn_nx (id := 23) (.take 0 (.take 1 (.take 2 (.take 3 (.take 5 (.take 6 (.take 7 (.take 8 (.take 9 (.alt 4 (.one 10 (.one 11 (.take 12 (.take 13 (.take 14 (.take 15 (.take 16 (.take 17 (.take 18 .done))))))))) (.one 10 (.one 4 (.one 11 (.take 12 (.take 13 (.take 14 (.take 15 (.take 16 (.take 17 (.take 18 .done)))))))))))))))))))) rfl (by kernel_rfl) ?_) | (with_reducible first | refine AWP.seq ?_ | refine AWP.block ?_ | refine AWP.region ?_ | refine AWP.ret ?_ | refine AWP.exit ?_ | refine AWP.skip ?_) | refine AWP.drawn rfl (by kernel_rfl) ?_ | refine AWP.cond rfl ?_ ?_) | with_reducible refine ev_nil ?_ | ((first | ((with_reducible show evNx _ _ _ _ _ _); refine nx_take rfl ?_; intro K hK) | ((with_reducible show Ax _ _ _ _ _); first | (refine ax_op rfl ?_; intro K hK)) | ((with_reducible show evTake _ _ _ _ _); refine take_step rfl ?_; intro K hK) | ((with_reducible show evSy _ _ _ _ _ _ _); refine sy_take rfl ?_; intro K hK) | ((with_reducible show AxB _ _ _ _ _); first | (refine axb_op rfl rfl ?_; intro K hK)) | ((with_reducible show evOps _ _ _ _ _ _); (first | refine ev_step rfl ?_ | refine ev_undef rfl rfl rfl ?_); intro K hK) | ((with_reducible show EvOpen _ _ _ _ _ _ _); refine ev_open ?_; intro K hK) | ((with_reducible show SkOpen _ _ _ _ _ _ _); refine sk_open ?_; intro K hK) | ((with_reducible show callK _ _ _ _ _ _ _ _); first  | (refine call_scalar (hwb) (Nat.le_of_ble_eq_true rfl) rfl ?_) | (refine call_scalar (hk1) (Nat.le_of_ble_eq_true rfl) rfl ?_) | (refine call_scalar (hk2) (Nat.le_of_ble_eq_true rfl) rfl ?_))); simp only [evOp, evQ, evB, binK, withS, opd, kput, putS, upd, lookup, skipOp, argsK, loadOwn, bringIn, bring, Res.list, Res.slot, InK_i64, sz_ints, c_int, nat_m1, List.getElem?_cons_zero, List.getElem?_cons_succ, List.reverse_cons, List.reverse_nil, List.nil_append, List.cons_append, Nat.reduceEqDiff, Nat.reduceLT, Nat.mul_one, Nat.add_zero, Nat.zero_add, ↓reduceIte, eq_self, true_and, and_true, Bool.not_true, Bool.not_false, Bool.true_eq_false, Bool.false_eq_true, false_implies, forall_const, Int.toNat_zero, Option.isSome_some]) | refine ev_guard rfl rfl rfl ?_ ?_ | ((with_reducible show retQ _ _ _ _); simp only [retQ, retOk, getL, lookup, Option.map_some, fitsL, fits, ND, srcs, Res.list, VE, Value.bool.injEq, Nat.reduceEqDiff, ↓reduceIte, and_true]) | (with_reducible refine hK _ ?_; clear hK K) | (with_reducible refine And.intro ?_ ?_) | (with_reducible intro hc; try simp only [bne_iff_ne, bne_eq_false_iff_eq, Bool.not_true, Bool.not_false, ne_eq, reduceCtorEq, Bool.true_eq_false] at hc) | omega)
      all_goals try (exfalso; omega; done)
      all_goals try omega
      all_goals try exact ⟨(), trivial, [], rfl, by decide, ⟨VE.rfl' _, trivial⟩, trivial⟩
      all_goals try exact ⟨(), [], rfl, by decide, ⟨VE.rfl' _, trivial⟩, trivial⟩
      all_goals try (exfalso; have hq := hsf (by assumption); simp_all; done)
      all_goals trace_state
      all_goals sorry
    intro _ _
    repeat' (first | ((with_reducible show evNx _ _ _ _ _ _); first | (with_reducible refine nx_done ?_) | (refine nx_one rfl ?_) | (refine nx_alt rfl ?_ ?_) | (with_reducible refine nx_st ?_)) | ((with_reducible show evSx _ _ _ _ _ _); first | (with_reducible refine sx_done ?_) | (with_reducible refine sx_st ?_) | (with_reducible refine sx_op ?_)) | ((with_reducible show evTake _ _ _ _ _); with_reducible refine take_nil ?_) | ((with_reducible show evSy _ _ _ _ _ _ _); first | (with_reducible refine sy_done ?_) | (refine sy_last rfl ?_) | (refine sy_one (by decide) rfl ?_) | (refine sy_alt (by decide) rfl ?_ ?_) | (with_reducible refine sy_st ?_)) | ((with_reducible show StK _ _ _); first | fail) | (with_reducible first | refine then_normal ?_ | refine then_ret ?_ | refine then_exit ?_ | refine block_normal ?_ | refine block_ret ?_) | ((with_reducible show blockQ _ _ _ _); first | refine block_exit ?_ | refine block_exit_ne rfl ?_) | ((with_reducible show AWP _ _ _ _ _); first | (refine AWP.holdW (id := 30) ?_) | (refine AWP.region_sx (id := 29) [.op, .op, .op, .op, .op, .op, .op, .op, .op, .op, .op] ?_) | (with_reducible first | refine AWP.seq ?_ | refine AWP.block ?_ | refine AWP.region ?_ | refine AWP.ret ?_ | refine AWP.exit ?_ | refine AWP.skip ?_) | refine AWP.drawn rfl (by kernel_rfl) ?_ | refine AWP.cond rfl ?_ ?_) | with_reducible refine ev_nil ?_ | ((first | ((with_reducible show evNx _ _ _ _ _ _); refine nx_take rfl ?_; intro K hK) | ((with_reducible show Ax _ _ _ _ _); first | (refine ax_callE (f := 14) ?_) | (refine ax_op rfl ?_; intro K hK)) | ((with_reducible show evTake _ _ _ _ _); refine take_step rfl ?_; intro K hK) | ((with_reducible show evSy _ _ _ _ _ _ _); refine sy_take rfl ?_; intro K hK) | ((with_reducible show AxB _ _ _ _ _); first | (refine axb_callE (f := 14) ?_) | (refine axb_op rfl rfl ?_; intro K hK)) | (refine ⟨_, drawProductBounds_E hb2, ?_⟩; rintro _ ⟨l, h, q, t, ⟨hl, hh, hq, ht⟩, rfl⟩ hn3; simp only [Res.list, NewL, and_true, true_and] at hn3) | ((with_reducible show evOps _ _ _ _ _ _); (first | refine ev_step rfl ?_ | refine ev_undef rfl rfl rfl ?_); intro K hK) | ((with_reducible show EvOpen _ _ _ _ _ _ _); refine ev_open ?_; intro K hK) | ((with_reducible show SkOpen _ _ _ _ _ _ _); refine sk_open ?_; intro K hK) | ((with_reducible show callK _ _ _ _ _ _ _ _); first  | fail)); simp only [callEK, evOp, evQ, withS, opd, kput, putS, upd, lookup, argsK, bringIn, bring, Res.list, Res.slot, bints, List.getElem?_cons_zero, List.getElem?_cons_succ, List.reverse_cons, List.reverse_nil, List.nil_append, List.cons_append, List.length_cons, List.length_nil, Nat.reduceEqDiff, Nat.reduceAdd, Nat.reduceLT, Nat.zero_add, ↓reduceIte, eq_self, true_and]) | refine ev_guard rfl rfl rfl ?_ ?_ | ((with_reducible show retQ _ _ _ _); simp only [eq_self]) | (with_reducible refine hK _ ?_; clear hK K) | (with_reducible refine And.intro ?_ ?_) | (with_reducible intro hc; try simp only [eq_self] at hc) | omega)
    unfold HoldW
    clear hn3
    have l1 := hl.1
    have l2 := hh.1
    have l3 := hq.1
    have l4 := ht.1
    have hp1 := implProductBounds_fn l h q t (by omega) (by omega) (by omega) (by omega)
    have hp2 := specProductBounds_fn l h q t (by omega) (by omega) (by omega) (by omega)
    have hpf := pb_facts (a := l) (b := h) (c := q) (d := t)
    have hpl := pbR_len2 l h q t
    generalize pbR l h q t = X at *
    have hsi1 := sameInts_self2 X.1 (by omega)
    have hsi2 := sameInts_self2 X.2.1 (by omega)
    have hab := implAreBounds_fn X.1 X.2.1 (by omega) (by omega)
    cases hX : X.2.2 with
    | false =>
      rw [hX] at hp1 hp2
      repeat' (first | (with_reducible first | refine then_normal ?_ | refine then_ret ?_ | refine then_exit ?_ | refine block_normal ?_ | refine block_ret ?_) | ((with_reducible show blockQ _ _ _ _); first | refine block_exit ?_ | refine block_exit_ne rfl ?_) | ((with_reducible show AWP _ _ _ _ _); first | (with_reducible first | refine AWP.seq ?_ | refine AWP.block ?_ | refine AWP.region ?_ | refine AWP.ret ?_ | refine AWP.exit ?_ | refine AWP.skip ?_) | refine AWP.drawn rfl (by kernel_rfl) ?_ | refine AWP.cond rfl ?_ ?_) | with_reducible refine ev_nil ?_ | ((first | ((with_reducible show evOps _ _ _ _ _ _); (first | refine ev_step rfl ?_ | refine ev_undef rfl rfl rfl ?_); intro K hK) | ((with_reducible show EvOpen _ _ _ _ _ _ _); refine ev_open ?_; intro K hK) | ((with_reducible show SkOpen _ _ _ _ _ _ _); refine sk_open ?_; intro K hK) | ((with_reducible show callK _ _ _ _ _ _ _ _); first  | (refine call_safe ( hp1) (Nat.le_of_ble_eq_true rfl) (by repeat' (first | exact trivial | refine ⟨fun _ _ => ⟨_, rfl⟩, ?_⟩)) ?_) | (refine call_safe ( hp2) (Nat.le_of_ble_eq_true rfl) (by repeat' (first | exact trivial | refine ⟨fun _ _ => ⟨_, rfl⟩, ?_⟩)) ?_) | (refine call_scalar (hsi1) (Nat.le_of_ble_eq_true rfl) rfl ?_) | (refine call_scalar (hsi2) (Nat.le_of_ble_eq_true rfl) rfl ?_))); simp only [evOp, evQ, binK, withS, opd, kput, putS, upd, lookup, argsK, bringIn, bring, Res.list, Res.slot, u_bool, bints, List.getElem?_cons_zero, List.getElem?_cons_succ, List.reverse_cons, List.reverse_nil, List.nil_append, List.cons_append, List.length_cons, List.length_nil, Nat.reduceEqDiff, Nat.reduceAdd, Nat.reduceLT, Nat.mul_one, Nat.zero_add, ↓reduceIte, eq_self, true_and, Bool.not_true, Bool.false_eq_true, false_implies, forall_const]) | refine ev_guard rfl rfl rfl ?_ ?_ | ((with_reducible show retQ _ _ _ _); simp only [retQ, retOk, getL, lookup, Option.map_some, fitsL, fits, ND, srcs, Res.list, VE, Nat.reduceEqDiff, ↓reduceIte, and_true]) | (with_reducible refine hK _ ?_; clear hK K) | (with_reducible refine And.intro ?_ ?_) | (with_reducible intro hc; try simp only [bne_iff_ne, bne_eq_false_iff_eq, Bool.not_false, ne_eq, reduceCtorEq, not_true_eq_false] at hc) | omega)
      all_goals first
        | (exfalso; omega)
        | (exfalso; simp_all; done)
        | rfl
        | trace_state
    | true =>
      rw [hX] at hp1 hp2
      obtain ⟨k1, k2, k3, k4⟩ := hpf hX
      have hpp := implPolyProduct_fn l t k1 k2
      have hpr := prodR_len l t
      rw [k3] at hab
      generalize prodR l t = Y at *
      have hwi := implIsWithin_fn X.1 X.2.1 Y.1 (by omega) (by omega) (by omega)
      cases hY : Y.2 with
      | false =>
        rw [hY] at hpp
        repeat' (first | (with_reducible first | refine then_normal ?_ | refine then_ret ?_ | refine then_exit ?_ | refine block_normal ?_ | refine block_ret ?_) | ((with_reducible show blockQ _ _ _ _); first | refine block_exit ?_ | refine block_exit_ne rfl ?_) | ((with_reducible show AWP _ _ _ _ _); first | (with_reducible first | refine AWP.seq ?_ | refine AWP.block ?_ | refine AWP.region ?_ | refine AWP.ret ?_ | refine AWP.exit ?_ | refine AWP.skip ?_) | refine AWP.drawn rfl (by kernel_rfl) ?_ | refine AWP.cond rfl ?_ ?_) | with_reducible refine ev_nil ?_ | ((first | ((with_reducible show evOps _ _ _ _ _ _); (first | refine ev_step rfl ?_ | refine ev_undef rfl rfl rfl ?_); intro K hK) | ((with_reducible show EvOpen _ _ _ _ _ _ _); refine ev_open ?_; intro K hK) | ((with_reducible show SkOpen _ _ _ _ _ _ _); refine sk_open ?_; intro K hK) | ((with_reducible show callK _ _ _ _ _ _ _ _); first  | (refine call_safe ( hp1) (Nat.le_of_ble_eq_true rfl) (by repeat' (first | exact trivial | refine ⟨fun _ _ => ⟨_, rfl⟩, ?_⟩)) ?_) | (refine call_safe ( hp2) (Nat.le_of_ble_eq_true rfl) (by repeat' (first | exact trivial | refine ⟨fun _ _ => ⟨_, rfl⟩, ?_⟩)) ?_) | (refine call_scalar (hsi1) (Nat.le_of_ble_eq_true rfl) rfl ?_) | (refine call_scalar (hsi2) (Nat.le_of_ble_eq_true rfl) rfl ?_) | (refine call_safe ( hpp) (Nat.le_of_ble_eq_true rfl) (by repeat' (first | exact trivial | refine ⟨fun _ _ => ⟨_, rfl⟩, ?_⟩)) ?_) | (refine call_scalar (hwi) (Nat.le_of_ble_eq_true rfl) rfl ?_) | (refine call_scalar (hab) (Nat.le_of_ble_eq_true rfl) rfl ?_))); simp only [evOp, evQ, binK, withS, opd, kput, putS, upd, lookup, skipOp, argsK, bringIn, bring, Res.list, Res.slot, u_bool, bints, List.getElem?_cons_zero, List.getElem?_cons_succ, List.reverse_cons, List.reverse_nil, List.nil_append, List.cons_append, List.length_cons, List.length_nil, Nat.reduceEqDiff, Nat.reduceAdd, Nat.reduceLT, Nat.mul_one, Nat.zero_add, ↓reduceIte, eq_self, true_and, and_true, Bool.not_true, Bool.not_false, Bool.true_eq_false, Bool.false_eq_true, false_implies, forall_const]) | refine ev_guard rfl rfl rfl ?_ ?_ | ((with_reducible show retQ _ _ _ _); simp only [retQ, retOk, getL, lookup, Option.map_some, fitsL, fits, ND, srcs, Res.list, VE, Nat.reduceEqDiff, ↓reduceIte, and_true]) | (with_reducible refine hK _ ?_; clear hK K) | (with_reducible refine And.intro ?_ ?_) | (with_reducible intro hc; try simp only [bne_iff_ne, bne_eq_false_iff_eq, Bool.not_true, Bool.not_false, ne_eq, reduceCtorEq, not_true_eq_false, Bool.true_eq_false] at hc) | omega)
        all_goals first
          | (exfalso; omega)
          | (exfalso; simp_all; done)
          | rfl
          | trace_state
      | true =>
        obtain ⟨j1, j2⟩ := k4 hY
        rw [hY] at hpp
        rw [j1, k3, j2] at hwi
        repeat' (first | (with_reducible first | refine then_normal ?_ | refine then_ret ?_ | refine then_exit ?_ | refine block_normal ?_ | refine block_ret ?_) | ((with_reducible show blockQ _ _ _ _); first | refine block_exit ?_ | refine block_exit_ne rfl ?_) | ((with_reducible show AWP _ _ _ _ _); first | (with_reducible first | refine AWP.seq ?_ | refine AWP.block ?_ | refine AWP.region ?_ | refine AWP.ret ?_ | refine AWP.exit ?_ | refine AWP.skip ?_) | refine AWP.drawn rfl (by kernel_rfl) ?_ | refine AWP.cond rfl ?_ ?_) | with_reducible refine ev_nil ?_ | ((first | ((with_reducible show evOps _ _ _ _ _ _); (first | refine ev_step rfl ?_ | refine ev_undef rfl rfl rfl ?_); intro K hK) | ((with_reducible show EvOpen _ _ _ _ _ _ _); refine ev_open ?_; intro K hK) | ((with_reducible show SkOpen _ _ _ _ _ _ _); refine sk_open ?_; intro K hK) | ((with_reducible show callK _ _ _ _ _ _ _ _); first  | (refine call_safe ( hp1) (Nat.le_of_ble_eq_true rfl) (by repeat' (first | exact trivial | refine ⟨fun _ _ => ⟨_, rfl⟩, ?_⟩)) ?_) | (refine call_safe ( hp2) (Nat.le_of_ble_eq_true rfl) (by repeat' (first | exact trivial | refine ⟨fun _ _ => ⟨_, rfl⟩, ?_⟩)) ?_) | (refine call_scalar (hsi1) (Nat.le_of_ble_eq_true rfl) rfl ?_) | (refine call_scalar (hsi2) (Nat.le_of_ble_eq_true rfl) rfl ?_) | (refine call_safe ( hpp) (Nat.le_of_ble_eq_true rfl) (by repeat' (first | exact trivial | refine ⟨fun _ _ => ⟨_, rfl⟩, ?_⟩)) ?_) | (refine call_scalar (hwi) (Nat.le_of_ble_eq_true rfl) rfl ?_) | (refine call_scalar (hab) (Nat.le_of_ble_eq_true rfl) rfl ?_))); simp only [evOp, evQ, binK, withS, opd, kput, putS, upd, lookup, skipOp, argsK, bringIn, bring, Res.list, Res.slot, u_bool, bints, List.getElem?_cons_zero, List.getElem?_cons_succ, List.reverse_cons, List.reverse_nil, List.nil_append, List.cons_append, List.length_cons, List.length_nil, Nat.reduceEqDiff, Nat.reduceAdd, Nat.reduceLT, Nat.mul_one, Nat.zero_add, ↓reduceIte, eq_self, true_and, and_true, Bool.not_true, Bool.true_eq_false, Bool.false_eq_true, false_implies, forall_const]) | refine ev_guard rfl rfl rfl ?_ ?_ | ((with_reducible show retQ _ _ _ _); simp only [retQ, retOk, getL, lookup, Option.map_some, fitsL, fits, ND, srcs, Res.list, VE, Value.bool.injEq, Nat.reduceEqDiff, ↓reduceIte, and_true]) | (with_reducible refine hK _ ?_; clear hK K) | (with_reducible refine And.intro ?_ ?_) | (with_reducible intro hc; try simp only [bne_iff_ne, bne_eq_false_iff_eq, Bool.not_true, Bool.not_false, ne_eq, reduceCtorEq, not_true_eq_false, Bool.true_eq_false] at hc) | omega)
        all_goals first
          | (exfalso; omega)
          | (exfalso; simp_all; done)
          | rfl
          | trace_state
end Go.Proofs.Ytlomkebhopaliaa
