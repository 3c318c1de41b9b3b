/- Parts of the proof of LawFnParts: contracts of functions, laws of an abstract state, plain facts. No conditions. -/
import Derived.Test.YteapdildbfimnaaB11
import Derived.Lib.ConvBytes
import Derived.Laws.BytesArg
namespace Go.Proofs.Yteapdildbfimnaa
open Go.RowKit Go.Proofs
set_option linter.unusedSimpArgs false
set_option linter.unusedVariables false

theorem drCount_fn (l : List ByteArray) (c : Int) (hl : l.length ≤ 1099511627776) (hs : sumB l l.length ≤ 1099511627776) : Fn Try.prog 45 [strs l, vu c] (.one (.pv (vi (cntP l c l.length)))) := by
  have hcp := fun k => cntP_le l c k
  refine Fn.of_body Try.call45 Try.func45 rfl Try.ntmps45 (ts := [4]) rfl (by simp) rfl (fun N => ?_)
  repeat' (first | (with_reducible first | refine then_normal ?_ | refine then_ret ?_ | refine then_exit ?_ | refine block_normal ?_ | refine block_ret ?_) | ((with_reducible show blockQ _ _ _ _); first | refine block_exit ?_ | refine block_exit_ne rfl ?_) | ((with_reducible show AWP _ _ _ _ _); first | (with_reducible first | refine AWP.seq ?_ | refine AWP.block ?_ | refine AWP.region ?_ | refine AWP.ret ?_ | refine AWP.exit ?_ | refine AWP.skip ?_) | refine AWP.drawn rfl (by kernel_rfl) ?_ | refine AWP.cond rfl ?_ ?_) | with_reducible refine ev_nil ?_ | ((first | ((with_reducible show evOps _ _ _ _ _ _); (first | refine ev_step rfl ?_ | refine ev_undef rfl rfl rfl ?_); intro K hK) | ((with_reducible show EvOpen _ _ _ _ _ _ _); refine ev_open ?_; intro K hK) | ((with_reducible show SkOpen _ _ _ _ _ _ _); refine sk_open ?_; intro K hK) | ((with_reducible show callK _ _ _ _ _ _ _ _); first | fail)); simp only [evOp, evQ, evB, withS, opd, kput, putS, upd, lookup, slotsOf, sz_strs, Nat.reduceEqDiff, Nat.reduceLT, Nat.zero_add, ↓reduceIte, eq_self, true_and, Option.isSome_some]) | refine ev_guard rfl rfl rfl ?_ ?_ | ((with_reducible show retQ _ _ _ _); simp only [eq_self]) | (with_reducible refine hK _ ?_; clear hK K) | (with_reducible refine And.intro ?_ ?_) | (with_reducible intro hc; try simp only [eq_self] at hc) | omega)
  refine AWP.loop_ent (fun k : Nat => ⟨[(1, .one (.pv (vu c))), (5, sc (.int .i64 (cntP l c k))), (9, .one (.pv (strs l))), (10, sc (.int .i64 l.length)), (11, sc (.int .i64 k))], [], 30⟩)
    (fun k => k ≤ l.length) (fun k => l.length - k) 0 (by omega) (by simp [Ent, EntS, EntH, SlE, VE, VE.rfl', lookup, BE, cntP]) ?_
  intro k hk
  by_cases hkl : k < l.length
  · have h1 := sumB_mono l (show k + 1 ≤ l.length by omega)
    have h2 := cntP_le l c k
    have h3 : sumB l (k + 1) = sumB l k + lenB (stAt l k) := rfl
    have h4 : cntP l c (k + 1) = cntP l c k + cntJ (stAt l k) c (lenB (stAt l k)) := rfl
    repeat' (first | (with_reducible first | refine then_normal ?_ | refine then_ret ?_ | refine then_exit ?_ | refine block_normal ?_ | refine block_ret ?_) | ((with_reducible show blockQ _ _ _ _); first | refine block_exit ?_ | refine block_exit_ne rfl ?_) | ((with_reducible show AWP _ _ _ _ _); first | (with_reducible first | refine AWP.seq ?_ | refine AWP.block ?_ | refine AWP.region ?_ | refine AWP.ret ?_ | refine AWP.exit ?_ | refine AWP.skip ?_) | refine AWP.drawn rfl (by kernel_rfl) ?_ | refine AWP.cond rfl ?_ ?_) | with_reducible refine ev_nil ?_ | ((first | ((with_reducible show evOps _ _ _ _ _ _); (first | refine ev_step rfl ?_ | refine ev_undef rfl rfl rfl ?_); intro K hK) | ((with_reducible show EvOpen _ _ _ _ _ _ _); refine ev_open ?_; intro K hK) | ((with_reducible show SkOpen _ _ _ _ _ _ _); refine sk_open ?_; intro K hK) | ((with_reducible show callK _ _ _ _ _ _ _ _); first | fail)); simp only [evOp, evQ, binK, withS, opd, kput, putS, upd, lookup, sz_strs, c_string, Nat.reduceEqDiff, Nat.reduceLT, Nat.mul_one, Nat.add_zero, ↓reduceIte, eq_self, true_and, Int.toNat_natCast]) | refine ev_guard rfl rfl rfl ?_ ?_ | ((with_reducible show retQ _ _ _ _); simp only [retQ, retOk, getL, lookup, Option.map_some, fitsL, fits, ND, srcs, Res.list, VE, Value.int.injEq, Nat.reduceEqDiff, ↓reduceIte, and_true, true_and]) | (with_reducible refine hK _ ?_; clear hK K) | (with_reducible refine And.intro ?_ ?_) | (with_reducible intro hc; try simp only [decide_eq_true_eq, decide_eq_false_iff_not, Int.not_lt] at hc) | omega)
    generalize stAt l k = b at *
    refine AWP.loop_ent (fun j : Nat => ⟨[(1, .one (.pv (vu c))), (5, sc (.int .i64 (cntP l c k + cntJ b c j : Nat))), (7, .one (.pv (vs b))), (8, sc (.int .i64 j)), (9, .one (.pv (strs l))), (10, sc (.int .i64 l.length)), (11, sc (.int .i64 k))], [], 30⟩)
      (fun j => j ≤ lenB b) (fun j => lenB b - j) 0 (by omega) (by simp [Ent, EntS, EntH, SlE, VE, VE.rfl', lookup, BE, cntJ]) ?_
    intro j hj
    have h5 := cntJ_le b c j
    have h6 : cntJ b c (j + 1) = cntJ b c j + if byteI b j = c then 1 else 0 := rfl
    by_cases hjb : j < lenB b
    · repeat' (first | (with_reducible first | refine then_normal ?_ | refine then_ret ?_ | refine then_exit ?_ | refine block_normal ?_ | refine block_ret ?_) | ((with_reducible show blockQ _ _ _ _); first | refine block_exit ?_ | refine block_exit_ne rfl ?_) | ((with_reducible show AWP _ _ _ _ _); first | (with_reducible first | refine AWP.seq ?_ | refine AWP.block ?_ | refine AWP.region ?_ | refine AWP.ret ?_ | refine AWP.exit ?_ | refine AWP.skip ?_) | refine AWP.drawn rfl (by kernel_rfl) ?_ | refine AWP.cond rfl ?_ ?_) | with_reducible refine ev_nil ?_ | ((first | ((with_reducible show evOps _ _ _ _ _ _); (first | refine ev_step rfl ?_ | refine ev_undef rfl rfl rfl ?_); intro K hK) | ((with_reducible show EvOpen _ _ _ _ _ _ _); refine ev_open ?_; intro K hK) | ((with_reducible show SkOpen _ _ _ _ _ _ _); refine sk_open ?_; intro K hK) | ((with_reducible show callK _ _ _ _ _ _ _ _); first | fail)); simp only [evOp, evQ, evB, binK, withS, opd, kput, putS, upd, lookup, InK_i64, u_string, lenB_is, byteI_is, Nat.reduceEqDiff, Nat.reduceLT, ↓reduceIte, eq_self, true_and, Int.toNat_natCast]) | refine ev_guard rfl rfl rfl ?_ ?_ | ((with_reducible show retQ _ _ _ _); simp only [eq_self]) | (with_reducible refine hK _ ?_; clear hK K) | (with_reducible refine And.intro ?_ ?_) | (with_reducible intro hc; try simp only [decide_eq_true_eq, decide_eq_false_iff_not, beq_iff_eq, beq_eq_false_iff_ne, Int.not_lt, ne_eq] at hc) | omega)
      all_goals first
        | (exfalso; omega)
        | omega
        | (rw [if_pos (by assumption)] at h6
           refine ⟨j + 1, by omega, by omega, ?_⟩
           simp [Ent, EntS, EntH, SlE, VE, VE.rfl', lookup, BE, h6]; omega)
        | (rw [if_neg (by assumption)] at h6
           refine ⟨j + 1, by omega, by omega, ?_⟩
           simp [Ent, EntS, EntH, SlE, VE, VE.rfl', lookup, BE, h6])
        | trace_state
    · obtain rfl : j = lenB b := by omega
      repeat' (first | (with_reducible first | refine then_normal ?_ | refine then_ret ?_ | refine then_exit ?_ | refine block_normal ?_ | refine block_ret ?_) | ((with_reducible show blockQ _ _ _ _); first | refine block_exit ?_ | refine block_exit_ne rfl ?_) | ((with_reducible show AWP _ _ _ _ _); first | (with_reducible first | refine AWP.seq ?_ | refine AWP.block ?_ | refine AWP.region ?_ | refine AWP.ret ?_ | refine AWP.exit ?_ | refine AWP.skip ?_) | refine AWP.drawn rfl (by kernel_rfl) ?_ | refine AWP.cond rfl ?_ ?_) | with_reducible refine ev_nil ?_ | ((first | ((with_reducible show evOps _ _ _ _ _ _); (first | refine ev_step rfl ?_ | refine ev_undef rfl rfl rfl ?_); intro K hK) | ((with_reducible show EvOpen _ _ _ _ _ _ _); refine ev_open ?_; intro K hK) | ((with_reducible show SkOpen _ _ _ _ _ _ _); refine sk_open ?_; intro K hK) | ((with_reducible show callK _ _ _ _ _ _ _ _); first | fail)); simp only [evOp, evQ, evB, binK, withS, opd, kput, putS, upd, lookup, InK_i64, u_string, lenB_is, byteI_is, Nat.reduceEqDiff, Nat.reduceLT, ↓reduceIte, eq_self, true_and, Int.toNat_natCast]) | refine ev_guard rfl rfl rfl ?_ ?_ | ((with_reducible show retQ _ _ _ _); simp only [eq_self]) | (with_reducible refine hK _ ?_; clear hK K) | (with_reducible refine And.intro ?_ ?_) | (with_reducible intro hc; try simp only [decide_eq_true_eq, decide_eq_false_iff_not, beq_iff_eq, beq_eq_false_iff_ne, Int.not_lt, ne_eq] at hc) | omega)
      all_goals first
        | (exfalso; omega)
        | omega
        | (refine ⟨k + 1, by omega, by omega, ?_⟩
           simp [Ent, EntS, EntH, SlE, VE, VE.rfl', lookup, BE, h4])
        | trace_state
  · obtain rfl : k = l.length := by omega
    repeat' (first | (with_reducible first | refine then_normal ?_ | refine then_ret ?_ | refine then_exit ?_ | refine block_normal ?_ | refine block_ret ?_) | ((with_reducible show blockQ _ _ _ _); first | refine block_exit ?_ | refine block_exit_ne rfl ?_) | ((with_reducible show AWP _ _ _ _ _); first | (with_reducible first | refine AWP.seq ?_ | refine AWP.block ?_ | refine AWP.region ?_ | refine AWP.ret ?_ | refine AWP.exit ?_ | refine AWP.skip ?_) | refine AWP.drawn rfl (by kernel_rfl) ?_ | refine AWP.cond rfl ?_ ?_) | with_reducible refine ev_nil ?_ | ((first | ((with_reducible show evOps _ _ _ _ _ _); (first | refine ev_step rfl ?_ | refine ev_undef rfl rfl rfl ?_); intro K hK) | ((with_reducible show EvOpen _ _ _ _ _ _ _); refine ev_open ?_; intro K hK) | ((with_reducible show SkOpen _ _ _ _ _ _ _); refine sk_open ?_; intro K hK) | ((with_reducible show callK _ _ _ _ _ _ _ _); first | fail)); simp only [evOp, evQ, binK, withS, opd, kput, putS, upd, lookup, sz_strs, c_string, Nat.reduceEqDiff, Nat.reduceLT, Nat.mul_one, Nat.add_zero, ↓reduceIte, eq_self, true_and, Int.toNat_natCast]) | refine ev_guard rfl rfl rfl ?_ ?_ | ((with_reducible show retQ _ _ _ _); simp only [retQ, retOk, getL, lookup, Option.map_some, fitsL, fits, ND, srcs, Res.list, VE, Nat.reduceEqDiff, ↓reduceIte, and_true]) | (with_reducible refine hK _ ?_; clear hK K) | (with_reducible refine And.intro ?_ ?_) | (with_reducible intro hc; try simp only [decide_eq_true_eq, decide_eq_false_iff_not, Int.not_lt] at hc) | omega)
    all_goals first
      | (exfalso; omega)
      | rfl
      | trace_state

theorem drMark_fn (b : ByteArray) (hb : lenB b ≤ 1099511627776) : Fn Try.prog 87 [vs b] (.one (.pv (vb (mrkB b)))) := by
  by_cases h : lenB b = 1
  · have hg := drGood_fn [b] (by simp) (fun i => by cases i with | zero => exact hb | succ i => show lenB ([].getD i ByteArray.empty) ≤ _; simp [lenB, bytesOf])
    have hv : VEL [.seq 1 1 fun i => if i = 0 then vs b else vs ByteArray.empty] [strs [b]] := ⟨⟨rfl, rfl, fun i hi => VE.of_eq (by
      have : i < 1 := hi
      obtain rfl : i = 0 := by omega
      rfl)⟩, trivial⟩
    have hcon := hg.of_ve hv
    refine Fn.of_body Try.call87 Try.func87 rfl Try.ntmps87 (ts := [2]) rfl (by simp) rfl (fun N => ?_)
    repeat' (first | (with_reducible first | refine then_normal ?_ | refine then_ret ?_ | refine then_exit ?_ | refine block_normal ?_ | refine block_ret ?_) | ((with_reducible show blockQ _ _ _ _); first | refine block_exit ?_ | refine block_exit_ne rfl ?_) | ((with_reducible show AWP _ _ _ _ _); first | (with_reducible first | refine AWP.seq ?_ | refine AWP.block ?_ | refine AWP.region ?_ | refine AWP.ret ?_ | refine AWP.exit ?_ | refine AWP.skip ?_) | refine AWP.drawn rfl (by kernel_rfl) ?_ | refine AWP.cond rfl ?_ ?_) | with_reducible refine ev_nil ?_ | ((first | ((with_reducible show evOps _ _ _ _ _ _); (first | refine ev_step rfl ?_ | refine ev_undef rfl rfl rfl ?_); intro K hK) | ((with_reducible show EvOpen _ _ _ _ _ _ _); refine ev_open ?_; intro K hK) | ((with_reducible show SkOpen _ _ _ _ _ _ _); refine sk_open ?_; intro K hK) | ((with_reducible show callK _ _ _ _ _ _ _ _); first  | (refine call_scalar (hcon) (Nat.le_of_ble_eq_true rfl) rfl ?_))); simp only [evOp, evQ, evB, binK, withS, opd, kput, putS, upd, lookup, skipOp, argsK, bringIn, bring, Res.list, Res.slot, slotsOf, frz, newBlk, partsK, buildSliceK, plSlice, V.one, Value.oneCell', ei_strs, ea_strs, u_string, lenB_is, List.getElem?_cons_zero, List.reverse_cons, List.reverse_nil, List.nil_append, List.length_cons, List.length_nil, Nat.reduceEqDiff, Nat.reduceLT, Nat.reduceLeDiff, Nat.mul_one, Nat.zero_add, Nat.mod_one, List.getD_cons_zero, ↓reduceIte, eq_self, true_and, and_true, Bool.not_true, Bool.true_eq_false, Bool.false_eq_true, false_implies, forall_const]) | refine ev_guard rfl rfl rfl ?_ ?_ | ((with_reducible show retQ _ _ _ _); simp only [retQ, retOk, getL, lookup, Option.map_some, fitsL, fits, ND, srcs, Res.list, VE, Value.bool.injEq, Nat.reduceEqDiff, ↓reduceIte, and_true]) | (with_reducible refine hK _ ?_; clear hK K) | (with_reducible refine And.intro ?_ ?_) | (with_reducible intro hc; try simp only [beq_iff_eq, beq_eq_false_iff_ne, Bool.not_true, ne_eq, reduceCtorEq, Bool.true_eq_false] at hc) | omega)
    all_goals first
      | (rw [picB_one h, mrkB_is (by omega)]; done)
      | (exfalso; simp_all; done)
      | trace_state
  · refine Fn.of_body Try.call87 Try.func87 rfl Try.ntmps87 (ts := [2]) rfl (by simp) rfl (fun N => ?_)
    repeat' (first | (with_reducible first | refine then_normal ?_ | refine then_ret ?_ | refine then_exit ?_ | refine block_normal ?_ | refine block_ret ?_) | ((with_reducible show blockQ _ _ _ _); first | refine block_exit ?_ | refine block_exit_ne rfl ?_) | ((with_reducible show AWP _ _ _ _ _); first | (with_reducible first | refine AWP.seq ?_ | refine AWP.block ?_ | refine AWP.region ?_ | refine AWP.ret ?_ | refine AWP.exit ?_ | refine AWP.skip ?_) | refine AWP.drawn rfl (by kernel_rfl) ?_ | refine AWP.cond rfl ?_ ?_) | with_reducible refine ev_nil ?_ | ((first | ((with_reducible show evOps _ _ _ _ _ _); (first | refine ev_step rfl ?_ | refine ev_undef rfl rfl rfl ?_); intro K hK) | ((with_reducible show EvOpen _ _ _ _ _ _ _); refine ev_open ?_; intro K hK) | ((with_reducible show SkOpen _ _ _ _ _ _ _); refine sk_open ?_; intro K hK) | ((with_reducible show callK _ _ _ _ _ _ _ _); first | fail)); simp only [evOp, evQ, evB, binK, withS, opd, kput, putS, upd, lookup, skipOp, argsK, slotsOf, frz, newBlk, partsK, buildSliceK, plSlice, V.one, Value.oneCell', ei_strs, ea_strs, u_string, lenB_is, List.getElem?_cons_zero, List.reverse_cons, List.reverse_nil, List.nil_append, List.length_cons, List.length_nil, Nat.reduceEqDiff, Nat.reduceLT, Nat.reduceLeDiff, Nat.mul_one, Nat.zero_add, Nat.mod_one, List.getD_cons_zero, ↓reduceIte, eq_self, true_and, Bool.not_true, Bool.false_eq_true, false_implies, forall_const]) | refine ev_guard rfl rfl rfl ?_ ?_ | ((with_reducible show retQ _ _ _ _); simp only [retQ, retOk, getL, lookup, Option.map_some, fitsL, fits, ND, srcs, Res.list, VE, Value.bool.injEq, Nat.reduceEqDiff, ↓reduceIte, and_true]) | (with_reducible refine hK _ ?_; clear hK K) | (with_reducible refine And.intro ?_ ?_) | (with_reducible intro hc; try simp only [beq_iff_eq, beq_eq_false_iff_ne, Bool.not_true, ne_eq, reduceCtorEq, Bool.true_eq_false] at hc) | omega)
    all_goals first
      | (exfalso; simp_all; done)
      | (exfalso; omega)
      | (rw [mrkB_len (by omega)]; done)
      | trace_state

theorem specCountLetter_fn (l : List ByteArray) (b : ByteArray) (hl : l.length ≤ 1099511627776) (hs : ∀ i, lenB (stAt l i) ≤ 1099511627776) (hb : lenB b ≤ 1099511627776) : Fn Try.prog 38 [strs l, vs b] (.many [.pv (vi (clR l b).1), .pv (vb (clR l b).2)]) := by
  by_cases h : picB l = true
  · obtain ⟨h2, h3, h4⟩ := picB_parts h
    have h5 := picB_sum h l.length (Nat.le_refl _)
    by_cases hm : mrkB b = true
    · have hl1 : lenB b = 1 := by
        unfold mrkB at hm; simp only [Bool.and_eq_true, decide_eq_true_eq] at hm; exact hm.1
      refine Fn.of_body Try.call38 Try.func38 rfl Try.ntmps38 (ts := [4, 5]) rfl (by simp) rfl (fun N => ?_)
      repeat' (first | (with_reducible first | refine then_normal ?_ | refine then_ret ?_ | refine then_exit ?_ | refine block_normal ?_ | refine block_ret ?_) | ((with_reducible show blockQ _ _ _ _); first | refine block_exit ?_ | refine block_exit_ne rfl ?_) | ((with_reducible show AWP _ _ _ _ _); first | (with_reducible first | refine AWP.seq ?_ | refine AWP.block ?_ | refine AWP.region ?_ | refine AWP.ret ?_ | refine AWP.exit ?_ | refine AWP.skip ?_) | refine AWP.drawn rfl (by kernel_rfl) ?_ | refine AWP.cond rfl ?_ ?_) | with_reducible refine ev_nil ?_ | ((first | ((with_reducible show evOps _ _ _ _ _ _); (first | refine ev_step rfl ?_ | refine ev_undef rfl rfl rfl ?_); intro K hK) | ((with_reducible show EvOpen _ _ _ _ _ _ _); refine ev_open ?_; intro K hK) | ((with_reducible show SkOpen _ _ _ _ _ _ _); refine sk_open ?_; intro K hK) | ((with_reducible show callK _ _ _ _ _ _ _ _); first  | (refine call_scalar (drGood_fn l hl hs) (Nat.le_of_ble_eq_true rfl) rfl ?_) | (refine call_scalar (drMark_fn b hb) (Nat.le_of_ble_eq_true rfl) rfl ?_) | (refine call_scalar (drCount_fn l (byteI b 0) hl (by omega)) (Nat.le_of_ble_eq_true rfl) rfl ?_))); simp only [evOp, evQ, withS, opd, kput, putS, upd, lookup, skipOp, argsK, bringIn, bring, Res.list, Res.slot, slotsOf, u_string, lenB_is, byteI_is, List.reverse_cons, List.reverse_nil, List.nil_append, List.cons_append, Nat.reduceEqDiff, Nat.reduceLT, Nat.zero_add, ↓reduceIte, eq_self, true_and, and_true, Bool.not_false, Bool.true_eq_false, Bool.false_eq_true, false_implies, forall_const, Int.toNat_zero]) | refine ev_guard rfl rfl rfl ?_ ?_ | ((with_reducible show retQ _ _ _ _); simp only [retQ, retOk, getL, lookup, Option.map_some, fitsL, fits, ND, srcs, Res.list, VE, Value.bool.injEq, Value.int.injEq, Nat.reduceEqDiff, ↓reduceIte, and_true, true_and]) | (with_reducible refine hK _ ?_; clear hK K) | (with_reducible refine And.intro ?_ ?_) | (with_reducible intro hc; try simp only [Bool.not_eq_true', Bool.not_eq_false', Bool.not_false, reduceCtorEq, Bool.true_eq_false] at hc) | omega)
      all_goals first
        | (exfalso; simp_all; done)
        | (rw [clR_yes h hm]; done)
        | omega
        | trace_state
    · refine Fn.of_body Try.call38 Try.func38 rfl Try.ntmps38 (ts := [4, 5]) rfl (by simp) rfl (fun N => ?_)
      repeat' (first | (with_reducible first | refine then_normal ?_ | refine then_ret ?_ | refine then_exit ?_ | refine block_normal ?_ | refine block_ret ?_) | ((with_reducible show blockQ _ _ _ _); first | refine block_exit ?_ | refine block_exit_ne rfl ?_) | ((with_reducible show AWP _ _ _ _ _); first | (with_reducible first | refine AWP.seq ?_ | refine AWP.block ?_ | refine AWP.region ?_ | refine AWP.ret ?_ | refine AWP.exit ?_ | refine AWP.skip ?_) | refine AWP.drawn rfl (by kernel_rfl) ?_ | refine AWP.cond rfl ?_ ?_) | with_reducible refine ev_nil ?_ | ((first | ((with_reducible show evOps _ _ _ _ _ _); (first | refine ev_step rfl ?_ | refine ev_undef rfl rfl rfl ?_); intro K hK) | ((with_reducible show EvOpen _ _ _ _ _ _ _); refine ev_open ?_; intro K hK) | ((with_reducible show SkOpen _ _ _ _ _ _ _); refine sk_open ?_; intro K hK) | ((with_reducible show callK _ _ _ _ _ _ _ _); first  | (refine call_scalar (drGood_fn l hl hs) (Nat.le_of_ble_eq_true rfl) rfl ?_) | (refine call_scalar (drMark_fn b hb) (Nat.le_of_ble_eq_true rfl) rfl ?_))); simp only [evOp, evQ, withS, opd, kput, putS, upd, lookup, skipOp, argsK, bringIn, bring, Res.list, Res.slot, slotsOf, u_string, lenB_is, byteI_is, List.reverse_cons, List.reverse_nil, List.nil_append, List.cons_append, Nat.reduceEqDiff, Nat.reduceLT, Nat.zero_add, ↓reduceIte, eq_self, true_and, and_true, Bool.not_false, Bool.true_eq_false, Bool.false_eq_true, false_implies, forall_const, Int.toNat_zero]) | refine ev_guard rfl rfl rfl ?_ ?_ | ((with_reducible show retQ _ _ _ _); simp only [retQ, retOk, getL, lookup, Option.map_some, fitsL, fits, ND, srcs, Res.list, VE, Value.bool.injEq, Value.int.injEq, Nat.reduceEqDiff, ↓reduceIte, and_true, true_and]) | (with_reducible refine hK _ ?_; clear hK K) | (with_reducible refine And.intro ?_ ?_) | (with_reducible intro hc; try simp only [Bool.not_eq_true', Bool.not_eq_false', Bool.not_false, reduceCtorEq, Bool.true_eq_false] at hc) | omega)
      all_goals first
        | (exfalso; simp_all; done)
        | (rw [clR_no2 (by simpa using hm)]; done)
        | trace_state
  · refine Fn.of_body Try.call38 Try.func38 rfl Try.ntmps38 (ts := [4, 5]) rfl (by simp) rfl (fun N => ?_)
    repeat' (first | (with_reducible first | refine then_normal ?_ | refine then_ret ?_ | refine then_exit ?_ | refine block_normal ?_ | refine block_ret ?_) | ((with_reducible show blockQ _ _ _ _); first | refine block_exit ?_ | refine block_exit_ne rfl ?_) | ((with_reducible show AWP _ _ _ _ _); first | (with_reducible first | refine AWP.seq ?_ | refine AWP.block ?_ | refine AWP.region ?_ | refine AWP.ret ?_ | refine AWP.exit ?_ | refine AWP.skip ?_) | refine AWP.drawn rfl (by kernel_rfl) ?_ | refine AWP.cond rfl ?_ ?_) | with_reducible refine ev_nil ?_ | ((first | ((with_reducible show evOps _ _ _ _ _ _); (first | refine ev_step rfl ?_ | refine ev_undef rfl rfl rfl ?_); intro K hK) | ((with_reducible show EvOpen _ _ _ _ _ _ _); refine ev_open ?_; intro K hK) | ((with_reducible show SkOpen _ _ _ _ _ _ _); refine sk_open ?_; intro K hK) | ((with_reducible show callK _ _ _ _ _ _ _ _); first  | (refine call_scalar (drGood_fn l hl hs) (Nat.le_of_ble_eq_true rfl) rfl ?_) | (refine call_scalar (drMark_fn b hb) (Nat.le_of_ble_eq_true rfl) rfl ?_))); simp only [evOp, evQ, withS, opd, kput, putS, upd, lookup, skipOp, argsK, bringIn, bring, Res.list, Res.slot, slotsOf, u_string, lenB_is, byteI_is, List.reverse_cons, List.reverse_nil, List.nil_append, List.cons_append, Nat.reduceEqDiff, Nat.reduceLT, Nat.zero_add, ↓reduceIte, eq_self, true_and, and_true, Bool.not_false, Bool.true_eq_false, Bool.false_eq_true, false_implies, forall_const, Int.toNat_zero]) | refine ev_guard rfl rfl rfl ?_ ?_ | ((with_reducible show retQ _ _ _ _); simp only [retQ, retOk, getL, lookup, Option.map_some, fitsL, fits, ND, srcs, Res.list, VE, Value.bool.injEq, Value.int.injEq, Nat.reduceEqDiff, ↓reduceIte, and_true, true_and]) | (with_reducible refine hK _ ?_; clear hK K) | (with_reducible refine And.intro ?_ ?_) | (with_reducible intro hc; try simp only [Bool.not_eq_true', Bool.not_eq_false', Bool.not_false, reduceCtorEq, Bool.true_eq_false] at hc) | omega)
    all_goals first
      | (exfalso; simp_all; done)
      | (rw [clR_no1 (by simpa using h)]; done)
      | trace_state

theorem implCountLetter_fn (l : List ByteArray) (b : ByteArray) (hl : l.length ≤ 1099511627776) : Fn Try.prog 36 [strs l, vs b] (.many [.pv (vi (clR l b).1), .pv (vb (clR l b).2)]) := by
  by_cases h : picB l = true
  · obtain ⟨h2, h3, h4⟩ := picB_parts h
    have h5 := picB_sum h l.length (Nat.le_refl _)
    by_cases hm : mrkB b = true
    · have hl1 : lenB b = 1 := by
        unfold mrkB at hm; simp only [Bool.and_eq_true, decide_eq_true_eq] at hm; exact hm.1
      obtain ⟨c, rfl, hc0⟩ := one_byte hl1
      have hlt : ltrI (byteI ⟨#[c]⟩ 0) = true := by rw [← mrkB_is (by omega)]; exact hm
      have hj := join_fn l ⟨#[]⟩ hl (by show (Lib.join (l.map (·.data.toList)) []).length ≤ _; rw [join_none_len]; omega)
      have hcnt := count_fn (joinB l ⟨#[]⟩) c
      rw [cntP_join] at hcnt
      refine Fn.of_body Try.call36 Try.func36 rfl Try.ntmps36 (ts := [4, 5]) rfl (by simp) rfl (fun N => ?_)
      repeat' (first | (with_reducible first | refine then_normal ?_ | refine then_ret ?_ | refine then_exit ?_ | refine block_normal ?_ | refine block_ret ?_) | ((with_reducible show blockQ _ _ _ _); first | refine block_exit ?_ | refine block_exit_ne rfl ?_) | ((with_reducible show AWP _ _ _ _ _); first | (with_reducible first | refine AWP.seq ?_ | refine AWP.block ?_ | refine AWP.region ?_ | refine AWP.ret ?_ | refine AWP.exit ?_ | refine AWP.skip ?_) | refine AWP.drawn rfl (by kernel_rfl) ?_ | refine AWP.cond rfl ?_ ?_) | with_reducible refine ev_nil ?_ | ((first | ((with_reducible show evOps _ _ _ _ _ _); (first | refine ev_step rfl ?_ | refine ev_undef rfl rfl rfl ?_); intro K hK) | ((with_reducible show EvOpen _ _ _ _ _ _ _); refine ev_open ?_; intro K hK) | ((with_reducible show SkOpen _ _ _ _ _ _ _); refine sk_open ?_; intro K hK) | ((with_reducible show callK _ _ _ _ _ _ _ _); first  | (refine call_scalar (isPicture_fn l hl) (Nat.le_of_ble_eq_true rfl) rfl ?_) | (refine call_scalar (isLetter_fn _) (Nat.le_of_ble_eq_true rfl) rfl ?_) | (refine call_scalar (hj) (Nat.le_of_ble_eq_true rfl) rfl ?_) | (refine call_scalar (hcnt) (Nat.le_of_ble_eq_true rfl) rfl ?_))); simp only [evOp, evQ, evB, binK, withS, opd, kput, putS, upd, lookup, skipOp, argsK, bringIn, bring, Res.list, Res.slot, slotsOf, u_string, lenB_is, byteI_is, List.reverse_cons, List.reverse_nil, List.nil_append, List.cons_append, Nat.reduceEqDiff, Nat.reduceLT, Nat.zero_add, ↓reduceIte, eq_self, true_and, and_true, Bool.not_false, Bool.true_eq_false, Bool.false_eq_true, false_implies, forall_const, Int.toNat_zero]) | refine ev_guard rfl rfl rfl ?_ ?_ | ((with_reducible show retQ _ _ _ _); simp only [retQ, retOk, getL, lookup, Option.map_some, fitsL, fits, ND, srcs, Res.list, VE, Value.bool.injEq, Value.int.injEq, Nat.reduceEqDiff, ↓reduceIte, and_true, true_and]) | (with_reducible refine hK _ ?_; clear hK K) | (with_reducible refine And.intro ?_ ?_) | (with_reducible intro hc; try simp only [bne_iff_ne, bne_eq_false_iff_eq, Bool.not_eq_true', Bool.not_eq_false', Bool.not_false, ne_eq, reduceCtorEq, Bool.true_eq_false] at hc) | omega)
      all_goals first
        | (exfalso; omega)
        | (exfalso; simp_all; done)
        | (rw [clR_yes h hm, hc0]; done)
        | (rw [clR_yes h hm]; done)
        | trace_state
    · refine Fn.of_body Try.call36 Try.func36 rfl Try.ntmps36 (ts := [4, 5]) rfl (by simp) rfl (fun N => ?_)
      repeat' (first | (with_reducible first | refine then_normal ?_ | refine then_ret ?_ | refine then_exit ?_ | refine block_normal ?_ | refine block_ret ?_) | ((with_reducible show blockQ _ _ _ _); first | refine block_exit ?_ | refine block_exit_ne rfl ?_) | ((with_reducible show AWP _ _ _ _ _); first | (with_reducible first | refine AWP.seq ?_ | refine AWP.block ?_ | refine AWP.region ?_ | refine AWP.ret ?_ | refine AWP.exit ?_ | refine AWP.skip ?_) | refine AWP.drawn rfl (by kernel_rfl) ?_ | refine AWP.cond rfl ?_ ?_) | with_reducible refine ev_nil ?_ | ((first | ((with_reducible show evOps _ _ _ _ _ _); (first | refine ev_step rfl ?_ | refine ev_undef rfl rfl rfl ?_); intro K hK) | ((with_reducible show EvOpen _ _ _ _ _ _ _); refine ev_open ?_; intro K hK) | ((with_reducible show SkOpen _ _ _ _ _ _ _); refine sk_open ?_; intro K hK) | ((with_reducible show callK _ _ _ _ _ _ _ _); first  | (refine call_scalar (isPicture_fn l hl) (Nat.le_of_ble_eq_true rfl) rfl ?_) | (refine call_scalar (isLetter_fn _) (Nat.le_of_ble_eq_true rfl) rfl ?_))); simp only [evOp, evQ, evB, binK, withS, opd, kput, putS, upd, lookup, skipOp, argsK, bringIn, bring, Res.list, Res.slot, slotsOf, u_string, lenB_is, byteI_is, List.reverse_cons, List.reverse_nil, List.nil_append, List.cons_append, Nat.reduceEqDiff, Nat.reduceLT, Nat.zero_add, ↓reduceIte, eq_self, true_and, and_true, Bool.not_false, Bool.true_eq_false, Bool.false_eq_true, false_implies, forall_const, Int.toNat_zero]) | refine ev_guard rfl rfl rfl ?_ ?_ | ((with_reducible show retQ _ _ _ _); simp only [retQ, retOk, getL, lookup, Option.map_some, fitsL, fits, ND, srcs, Res.list, VE, Value.bool.injEq, Value.int.injEq, Nat.reduceEqDiff, ↓reduceIte, and_true, true_and]) | (with_reducible refine hK _ ?_; clear hK K) | (with_reducible refine And.intro ?_ ?_) | (with_reducible intro hc; try simp only [bne_iff_ne, bne_eq_false_iff_eq, Bool.not_eq_true', Bool.not_eq_false', Bool.not_false, ne_eq, reduceCtorEq, Bool.true_eq_false] at hc) | omega)
      all_goals first
        | (rw [clR_no2 (by simpa using hm)]; done)
        | (exfalso; omega)
        | (exfalso; rw [mrkB_is (by assumption)] at hm; simp_all; done)
        | (exfalso; simp_all; done)
        | trace_state
  · refine Fn.of_body Try.call36 Try.func36 rfl Try.ntmps36 (ts := [4, 5]) rfl (by simp) rfl (fun N => ?_)
    repeat' (first | (with_reducible first | refine then_normal ?_ | refine then_ret ?_ | refine then_exit ?_ | refine block_normal ?_ | refine block_ret ?_) | ((with_reducible show blockQ _ _ _ _); first | refine block_exit ?_ | refine block_exit_ne rfl ?_) | ((with_reducible show AWP _ _ _ _ _); first | (with_reducible first | refine AWP.seq ?_ | refine AWP.block ?_ | refine AWP.region ?_ | refine AWP.ret ?_ | refine AWP.exit ?_ | refine AWP.skip ?_) | refine AWP.drawn rfl (by kernel_rfl) ?_ | refine AWP.cond rfl ?_ ?_) | with_reducible refine ev_nil ?_ | ((first | ((with_reducible show evOps _ _ _ _ _ _); (first | refine ev_step rfl ?_ | refine ev_undef rfl rfl rfl ?_); intro K hK) | ((with_reducible show EvOpen _ _ _ _ _ _ _); refine ev_open ?_; intro K hK) | ((with_reducible show SkOpen _ _ _ _ _ _ _); refine sk_open ?_; intro K hK) | ((with_reducible show callK _ _ _ _ _ _ _ _); first  | (refine call_scalar (isPicture_fn l hl) (Nat.le_of_ble_eq_true rfl) rfl ?_) | (refine call_scalar (isLetter_fn _) (Nat.le_of_ble_eq_true rfl) rfl ?_))); simp only [evOp, evQ, evB, binK, withS, opd, kput, putS, upd, lookup, skipOp, argsK, bringIn, bring, Res.list, Res.slot, slotsOf, u_string, lenB_is, byteI_is, List.reverse_cons, List.reverse_nil, List.nil_append, List.cons_append, Nat.reduceEqDiff, Nat.reduceLT, Nat.zero_add, ↓reduceIte, eq_self, true_and, and_true, Bool.not_false, Bool.true_eq_false, Bool.false_eq_true, false_implies, forall_const, Int.toNat_zero]) | refine ev_guard rfl rfl rfl ?_ ?_ | ((with_reducible show retQ _ _ _ _); simp only [retQ, retOk, getL, lookup, Option.map_some, fitsL, fits, ND, srcs, Res.list, VE, Value.bool.injEq, Value.int.injEq, Nat.reduceEqDiff, ↓reduceIte, and_true, true_and]) | (with_reducible refine hK _ ?_; clear hK K) | (with_reducible refine And.intro ?_ ?_) | (with_reducible intro hc; try simp only [bne_iff_ne, bne_eq_false_iff_eq, Bool.not_eq_true', Bool.not_eq_false', Bool.not_false, ne_eq, reduceCtorEq, Bool.true_eq_false] at hc) | omega)
    all_goals first
      | (rw [clR_no1 (by simpa using h)]; done)
      | (exfalso; simp_all; done)
      | omega
      | trace_state

end Go.Proofs.Yteapdildbfimnaa
namespace Go.Proofs.Yteapdildbfimnaa
open Go.RowKit Go.Proofs
set_option linter.unusedSimpArgs false
set_option linter.unusedVariables false
set_option maxRecDepth 20000

def loR (l : List ByteArray) : ByteArray × Bool := if picB l then (strOfNums (ltL l), true) else (⟨#[]⟩, false)
theorem loR_yes {l : List ByteArray} (h : picB l = true) : loR l = (strOfNums (ltL l), true) := by unfold loR; rw [h]; rfl
theorem loR_no {l : List ByteArray} (h : picB l = false) : loR l = (⟨#[]⟩, false) := by unfold loR; rw [h]; rfl

/-- A contract out of a run that hands two scalars back. -/
theorem Fn.of_calls2 {P : Program} {f : FuncId} {vs : List V} {v1 v2 : Value} (he : ∀ (args : Array Value) (w : World), (callFunc f args).run P w = .ok (.enter f args) w)
    (h : ∀ (w : World) (S0 : Nat → Prop) (us : List Value), RdL w S0 vs us → Calls P f us.toArray w fun e w' => e = .returned (.tuple #[v1, v2]) ∧ Below w.heap.size w w') : Fn P f vs (.many [.pv (.val v1), .pv (.val v2)]) := by
  refine ⟨he, fun w S0 us hus => (h w S0 us hus).mono ?_⟩
  rintro e w' ⟨rfl, hb⟩
  exact ⟨.tuple #[v1, v2], [], rfl, ⟨rfl, hb, fun id blk hi => by simp [bring, Res.list] at hi, fun i j bi bj b z z' hi => by simp [bring, Res.list] at hi⟩, [v1, v2], rfl, rfl, rfl, trivial⟩
theorem Fn.scalar {P : Program} {f : FuncId} {vs : List V} {v : Value} (h : Fn P f vs (.one (.pv (.val v)))) {w : World} {S0 : Nat → Prop} {us : List Value} (hus : RdL w S0 vs us) : Calls P f us.toArray w fun e w' => e = .returned v ∧ Below w.heap.size w w' := by
  refine (h.runs w S0 us hus).mono ?_
  rintro e w' ⟨u, φ, rfl, hH, hr⟩
  obtain rfl : u = v := hr
  exact ⟨rfl, hH.below⟩
theorem flat_len (l : List ByteArray) : ∀ k, k ≤ l.length → (((l.take k).map bytesOf).flatten).length = sumB l k
  | 0, _ => by simp [sumB]
  | k + 1, hk => by
    have hk' : k < l.length := by omega
    rw [List.take_succ_eq_append_getElem hk', List.map_append, List.flatten_append, List.length_append, flat_len l k (by omega)]
    have : stAt l k = l[k] := by unfold stAt; simp [List.getD, hk']
    show _ = sumB l k + lenB (stAt l k)
    rw [this]; simp [lenB]
theorem jb_size (l : List ByteArray) : (Lib.join (l.map (·.data.toList)) []).length = sumB l l.length := by
  have e := flat_len l l.length (Nat.le_refl _)
  rw [List.take_length] at e
  rw [← e]
  match l with
  | [] => rfl
  | b :: r =>
    rw [List.map_cons, Lib.join_cons]
    unfold Lib.joinTail
    have e0 : ∀ L : List (List UInt8), L.map (fun x => [] ++ x) = L := fun L => by simp
    rw [e0]; rfl

theorem _root_.Go.RowKit.Below.trans' {a b c : World} (h : Below a.heap.size a b) (k : Below b.heap.size b c) : Below a.heap.size a c :=
  ⟨k.os.trans h.os, k.tape.trans h.tape, k.output.trans h.output, Nat.le_trans h.size k.size, fun j hj => (k.block j (by have := h.size; omega)).trans (h.block j hj)⟩
/-- A string's bytes in a block of their own. -/
theorem bytes_made (w : World) (b : ByteArray) (hb : b.size ≤ 1099511627776) : ∃ (W : World) (cap : Nat) (cells : Array Value),
    (convert 9 29 (.string b)).run Try.prog w = .ok (.slice (some ⟨w.heap.size, 0, none⟩) b.size cap) W ∧ Gb W w.heap.size (bigE + 5) cells ∧ cells.size = cap ∧ b.size ≤ cap ∧ cap ≤ maxLen ∧ (∀ i, i < b.size → ∃ x, cells[i]? = some x ∧ vuF (byteI b) i = .val x) ∧ Below w.heap.size w W := by
  have hge : b.size ≤ grownCap w b.size 0 5 := grownCap_ge _ _ _ _
  have hcs : (Lib.bytesCells w 5 b).size = grownCap w b.size 0 5 := by
    unfold Lib.bytesCells
    rw [Array.size_append, Array.size_map, Array.size_replicate]
    show b.size + _ = _
    omega
  refine ⟨Lib.bytesWorld w 5 b, grownCap w b.size 0 5, Lib.bytesCells w 5 b, Lib.run_convert_string_bytes (P := Try.prog) w 9 29 5 b Try.underlying9 Try.underlying29 Try.underlying5,
    .inr ⟨by unfold bigE; omega, by rw [Nat.add_sub_cancel_left]; exact Lib.bytesWorld_at_new w 5 b⟩, hcs, hge, grownCap_le_maxLen _ _ _ _ (by unfold maxLen; omega), fun i hi => ?_, ⟨rfl, rfl, rfl, by rw [Lib.bytesWorld_size]; omega, fun j hj => Lib.bytesWorld_at_old w 5 b j hj⟩⟩
  have h1 := Lib.bytesWorld_cell w 5 b i hi
  simp only [World.cell?, Lib.bytesWorld_at_new] at h1
  exact ⟨_, h1, rfl⟩
set_option maxHeartbeats 1000000 in
theorem implLettersOf_fn (l : List ByteArray) (hl : l.length ≤ 1099511627776) : Fn Try.prog 9 [strs l] (.many [.pv (vs (loR l).1), .pv (vb (loR l).2)]) := by
  refine Fn.of_calls2 Try.call9 fun w S0 us hus => ?_
  match us, hus with
  | [u0], hus =>
  have hpic := (isPicture_fn l hl).scalar hus
  by_cases h : picB l = true
  · rw [loR_yes h]
    rw [h] at hpic
    obtain ⟨g2, g3, g4⟩ := picB_parts h
    have g5 := picB_sum h l.length (Nat.le_refl _)
    have g6 := jb_size l
    have hJ : ∀ w', Below w.heap.size w w' → Calls Try.prog 47 #[u0, .string ⟨#[]⟩] w' fun e w'' => e = .returned (.string (joinB l ⟨#[]⟩)) ∧ Below w'.heap.size w' w'' := fun w' hb =>
      (join_fn l ⟨#[]⟩ hl (by show (Lib.join (l.map (·.data.toList)) []).length ≤ _; omega)).scalar (S0 := fun _ => True) ⟨Rd.mono (fun b _ hlt => ⟨trivial, hb.block b hlt⟩) _ _ hus.1, rfl, Gl.any _⟩
    have hbs : (joinB l ⟨#[]⟩).size ≤ 1099511627776 := by show (Lib.join (l.map (·.data.toList)) []).length ≤ _; omega
    have hpl : ∀ d', Pm 0 (joinB l ⟨#[]⟩).size (byteI (joinB l ⟨#[]⟩)) d' → Srt 0 (joinB l ⟨#[]⟩).size d' → kV d' (joinB l ⟨#[]⟩).size = ltL l := fun d' h1 h2 => by
      rw [← lenB_size] at h1 h2 ⊢
      exact letters_eq h h1 h2
    clear g2 g3 g4 g5 g6 hus h
    generalize joinB l ⟨#[]⟩ = b at *
    generalize ltL l = res at *
    go_enter Try.func9, Try.ntmps9
    go_wp2_with (first
      | (go_at_call 46; refine hpic.mono ?_; rintro e w1 ⟨rfl, hb1⟩)
      | (go_at_call 47; refine (hJ _ hb1).mono ?_; rintro e w2 ⟨rfl, hb2⟩
         have hbel : Below w.heap.size w w2 := hb1.trans' hb2
         obtain ⟨W, cap, cells, hcv, hGb, hcs, hcap, hmx, hcl, hbw⟩ := bytes_made w2 b hbs
         obtain ⟨k, hk⟩ : ∃ k, k = w2.heap.size := ⟨_, rfl⟩
         rw [← hk] at hcv hGb hbw
         have hkw : Aside (w.heap.size ≤ k ∧ Below w.heap.size w W) := ⟨by rw [hk]; exact hbel.size, hbel.trans' (hk ▸ hbw)⟩
         have hsrt := (sort_m b.size hbs (byteI b)).runs W k cap cells (bigE + 5) hGb hcap hmx hcs hcl
         clear hk hbw hGb hcl hcs hb2 hbel hb1)
      | (go_at_call 48; refine hsrt.mono ?_; rintro e w3 ⟨D', v, ⟨d', rfl, hR, rfl⟩, rfl, hab3, cur3, hGb3, hsz3, hc3⟩
         have hco := compactB_walk d' b.size cur3.size w3 k cap (bigE + 5) ⟨cur3, hGb3, rfl, fun j hj => by
           obtain ⟨x, h1, h2⟩ := hc3 j hj
           have h2 : vu (d' j) = .val x := h2
           injection h2 with h2
           rw [h1, h2]⟩ (by
             rcases Nat.eq_zero_or_pos b.size with h0 | h0
             · omega
             · obtain ⟨x, h1, _⟩ := hc3 (b.size - 1) (by omega)
               have := (Array.getElem?_eq_some_iff.1 h1).1
               omega) hcap hbs
         rw [hpl d' hR.1 hR.2] at hco
         have hab : Aside (AllBut k W w3) := hab3
         clear hab3 hGb3 hsz3 hc3)
      | (go_at_call 49; refine hco.mono ?_; rintro e w4 ⟨rfl, hab4, hla4⟩
         have hcv2 : (convert 29 9 (.slice (some ⟨k, 0, none⟩) res.length cap)).run Try.prog w4 = .ok (.string (strOfNums res)) w4 := run_convert_bytes_arg w4 29 5 Try.underlying29 Try.underlying5 k 0 res.length cap res rfl (fun i hi => by rw [Nat.zero_add]; exact hla4.cell hi) 9 Try.underlying9
         have hB : Aside (Below w.heap.size w w4) := by
           obtain ⟨h1, h2⟩ := hkw.out
           have h3 := hab.out
           exact ⟨hab4.os.trans (h3.os.trans h2.os), hab4.tape.trans (h3.tape.trans h2.tape), hab4.output.trans (h3.output.trans h2.output), Nat.le_trans h2.size (Nat.le_trans h3.size hab4.size), fun j hj => by
             rw [hab4.oth j (by have := h2.size; have := h3.size; omega) (by omega), h3.oth j (by have := h2.size; omega) (by omega)]; exact h2.block j hj⟩
         clear hla4 hab4))
    refine ⟨rfl, _, run_results (ts := [2, 3]) rfl _ _, rfl, hB.out⟩
  · rw [loR_no (by simpa using h)]
    rw [show picB l = false by simpa using h] at hpic
    clear hus h
    go_enter Try.func9, Try.ntmps9
    go_wp2_with (go_at_call 46; refine hpic.mono ?_; rintro e w1 ⟨rfl, hb1⟩)
    refine ⟨rfl, _, run_results (ts := [2, 3]) rfl _ _, rfl, hb1⟩
end Go.Proofs.Yteapdildbfimnaa
namespace Go.Proofs.Yteapdildbfimnaa
open Go.RowKit Go.Proofs
set_option linter.unusedSimpArgs false
set_option linter.unusedVariables false

def alphaS : ByteArray := ⟨#[42, 97, 98, 99, 100, 101, 102, 103, 104, 105, 106, 107, 108]⟩
theorem alphaS_len : lenB alphaS = 13 := rfl
theorem alphaS_at : ∀ k, k < 13 → byteI alphaS k = alpha.getD k 0 := by decide
theorem alphaS_cut : ∀ k, k < 13 → ((bytesOf alphaS).drop k).take 1 = [UInt8.ofNat (alpha.getD k 0).toNat] := by decide
def ltK (l : List ByteArray) (k : Nat) : ByteArray := strOfNums ((alpha.take k).filter fun c => decide (0 < cntP l c l.length))
theorem ltK_size (l : List ByteArray) (k : Nat) : (ltK l k).size ≤ 13 := by
  unfold ltK
  rw [strOfNums_size]
  refine Nat.le_trans (List.length_filter_le _ _) ?_
  rw [List.length_take]
  exact Nat.min_le_right _ _
theorem ltK_next (l : List ByteArray) {k : Nat} (hk : k < 13) : ltK l (k + 1) = if 0 < cntP l (byteI alphaS k) l.length then ltK l k ++ ⟨(((bytesOf alphaS).drop k).take 1).toArray⟩ else ltK l k := by
  have hk' : k < alpha.length := hk
  have e : alpha.getD k 0 = alpha[k] := by simp [List.getD, hk']
  unfold ltK
  rw [List.take_succ_eq_append_getElem hk', List.filter_append, alphaS_at k hk, alphaS_cut k hk, e]
  by_cases h : 0 < cntP l alpha[k] l.length
  · rw [if_pos h]
    apply ByteArray.ext
    simp [strOfNums, h]
  · rw [if_neg h]
    simp [h]
theorem ltK_all {l : List ByteArray} (h : picB l = true) : (ltK l 13, true) = loR l := by rw [loR_yes h]; rfl

theorem specLettersOf_fn (l : List ByteArray) (hl : l.length ≤ 1099511627776) (hs : ∀ i, lenB (stAt l i) ≤ 1099511627776) : Fn Try.prog 7 [strs l] (.many [.pv (vs (loR l).1), .pv (vb (loR l).2)]) := by
  by_cases h : picB l = true
  · obtain ⟨h2, h3, h4⟩ := picB_parts h
    have h5 := picB_sum h l.length (Nat.le_refl _)
    have hal := alphaS_len
    refine Fn.of_body Try.call7 Try.func7 rfl Try.ntmps7 (ts := [2, 3]) rfl (by simp) rfl (fun N => ?_)
    repeat' (first | (with_reducible first | refine then_normal ?_ | refine then_ret ?_ | refine then_exit ?_ | refine block_normal ?_ | refine block_ret ?_) | ((with_reducible show blockQ _ _ _ _); first | refine block_exit ?_ | refine block_exit_ne rfl ?_) | ((with_reducible show AWP _ _ _ _ _); first | (with_reducible first | refine AWP.seq ?_ | refine AWP.block ?_ | refine AWP.region ?_ | refine AWP.ret ?_ | refine AWP.exit ?_ | refine AWP.skip ?_) | refine AWP.drawn rfl (by kernel_rfl) ?_ | refine AWP.cond rfl ?_ ?_) | with_reducible refine ev_nil ?_ | ((first | ((with_reducible show evOps _ _ _ _ _ _); (first | refine ev_step rfl ?_ | refine ev_undef rfl rfl rfl ?_); intro K hK) | ((with_reducible show EvOpen _ _ _ _ _ _ _); refine ev_open ?_; intro K hK) | ((with_reducible show SkOpen _ _ _ _ _ _ _); refine sk_open ?_; intro K hK) | ((with_reducible show callK _ _ _ _ _ _ _ _); first  | (refine call_scalar (drGood_fn l hl hs) (Nat.le_of_ble_eq_true rfl) rfl ?_))); simp only [evOp, evQ, withS, opd, kput, putS, upd, lookup, argsK, bringIn, bring, Res.list, Res.slot, slotsOf, List.reverse_cons, List.reverse_nil, List.nil_append, Nat.reduceEqDiff, Nat.reduceLT, ↓reduceIte, eq_self, true_and]) | refine ev_guard rfl rfl rfl ?_ ?_ | ((with_reducible show retQ _ _ _ _); simp only [retQ, retOk, getL, lookup, Option.map_some, fitsL, fits, ND, srcs, Res.list, VE, Value.bool.injEq, Nat.reduceEqDiff, ↓reduceIte, and_true]) | (with_reducible refine hK _ ?_; clear hK K) | (with_reducible refine And.intro ?_ ?_) | (with_reducible intro hc; try simp only [Bool.not_eq_true', Bool.not_eq_false'] at hc) | omega)
    all_goals try (exfalso; simp_all; done)
    refine AWP.loop_ent (fun k : Nat => ⟨[(0, .one (.pv (strs l))), (4, sc (.string alphaS)), (5, sc (.string (ltK l k))), (6, sc (.int .i64 k))], [], 30⟩)
      (fun k => k ≤ 13) (fun k => 13 - k) 0 (by omega) (by simp [Ent, EntS, EntH, SlE, VE, VE.rfl', lookup, BE, alphaS]; rfl) ?_
    intro k hk
    by_cases hk13 : k < 13
    · have h6 := ltK_size l k
      have h7 := ltK_next l hk13
      have ek : ((k : Int) + 1).toNat - k = 1 := by omega
      have h8 : (⟨(((bytesOf alphaS).drop k).take 1).toArray⟩ : ByteArray).size ≤ 1 := by show (List.toArray _).size ≤ 1; rw [List.size_toArray, List.length_take]; exact Nat.min_le_left _ _
      repeat' (first | (with_reducible first | refine then_normal ?_ | refine then_ret ?_ | refine then_exit ?_ | refine block_normal ?_ | refine block_ret ?_) | ((with_reducible show blockQ _ _ _ _); first | refine block_exit ?_ | refine block_exit_ne rfl ?_) | ((with_reducible show AWP _ _ _ _ _); first | (with_reducible first | refine AWP.seq ?_ | refine AWP.block ?_ | refine AWP.region ?_ | refine AWP.ret ?_ | refine AWP.exit ?_ | refine AWP.skip ?_) | refine AWP.drawn rfl (by kernel_rfl) ?_ | refine AWP.cond rfl ?_ ?_) | with_reducible refine ev_nil ?_ | ((first | ((with_reducible show evOps _ _ _ _ _ _); (first | refine ev_step rfl ?_ | refine ev_undef rfl rfl rfl ?_); intro K hK) | ((with_reducible show EvOpen _ _ _ _ _ _ _); refine ev_open ?_; intro K hK) | ((with_reducible show SkOpen _ _ _ _ _ _ _); refine sk_open ?_; intro K hK) | ((with_reducible show callK _ _ _ _ _ _ _ _); first  | (refine call_scalar (drCount_fn l (byteI alphaS k) hl (by omega)) (Nat.le_of_ble_eq_true rfl) rfl ?_))); simp only [evOp, evQ, evB, binK, withS, opd, kput, putS, upd, lookup, argsK, bringIn, bring, Res.list, Res.slot, InK_i64, cutK, boundK, u_string, lenB_is, byteI_is, List.reverse_cons, List.reverse_nil, List.nil_append, List.cons_append, Nat.reduceEqDiff, Nat.reduceLT, ↓reduceIte, eq_self, true_and, Int.toNat_natCast]) | refine ev_guard rfl rfl rfl ?_ ?_ | ((with_reducible show retQ _ _ _ _); simp only [retQ, retOk, getL, lookup, Option.map_some, fitsL, fits, ND, srcs, Res.list, VE, Value.bool.injEq, Nat.reduceEqDiff, ↓reduceIte, and_true]) | (with_reducible refine hK _ ?_; clear hK K) | (with_reducible refine And.intro ?_ ?_) | (with_reducible intro hc; try simp only [decide_eq_true_eq, decide_eq_false_iff_not, Int.not_lt, gt_iff_lt] at hc) | omega)
      all_goals first
        | (exfalso; omega; done)
        | (rw [ek]; omega)
        | (rw [if_pos (by omega)] at h7
           refine ⟨k + 1, by omega, by omega, ?_⟩
           simp [Ent, EntS, EntH, SlE, VE, VE.rfl', lookup, BE, h7, ek]; done)
        | (rw [if_neg (by omega)] at h7
           refine ⟨k + 1, by omega, by omega, ?_⟩
           simp [Ent, EntS, EntH, SlE, VE, VE.rfl', lookup, BE, h7]; done)
        | trace_state
    · obtain rfl : k = 13 := by omega
      repeat' (first | (with_reducible first | refine then_normal ?_ | refine then_ret ?_ | refine then_exit ?_ | refine block_normal ?_ | refine block_ret ?_) | ((with_reducible show blockQ _ _ _ _); first | refine block_exit ?_ | refine block_exit_ne rfl ?_) | ((with_reducible show AWP _ _ _ _ _); first | (with_reducible first | refine AWP.seq ?_ | refine AWP.block ?_ | refine AWP.region ?_ | refine AWP.ret ?_ | refine AWP.exit ?_ | refine AWP.skip ?_) | refine AWP.drawn rfl (by kernel_rfl) ?_ | refine AWP.cond rfl ?_ ?_) | with_reducible refine ev_nil ?_ | ((first | ((with_reducible show evOps _ _ _ _ _ _); (first | refine ev_step rfl ?_ | refine ev_undef rfl rfl rfl ?_); intro K hK) | ((with_reducible show EvOpen _ _ _ _ _ _ _); refine ev_open ?_; intro K hK) | ((with_reducible show SkOpen _ _ _ _ _ _ _); refine sk_open ?_; intro K hK) | ((with_reducible show callK _ _ _ _ _ _ _ _); first | fail)); simp only [evOp, evQ, evB, binK, withS, opd, kput, putS, upd, lookup, argsK, u_string, lenB_is, byteI_is, List.reverse_cons, List.reverse_nil, List.nil_append, List.cons_append, Nat.reduceEqDiff, Nat.reduceLT, ↓reduceIte, eq_self, true_and, Int.toNat_natCast]) | refine ev_guard rfl rfl rfl ?_ ?_ | ((with_reducible show retQ _ _ _ _); simp only [retQ, retOk, getL, lookup, Option.map_some, fitsL, fits, ND, srcs, Res.list, VE, Value.bool.injEq, Nat.reduceEqDiff, ↓reduceIte, and_true]) | (with_reducible refine hK _ ?_; clear hK K) | (with_reducible refine And.intro ?_ ?_) | (with_reducible intro hc; try simp only [decide_eq_true_eq, decide_eq_false_iff_not, Int.not_lt] at hc) | omega)
      all_goals first
        | (exfalso; omega; done)
        | (rw [← ltK_all h]; done)
        | trace_state
  · refine Fn.of_body Try.call7 Try.func7 rfl Try.ntmps7 (ts := [2, 3]) rfl (by simp) rfl (fun N => ?_)
    repeat' (first | (with_reducible first | refine then_normal ?_ | refine then_ret ?_ | refine then_exit ?_ | refine block_normal ?_ | refine block_ret ?_) | ((with_reducible show blockQ _ _ _ _); first | refine block_exit ?_ | refine block_exit_ne rfl ?_) | ((with_reducible show AWP _ _ _ _ _); first | (with_reducible first | refine AWP.seq ?_ | refine AWP.block ?_ | refine AWP.region ?_ | refine AWP.ret ?_ | refine AWP.exit ?_ | refine AWP.skip ?_) | refine AWP.drawn rfl (by kernel_rfl) ?_ | refine AWP.cond rfl ?_ ?_) | with_reducible refine ev_nil ?_ | ((first | ((with_reducible show evOps _ _ _ _ _ _); (first | refine ev_step rfl ?_ | refine ev_undef rfl rfl rfl ?_); intro K hK) | ((with_reducible show EvOpen _ _ _ _ _ _ _); refine ev_open ?_; intro K hK) | ((with_reducible show SkOpen _ _ _ _ _ _ _); refine sk_open ?_; intro K hK) | ((with_reducible show callK _ _ _ _ _ _ _ _); first  | (refine call_scalar (drGood_fn l hl hs) (Nat.le_of_ble_eq_true rfl) rfl ?_))); simp only [evOp, evQ, withS, opd, kput, putS, upd, lookup, argsK, bringIn, bring, Res.list, Res.slot, slotsOf, List.reverse_cons, List.reverse_nil, List.nil_append, Nat.reduceEqDiff, Nat.reduceLT, ↓reduceIte, eq_self, true_and]) | refine ev_guard rfl rfl rfl ?_ ?_ | ((with_reducible show retQ _ _ _ _); simp only [retQ, retOk, getL, lookup, Option.map_some, fitsL, fits, ND, srcs, Res.list, VE, Value.bool.injEq, Nat.reduceEqDiff, ↓reduceIte, and_true]) | (with_reducible refine hK _ ?_; clear hK K) | (with_reducible refine And.intro ?_ ?_) | (with_reducible intro hc; try simp only [Bool.not_eq_true', Bool.not_eq_false'] at hc) | omega)
    all_goals first
      | (exfalso; simp_all; done)
      | (rw [loR_no (by simpa using h)]; done)
      | trace_state
end Go.Proofs.Yteapdildbfimnaa
namespace Go.Proofs.Yteapdildbfimnaa
open Go.RowKit Go.Proofs
set_option linter.unusedSimpArgs false
set_option linter.unusedVariables false

/-- Rows of a list that is being filled. -/
def partR (N : Nat) (L : List (List Int)) (F : Nat → V) : Prop := ∀ i, i < L.length → isRow (rowAt L i) (F i) ∧ (∀ b, Zof (F i) b → N ≤ b) ∧ ∀ j, j < L.length → j ≠ i → Apart (F i) (F j)
theorem partR.nil (N : Nat) (F : Nat → V) : partR N [] F := fun i hi => by simp at hi
theorem partR.grow {N : Nat} {L : List (List Int)} {F : Nat → V} {x : List Int} {v : V} (h : partR N L F) (hp : isRow x v) (hN : ∀ b, Zof v b → N ≤ b) (hd : ∀ i, i < L.length → Apart (F i) v) : partR N (L ++ [x]) (fun i => if i = L.length then v else F i) := by
  intro i hi
  rw [List.length_append] at hi
  have hi : i < L.length + 1 := hi
  by_cases e : i = L.length
  · subst e
    simp only [if_true]
    refine ⟨?_, hN, fun j hj hne => ?_⟩
    · have e : rowAt (L ++ [x]) L.length = x := by simp [rowAt, List.getD]
      rw [e]; exact hp
    · rw [List.length_append] at hj
      have hj : j < L.length + 1 := hj
      rw [if_neg hne]; exact (hd j (by omega)).symm
  · simp only [if_neg e]
    obtain ⟨h1, h2, h3⟩ := h i (by omega)
    refine ⟨?_, h2, fun j hj hne => ?_⟩
    · have e : rowAt (L ++ [x]) i = rowAt L i := by simp [rowAt, List.getD, List.getElem?_append_left (show i < L.length by omega)]
      rw [e]; exact h1
    · rw [List.length_append] at hj
      have hj : j < L.length + 1 := hj
      by_cases e2 : j = L.length
      · subst e2; rw [if_pos rfl]; exact hd i (by omega)
      · rw [if_neg e2]; exact h3 j (by omega) hne

/-- A list of rows in new memory, its own head, and a word on it. -/
def bdE (L : List (List Int)) (ok : Bool) : Res → Prop := fun r => ∃ F : Nat → V, (∀ i, i < L.length → isRow (rowAt L i) (F i) ∧ ∀ j, j < L.length → j ≠ i → Apart (F i) (F j)) ∧ r = .many [.fr 1 L.length ⟨37, L.length, F⟩, .pv (vb ok)]
theorem bdE.shape {L : List (List Int)} {ok : Bool} (r : Res) (h : bdE L ok r) : r.shape 2 = true := by obtain ⟨F, _, rfl⟩ := h; rfl

theorem grow_be3 {e : TypeId} {k n' : Nat} {F : Nat → V} {v v' z : V} (hn : n' ≤ k + 1) (h : VE v v') : BE ⟨e, k + 1, fun i => if i < k then F i else if i - k = 0 then v else z⟩ ⟨e, n', fun i => if i = k then v' else F i⟩ := by
  refine ⟨rfl, hn, fun i hi => ?_⟩
  have hi : i < n' := hi
  show VE (if i < k then F i else if i - k = 0 then v else z) (if i = k then v' else F i)
  by_cases h1 : i = k
  · subst h1; rw [if_neg (Nat.lt_irrefl _), if_pos (Nat.sub_self _), if_pos rfl]; exact h
  · rw [if_pos (by omega), if_neg h1]; exact VE.rfl' _

end Go.Proofs.Yteapdildbfimnaa
namespace Go.Proofs.Yteapdildbfimnaa
open Go.RowKit Go.Proofs
set_option linter.unusedSimpArgs false
set_option linter.unusedVariables false

theorem bdJ_no {l : List ByteArray} {r c : Nat} (h : isBd l r c = false) : bdJ l r (c + 1) = bdJ l r c := by rw [bdJ, h]; simp
theorem bdJ_yes {l : List ByteArray} {r c : Nat} (h : isBd l r c = true) : bdJ l r (c + 1) = bdJ l r c ++ [[(r : Int), (c : Int)]] := by rw [bdJ, h]; simp

theorem row2_ve (u : Value) (Z : Nat → Prop) {f : Nat → V} {a b : Int} (h0 : f 0 = vi a) (h1 : f 1 = vi b) : VE (.row u Z 1 2 f) (.row u Z 1 [a, b].length fun j => vi ([a, b].getD j 0)) :=
  ⟨rfl, rfl, rfl, rfl, fun i hi => by
    rcases (show i = 0 ∨ i = 1 by omega) with rfl | rfl
    · rw [h0]; exact VE.rfl' _
    · rw [h1]; exact VE.rfl' _⟩
theorem row_zof {u : Value} {Z : Nat → Prop} {l : List Int} {b : Nat} (h : Zof (.row u Z 1 l.length fun j => vi (l.getD j 0)) b) : Z b := by
  rcases Zof.row h with h | ⟨i, _, h⟩
  · exact h
  · exact (Zof.val _ _ h).elim

theorem toNat_succ (n : Nat) : ((n : Int) + 1).toNat = n + 1 := by omega
theorem isBd_iff (l : List ByteArray) (k c : Nat) : isBd l k c = true ↔ ((c + 1 < lenB (stAt l k) ∧ ¬ byteI (stAt l k) (c + 1) = byteI (stAt l k) c) ∨ (k + 1 < l.length ∧ ¬ byteI (stAt l (k + 1)) c = byteI (stAt l k) c)) := by
  simp [isBd, rightB, belowB]

set_option maxHeartbeats 2000000 in
theorem implBorderPlaces_E (l : List ByteArray) (hl : l.length ≤ 1099511627776) (hs : ∀ i, lenB (stAt l i) ≤ 1099511627776) : FnE Try.prog 31 [strs l] (bdE (bdR l).1 (bdR l).2) := by
  refine FnE.of_body (fun N => [strs l]) (fun _ _ h => h) Try.call31 Try.func31 rfl Try.ntmps31 (ts := [2, 3]) rfl (fun _ => by simp) (bdE.shape) (fun N => ?_)
  by_cases hp : picB l = true
  · have hpp := picB_parts hp
    rw [bdR_yes hp]
    repeat' (first | (with_reducible first | refine then_normal ?_ | refine then_ret ?_ | refine then_exit ?_ | refine block_normal ?_ | refine block_ret ?_) | ((with_reducible show blockQ _ _ _ _); first | refine block_exit ?_ | refine block_exit_ne rfl ?_) | ((with_reducible show AWP _ _ _ _ _); first | (with_reducible first | refine AWP.seq ?_ | refine AWP.block ?_ | refine AWP.region ?_ | refine AWP.ret ?_ | refine AWP.exit ?_ | refine AWP.skip ?_) | refine AWP.drawn rfl (by kernel_rfl) ?_ | refine AWP.cond rfl ?_ ?_) | with_reducible refine ev_nil ?_ | ((first | ((with_reducible show evOps _ _ _ _ _ _); (first | refine ev_step rfl ?_ | refine ev_undef rfl rfl rfl ?_); intro K hK) | ((with_reducible show EvOpen _ _ _ _ _ _ _); refine ev_open ?_; intro K hK) | ((with_reducible show SkOpen _ _ _ _ _ _ _); refine sk_open ?_; intro K hK) | ((with_reducible show callK _ _ _ _ _ _ _ _); first  | (refine call_scalar (isPicture_fn l hl) (Nat.le_of_ble_eq_true rfl) rfl ?_))); simp only [evOp, evQ, evB, withS, opd, kput, putS, upd, lookup, argsK, bringIn, bring, Res.list, Res.slot, slotsOf, newBlk, partsK, buildSliceK, sz_strs, ei_rows, ea_rows, Nat.zero_le, List.reverse_cons, List.reverse_nil, List.nil_append, List.length_cons, List.length_nil, Nat.reduceEqDiff, Nat.reduceLT, Nat.reduceLeDiff, Nat.mul_one, Nat.zero_add, Nat.mod_one, List.getD_cons_zero, ↓reduceIte, eq_self, true_and, Option.isSome_some]) | refine ev_guard rfl rfl rfl ?_ ?_ | ((with_reducible show retQ _ _ _ _); simp only [eq_self]) | (with_reducible refine hK _ ?_; clear hK K) | (with_reducible refine And.intro ?_ ?_) | (with_reducible intro hc; try simp only [Bool.not_eq_true', Bool.not_eq_false'] at hc) | omega)
    any_goals first
      | (exfalso; simp_all; done)
    refine AWP.loop_entR [0] (fun x : Nat × List (List Int) × (Nat → V) => ⟨[(0, .one (.pv (strs l))), (4, .one (.own 0 1 0 x.2.1.length)), (14, .one (.pv (strs l))), (15, sc (.int .i64 (l.length : Int))), (16, sc (.int .i64 x.1))], [some ⟨37, x.2.1.length, x.2.2⟩], 72⟩)
      (fun x => x.1 ≤ l.length ∧ x.2.1 = bdK l x.1 ∧ partR N x.2.1 x.2.2) (fun x => l.length - x.1) (0, [], fun _ => .val undef) ⟨by omega, rfl, partR.nil _ _⟩ (by simp [EntR, EntSR, EntHR, SlR, VE, VE.rfl', lookup, BE, upd, sc]) ?_
    rintro ⟨k, L, F⟩ ⟨hk, hL, hF⟩
    by_cases hkl : k < l.length
    · have hlen := hpp.2.2 k hkl
      have hsk := hs k
      repeat' (first | (with_reducible first | refine then_normal ?_ | refine then_ret ?_ | refine then_exit ?_ | refine block_normal ?_ | refine block_ret ?_) | ((with_reducible show blockQ _ _ _ _); first | refine block_exit ?_ | refine block_exit_ne rfl ?_) | ((with_reducible show AWP _ _ _ _ _); first | (with_reducible first | refine AWP.seq ?_ | refine AWP.block ?_ | refine AWP.region ?_ | refine AWP.ret ?_ | refine AWP.exit ?_ | refine AWP.skip ?_) | refine AWP.drawn rfl (by kernel_rfl) ?_ | refine AWP.cond rfl ?_ ?_) | with_reducible refine ev_nil ?_ | ((first | ((with_reducible show evOps _ _ _ _ _ _); (first | refine ev_step rfl ?_ | refine ev_undef rfl rfl rfl ?_); intro K hK) | ((with_reducible show EvOpen _ _ _ _ _ _ _); refine ev_open ?_; intro K hK) | ((with_reducible show SkOpen _ _ _ _ _ _ _); refine sk_open ?_; intro K hK) | ((with_reducible show callK _ _ _ _ _ _ _ _); first | fail)); simp only [evOp, evQ, evB, binK, withS, opd, kput, putS, upd, lookup, sz_strs, c_string, u_string, lenB_is, Nat.reduceEqDiff, Nat.reduceLT, Nat.mul_one, Nat.add_zero, ↓reduceIte, eq_self, true_and, Int.toNat_natCast]) | refine ev_guard rfl rfl rfl ?_ ?_ | ((with_reducible show retQ _ _ _ _); simp only [eq_self]) | (with_reducible refine hK _ ?_; clear hK K) | (with_reducible refine And.intro ?_ ?_) | (with_reducible intro hc; try simp only [decide_eq_true_eq, decide_eq_false_iff_not, Int.not_lt] at hc) | omega)
      refine AWP.loop_entR [0] (fun x : Nat × List (List Int) × (Nat → V) => ⟨[(0, .one (.pv (strs l))), (4, .one (.own 0 1 0 x.2.1.length)), (5, sc (.int .i64 k)), (6, .one (.pv (vs (stAt l k)))), (14, .one (.pv (strs l))), (15, sc (.int .i64 (l.length : Int))), (16, sc (.int .i64 k)), (22, sc (.int .i64 (lenB (stAt l k)))), (23, sc (.int .i64 x.1))], [some ⟨37, x.2.1.length, x.2.2⟩], 72⟩)
        (fun x => x.1 ≤ lenB (stAt l k) ∧ x.2.1 = bdK l k ++ bdJ l k x.1 ∧ partR N x.2.1 x.2.2) (fun x => lenB (stAt l k) - x.1) (0, L, F) ⟨by omega, by rw [hL]; simp [bdJ], hF⟩ (by simp [EntR, EntSR, EntHR, SlR, VE, VE.rfl', lookup, BE, upd, sc]) ?_
      rintro ⟨c, L', F'⟩ ⟨hc0, hL', hF'⟩
      by_cases hcl : c < lenB (stAt l k)
      · have hLn : L'.length ≤ 1024 := by
          have h1 := bdK_len hp k hk
          have h2 := bdJ_len l k c
          have e : L'.length = (bdK l k).length + (bdJ l k c).length := by rw [show L' = _ from hL', List.length_append]
          omega
        have hiff := isBd_iff l k c
        have hnx : k + 1 < l.length → lenB (stAt l (k + 1)) = lenB (stAt l 0) := hpp.2.2 (k + 1)
        by_cases hb : isBd l k c = true
        · have hb1 := hiff.1 hb
          clear hiff
          repeat' (first | ((with_reducible show letRowK _ _ _ _) ; refine ⟨_, _, _, _, rfl, rfl, Nat.le_refl _, ?_⟩ ; intro u0 Z hZN hZd ; simp only [upd, List.set_cons_zero, List.set_cons_succ, List.nil_append, List.cons_append, Nat.reduceEqDiff, ↓reduceIte, eq_self]) | (with_reducible first | refine then_normal ?_ | refine then_ret ?_ | refine then_exit ?_ | refine block_normal ?_ | refine block_ret ?_) | ((with_reducible show blockQ _ _ _ _); first | refine block_exit ?_ | refine block_exit_ne rfl ?_) | ((with_reducible show AWP _ _ _ _ _); first | (refine AWP.region_letRow (id := 13) [_, _, _, _] _ 66 ?_) | (with_reducible first | refine AWP.seq ?_ | refine AWP.block ?_ | refine AWP.region ?_ | refine AWP.ret ?_ | refine AWP.exit ?_ | refine AWP.skip ?_) | refine AWP.drawn rfl (by kernel_rfl) ?_ | refine AWP.cond rfl ?_ ?_) | with_reducible refine ev_nil ?_ | ((first | ((with_reducible show evOps _ _ _ _ _ _); (first | refine ev_step rfl ?_ | refine ev_undef rfl rfl rfl ?_); intro K hK) | ((with_reducible show EvOpen _ _ _ _ _ _ _); refine ev_open ?_; intro K hK) | ((with_reducible show SkOpen _ _ _ _ _ _ _); refine sk_open ?_; intro K hK) | ((with_reducible show callK _ _ _ _ _ _ _ _); first  | fail)); simp only [evOp, evQ, evB, binK, withS, opd, kput, putS, upd, lookup, skipOp, InK_i64, appendK, srcK, growK, frz, newBlk, partsK, buildSliceK, plSlice, V.one, Value.oneCell', List.set_cons_zero, ei_ints, ea_ints, sz_strs, c_string, u_string, ei_rows, ea_rows, lenB_is, byteI_is, toNat_succ, List.getElem?_cons_zero, List.getElem?_cons_succ, List.nil_append, List.cons_append, List.length_cons, List.length_nil, Nat.reduceEqDiff, Nat.reduceAdd, Nat.reduceLT, Nat.reduceLeDiff, Nat.mul_one, Nat.add_zero, Nat.zero_add, Nat.mod_one, List.getD_cons_zero, ↓reduceIte, eq_self, true_and, and_true, Bool.not_true, Bool.not_false, Bool.true_eq_false, Bool.false_eq_true, false_implies, forall_const, Int.toNat_natCast, Option.isSome_some]) | refine ev_guard rfl rfl rfl ?_ ?_ | ((with_reducible show retQ _ _ _ _); simp only [eq_self]) | (with_reducible refine hK _ ?_; clear hK K) | (with_reducible refine And.intro ?_ ?_) | (with_reducible intro hc; try simp only [decide_eq_true_eq, decide_eq_false_iff_not, bne_iff_ne, bne_eq_false_iff_eq, Bool.not_true, Bool.not_false, Int.not_lt, ne_eq, reduceCtorEq, Bool.true_eq_false] at hc) | omega)
          all_goals first
            | (exfalso; omega)
            | omega
            | exact isRow.one (hF' _ (by assumption)).1
            | (rename_i q; obtain rfl : q = 0 := (by omega); rfl)
            | (rename_i q; rcases (show q = 0 ∨ q = 1 by omega) with rfl | rfl <;> rfl)
            | (refine ⟨(c + 1, L' ++ [[(k : Int), (c : Int)]], fun i => if i = L'.length then .row u0 Z 1 [(k : Int), (c : Int)].length (fun j => vi ([(k : Int), (c : Int)].getD j 0)) else F' i), ⟨by show c + 1 ≤ _; omega, by show L' ++ _ = bdK l k ++ bdJ l k (c + 1); rw [bdJ_yes hb, ← List.append_assoc]; exact congrArg (· ++ _) hL', hF'.grow ⟨u0, Z, rfl⟩ (fun b hb => hZN b (row_zof hb)) fun i hi b ⟨Z', hZ', hb'⟩ hv => hZd Z' (zst_blk (id := 0) (i := i) rfl hi rfl hZ') b hb' (row_zof hv)⟩,
                 by show lenB (stAt l k) - (c + 1) < lenB (stAt l k) - c; omega, [3], rfl, by decide, ⟨VE.rfl' _, ⟨rfl, rfl, rfl, by simp⟩, VE.rfl' _, VE.rfl' _, VE.rfl' _, VE.rfl' _, VE.rfl' _, VE.rfl' _, VE.of_eq rfl, trivial⟩, ⟨grow_be3 (by simp) (row2_ve u0 Z rfl rfl), trivial⟩⟩)
            | trace_state
        · have hb1 := mt hiff.2 hb
          clear hiff
          repeat' (first | (with_reducible first | refine then_normal ?_ | refine then_ret ?_ | refine then_exit ?_ | refine block_normal ?_ | refine block_ret ?_) | ((with_reducible show blockQ _ _ _ _); first | refine block_exit ?_ | refine block_exit_ne rfl ?_) | ((with_reducible show AWP _ _ _ _ _); first | (with_reducible first | refine AWP.seq ?_ | refine AWP.block ?_ | refine AWP.region ?_ | refine AWP.ret ?_ | refine AWP.exit ?_ | refine AWP.skip ?_) | refine AWP.drawn rfl (by kernel_rfl) ?_ | refine AWP.cond rfl ?_ ?_) | with_reducible refine ev_nil ?_ | ((first | ((with_reducible show evOps _ _ _ _ _ _); (first | refine ev_step rfl ?_ | refine ev_undef rfl rfl rfl ?_); intro K hK) | ((with_reducible show EvOpen _ _ _ _ _ _ _); refine ev_open ?_; intro K hK) | ((with_reducible show SkOpen _ _ _ _ _ _ _); refine sk_open ?_; intro K hK) | ((with_reducible show callK _ _ _ _ _ _ _ _); first | fail)); simp only [evOp, evQ, evB, binK, withS, opd, kput, putS, upd, lookup, skipOp, InK_i64, appendK, srcK, growK, frz, newBlk, partsK, buildSliceK, plSlice, V.one, Value.oneCell', List.set_cons_zero, List.set_cons_succ, ei_ints, ea_ints, sz_strs, c_string, u_string, ei_rows, ea_rows, lenB_is, byteI_is, toNat_succ, List.getElem?_cons_zero, List.getElem?_cons_succ, List.nil_append, List.cons_append, List.length_cons, List.length_nil, Nat.reduceEqDiff, Nat.reduceAdd, Nat.reduceLT, Nat.reduceLeDiff, Nat.mul_one, Nat.add_zero, Nat.zero_add, Nat.mod_one, List.getD_cons_zero, ↓reduceIte, eq_self, true_and, and_true, Bool.not_true, Bool.not_false, Bool.true_eq_false, Bool.false_eq_true, false_implies, forall_const, Int.toNat_natCast, Option.isSome_some]) | refine ev_guard rfl rfl rfl ?_ ?_ | ((with_reducible show retQ _ _ _ _); simp only [eq_self]) | (with_reducible refine hK _ ?_; clear hK K) | (with_reducible refine And.intro ?_ ?_) | (with_reducible intro hc; try simp only [decide_eq_true_eq, decide_eq_false_iff_not, bne_iff_ne, bne_eq_false_iff_eq, Bool.not_true, Bool.not_false, Int.not_lt, ne_eq, reduceCtorEq, Bool.true_eq_false] at hc) | omega)
          all_goals first
            | (exfalso; omega)
            | omega
            | (refine ⟨(c + 1, L', F'), ⟨by show c + 1 ≤ _; omega, by show L' = bdK l k ++ bdJ l k (c + 1); rw [bdJ_no (by simpa using hb)]; exact hL', hF'⟩, by show lenB (stAt l k) - (c + 1) < lenB (stAt l k) - c; omega, [0], rfl, by decide, ⟨VE.rfl' _, ⟨rfl, rfl, rfl, rfl⟩, VE.rfl' _, VE.rfl' _, VE.rfl' _, VE.rfl' _, VE.rfl' _, VE.rfl' _, VE.of_eq rfl, trivial⟩, ⟨BE.rfl' _, trivial⟩⟩)
            | trace_state
      · repeat' (first | (with_reducible first | refine then_normal ?_ | refine then_ret ?_ | refine then_exit ?_ | refine block_normal ?_ | refine block_ret ?_) | ((with_reducible show blockQ _ _ _ _); first | refine block_exit ?_ | refine block_exit_ne rfl ?_) | ((with_reducible show AWP _ _ _ _ _); first | (with_reducible first | refine AWP.seq ?_ | refine AWP.block ?_ | refine AWP.region ?_ | refine AWP.ret ?_ | refine AWP.exit ?_ | refine AWP.skip ?_) | refine AWP.drawn rfl (by kernel_rfl) ?_ | refine AWP.cond rfl ?_ ?_) | with_reducible refine ev_nil ?_ | ((first | ((with_reducible show evOps _ _ _ _ _ _); (first | refine ev_step rfl ?_ | refine ev_undef rfl rfl rfl ?_); intro K hK) | ((with_reducible show EvOpen _ _ _ _ _ _ _); refine ev_open ?_; intro K hK) | ((with_reducible show SkOpen _ _ _ _ _ _ _); refine sk_open ?_; intro K hK) | ((with_reducible show callK _ _ _ _ _ _ _ _); first | fail)); simp only [evOp, evQ, evB, binK, withS, opd, kput, putS, upd, lookup, skipOp, InK_i64, appendK, srcK, growK, frz, newBlk, partsK, buildSliceK, plSlice, V.one, Value.oneCell', List.set_cons_zero, List.set_cons_succ, ei_ints, ea_ints, sz_strs, c_string, u_string, ei_rows, ea_rows, lenB_is, byteI_is, toNat_succ, List.getElem?_cons_zero, List.getElem?_cons_succ, List.nil_append, List.cons_append, List.length_cons, List.length_nil, Nat.reduceEqDiff, Nat.reduceAdd, Nat.reduceLT, Nat.reduceLeDiff, Nat.mul_one, Nat.add_zero, Nat.zero_add, Nat.mod_one, List.getD_cons_zero, ↓reduceIte, eq_self, true_and, and_true, Bool.not_true, Bool.not_false, Bool.true_eq_false, Bool.false_eq_true, false_implies, forall_const, Int.toNat_natCast, Option.isSome_some]) | refine ev_guard rfl rfl rfl ?_ ?_ | ((with_reducible show retQ _ _ _ _); simp only [eq_self]) | (with_reducible refine hK _ ?_; clear hK K) | (with_reducible refine And.intro ?_ ?_) | (with_reducible intro hc; try simp only [decide_eq_true_eq, decide_eq_false_iff_not, bne_iff_ne, bne_eq_false_iff_eq, Bool.not_true, Bool.not_false, Int.not_lt, ne_eq, reduceCtorEq, Bool.true_eq_false] at hc) | omega)
        all_goals first
          | (exfalso; omega)
          | (refine ⟨(k + 1, L', F'), ⟨by show k + 1 ≤ _; omega, by
               have e : c = lenB (stAt l k) := by have : c ≤ lenB (stAt l k) := hc0; omega
               show L' = bdK l k ++ bdJ l k (lenB (stAt l k)); rw [← e]; exact hL', hF'⟩, by show l.length - (k + 1) < l.length - k; omega, [0], rfl, by decide, ⟨VE.rfl' _, ⟨rfl, rfl, rfl, rfl⟩, VE.rfl' _, VE.rfl' _, VE.of_eq rfl, trivial⟩, ⟨BE.rfl' _, trivial⟩⟩)
          | trace_state
    · have e : k = l.length := by have : k ≤ l.length := hk; omega
      subst e
      repeat' (first | (with_reducible first | refine then_normal ?_ | refine then_ret ?_ | refine then_exit ?_ | refine block_normal ?_ | refine block_ret ?_) | ((with_reducible show blockQ _ _ _ _); first | refine block_exit ?_ | refine block_exit_ne rfl ?_) | ((with_reducible show AWP _ _ _ _ _); first | (with_reducible first | refine AWP.seq ?_ | refine AWP.block ?_ | refine AWP.region ?_ | refine AWP.ret ?_ | refine AWP.exit ?_ | refine AWP.skip ?_) | refine AWP.drawn rfl (by kernel_rfl) ?_ | refine AWP.cond rfl ?_ ?_) | with_reducible refine ev_nil ?_ | ((first | ((with_reducible show evOps _ _ _ _ _ _); (first | refine ev_step rfl ?_ | refine ev_undef rfl rfl rfl ?_); intro K hK) | ((with_reducible show EvOpen _ _ _ _ _ _ _); refine ev_open ?_; intro K hK) | ((with_reducible show SkOpen _ _ _ _ _ _ _); refine sk_open ?_; intro K hK) | ((with_reducible show callK _ _ _ _ _ _ _ _); first | fail)); simp only [evOp, evQ, evB, binK, withS, opd, kput, putS, upd, lookup, sz_strs, c_string, u_string, lenB_is, Nat.reduceEqDiff, Nat.reduceLT, Nat.mul_one, Nat.add_zero, ↓reduceIte, eq_self, true_and, Int.toNat_natCast]) | refine ev_guard rfl rfl rfl ?_ ?_ | ((with_reducible show retQ _ _ _ _); simp only [eq_self]) | (with_reducible refine hK _ ?_; clear hK K) | (with_reducible refine And.intro ?_ ?_) | (with_reducible intro hc; try simp only [decide_eq_true_eq, decide_eq_false_iff_not, Int.not_lt] at hc) | omega)
      refine ⟨_, ⟨F, fun i hi => ?_, rfl⟩, ⟨fun i hi => ?_, trivial, trivial⟩, ?_⟩
      · have hL : L = bdK l l.length := hL
        subst hL
        exact ⟨(hF i hi).1, (hF i hi).2.2⟩
      · have hL : L = bdK l l.length := hL
        subst hL
        exact NewV.of_zof (isRow.new (hF i hi).1) (hF i hi).2.1
      · have hL : L = bdK l l.length := hL
        subst hL
        simp only [retOk, getL, lookup, Option.map_some, fitsL, fits, ND, srcs, Res.list, VE, List.getElem?_cons_zero, Nat.reduceEqDiff, ↓reduceIte, and_true, true_and]
        exact ⟨⟨_, rfl, rfl, Nat.le_refl _, fun i hi => VE.rfl' _⟩, by simp⟩
  · have hp' : picB l = false := by simpa using hp
    rw [bdR_no hp']
    repeat' (first | (with_reducible first | refine then_normal ?_ | refine then_ret ?_ | refine then_exit ?_ | refine block_normal ?_ | refine block_ret ?_) | ((with_reducible show blockQ _ _ _ _); first | refine block_exit ?_ | refine block_exit_ne rfl ?_) | ((with_reducible show AWP _ _ _ _ _); first | (with_reducible first | refine AWP.seq ?_ | refine AWP.block ?_ | refine AWP.region ?_ | refine AWP.ret ?_ | refine AWP.exit ?_ | refine AWP.skip ?_) | refine AWP.drawn rfl (by kernel_rfl) ?_ | refine AWP.cond rfl ?_ ?_) | with_reducible refine ev_nil ?_ | ((first | ((with_reducible show evOps _ _ _ _ _ _); (first | refine ev_step rfl ?_ | refine ev_undef rfl rfl rfl ?_); intro K hK) | ((with_reducible show EvOpen _ _ _ _ _ _ _); refine ev_open ?_; intro K hK) | ((with_reducible show SkOpen _ _ _ _ _ _ _); refine sk_open ?_; intro K hK) | ((with_reducible show callK _ _ _ _ _ _ _ _); first  | (refine call_scalar (isPicture_fn l hl) (Nat.le_of_ble_eq_true rfl) rfl ?_))); simp only [evOp, evQ, evB, withS, opd, kput, putS, upd, lookup, argsK, bringIn, bring, Res.list, Res.slot, slotsOf, newBlk, partsK, buildSliceK, sz_strs, ei_rows, ea_rows, Nat.zero_le, List.reverse_cons, List.reverse_nil, List.nil_append, List.length_cons, List.length_nil, Nat.reduceEqDiff, Nat.reduceLT, Nat.reduceLeDiff, Nat.mul_one, Nat.zero_add, Nat.mod_one, List.getD_cons_zero, ↓reduceIte, eq_self, true_and, Option.isSome_some]) | refine ev_guard rfl rfl rfl ?_ ?_ | ((with_reducible show retQ _ _ _ _); simp only [eq_self]) | (with_reducible refine hK _ ?_; clear hK K) | (with_reducible refine And.intro ?_ ?_) | (with_reducible intro hc; try simp only [Bool.not_eq_true', Bool.not_eq_false'] at hc) | omega)
    all_goals first
      | (exfalso; simp_all; done)
      | (refine ⟨_, ⟨fun _ => .val undef, fun i hi => absurd hi (by simp), rfl⟩, ⟨fun i hi => absurd hi (by simp), trivial, trivial⟩, ?_⟩; simp only [retOk, getL, lookup, Option.map_some, fitsL, fits, ND, srcs, Res.list, VE, Nat.reduceEqDiff, ↓reduceIte, and_true]; simp; done)
      | trace_state

end Go.Proofs.Yteapdildbfimnaa
namespace Go.Proofs.Yteapdildbfimnaa
open Go.RowKit Go.Proofs
set_option linter.unusedSimpArgs false
set_option linter.unusedVariables false

set_option maxHeartbeats 2000000 in
theorem specBorderPlaces_E (l : List ByteArray) (hl : l.length ≤ 1099511627776) (hs : ∀ i, lenB (stAt l i) ≤ 1099511627776) : FnE Try.prog 32 [strs l] (bdE (bdR l).1 (bdR l).2) := by
  refine FnE.of_body (fun N => [strs l]) (fun _ _ h => h) Try.call32 Try.func32 rfl Try.ntmps32 (ts := [2, 3]) rfl (fun _ => by simp) (bdE.shape) (fun N => ?_)
  by_cases hp : picB l = true
  · have hpp := picB_parts hp
    rw [bdR_yes hp]
    repeat' (first | (with_reducible first | refine then_normal ?_ | refine then_ret ?_ | refine then_exit ?_ | refine block_normal ?_ | refine block_ret ?_) | ((with_reducible show blockQ _ _ _ _); first | refine block_exit ?_ | refine block_exit_ne rfl ?_) | ((with_reducible show AWP _ _ _ _ _); first | (with_reducible first | refine AWP.seq ?_ | refine AWP.block ?_ | refine AWP.region ?_ | refine AWP.ret ?_ | refine AWP.exit ?_ | refine AWP.skip ?_) | refine AWP.drawn rfl (by kernel_rfl) ?_ | refine AWP.cond rfl ?_ ?_) | with_reducible refine ev_nil ?_ | ((first | ((with_reducible show evOps _ _ _ _ _ _); (first | refine ev_step rfl ?_ | refine ev_undef rfl rfl rfl ?_); intro K hK) | ((with_reducible show EvOpen _ _ _ _ _ _ _); refine ev_open ?_; intro K hK) | ((with_reducible show SkOpen _ _ _ _ _ _ _); refine sk_open ?_; intro K hK) | ((with_reducible show callK _ _ _ _ _ _ _ _); first  | (refine call_scalar (drGood_fn l hl hs) (Nat.le_of_ble_eq_true rfl) rfl ?_))); simp only [evOp, evQ, evB, withS, opd, kput, putS, upd, lookup, argsK, bringIn, bring, Res.list, Res.slot, slotsOf, sz_strs, List.reverse_cons, List.reverse_nil, List.nil_append, Nat.reduceEqDiff, Nat.reduceLT, ↓reduceIte, eq_self, true_and, Option.isSome_some]) | refine ev_guard rfl rfl rfl ?_ ?_ | ((with_reducible show retQ _ _ _ _); simp only [eq_self]) | (with_reducible refine hK _ ?_; clear hK K) | (with_reducible refine And.intro ?_ ?_) | (with_reducible intro hc; try simp only [Bool.not_eq_true', Bool.not_eq_false'] at hc) | omega)
    any_goals first
      | (exfalso; simp_all; done)
    refine AWP.virtual 4 37 1 rfl ?_
    refine AWP.loop_entR [0] (fun x : Nat × List (List Int) × (Nat → V) => ⟨[(0, .one (.pv (strs l))), (4, .one (.own 0 1 0 x.2.1.length)), (11, .one (.pv (strs l))), (12, sc (.int .i64 (l.length : Int))), (13, sc (.int .i64 x.1))], [some ⟨37, x.2.1.length, x.2.2⟩], 67⟩)
      (fun x => x.1 ≤ l.length ∧ x.2.1 = bdK l x.1 ∧ partR N x.2.1 x.2.2) (fun x => l.length - x.1) (0, [], fun _ => .val undef) ⟨by omega, rfl, partR.nil _ _⟩ (by simp [EntR, EntSR, EntHR, SlR, VE, VE.rfl', lookup, BE, upd, sc]) ?_
    rintro ⟨k, L, F⟩ ⟨hk, hL, hF⟩
    by_cases hkl : k < l.length
    · have hlen := hpp.2.2 k hkl
      have hsk := hs k
      repeat' (first | (with_reducible first | refine then_normal ?_ | refine then_ret ?_ | refine then_exit ?_ | refine block_normal ?_ | refine block_ret ?_) | ((with_reducible show blockQ _ _ _ _); first | refine block_exit ?_ | refine block_exit_ne rfl ?_) | ((with_reducible show AWP _ _ _ _ _); first | (with_reducible first | refine AWP.seq ?_ | refine AWP.block ?_ | refine AWP.region ?_ | refine AWP.ret ?_ | refine AWP.exit ?_ | refine AWP.skip ?_) | refine AWP.drawn rfl (by kernel_rfl) ?_ | refine AWP.cond rfl ?_ ?_) | with_reducible refine ev_nil ?_ | ((first | ((with_reducible show evOps _ _ _ _ _ _); (first | refine ev_step rfl ?_ | refine ev_undef rfl rfl rfl ?_); intro K hK) | ((with_reducible show EvOpen _ _ _ _ _ _ _); refine ev_open ?_; intro K hK) | ((with_reducible show SkOpen _ _ _ _ _ _ _); refine sk_open ?_; intro K hK) | ((with_reducible show callK _ _ _ _ _ _ _ _); first | fail)); simp only [evOp, evQ, binK, withS, opd, kput, putS, upd, lookup, sz_strs, c_string, Nat.reduceEqDiff, Nat.reduceLT, Nat.mul_one, Nat.add_zero, ↓reduceIte, eq_self, true_and, Int.toNat_natCast]) | refine ev_guard rfl rfl rfl ?_ ?_ | ((with_reducible show retQ _ _ _ _); simp only [eq_self]) | (with_reducible refine hK _ ?_; clear hK K) | (with_reducible refine And.intro ?_ ?_) | (with_reducible intro hc; try simp only [decide_eq_true_eq, decide_eq_false_iff_not, Int.not_lt] at hc) | omega)
      refine AWP.loop_entR [0] (fun x : Nat × List (List Int) × (Nat → V) => ⟨[(0, .one (.pv (strs l))), (4, .one (.own 0 1 0 x.2.1.length)), (5, sc (.int .i64 k)), (6, .one (.pv (vs (stAt l k)))), (11, .one (.pv (strs l))), (12, sc (.int .i64 (l.length : Int))), (13, sc (.int .i64 k)), (7, sc (.int .i64 x.1))], [some ⟨37, x.2.1.length, x.2.2⟩], 67⟩)
        (fun x => x.1 ≤ lenB (stAt l k) ∧ x.2.1 = bdK l k ++ bdJ l k x.1 ∧ partR N x.2.1 x.2.2) (fun x => lenB (stAt l k) - x.1) (0, L, F) ⟨by omega, by rw [hL]; simp [bdJ], hF⟩ (by simp [EntR, EntSR, EntHR, SlR, VE, VE.rfl', lookup, BE, upd, sc]) ?_
      rintro ⟨c, L', F'⟩ ⟨hc0, hL', hF'⟩
      by_cases hcl : c < lenB (stAt l k)
      · have hLn : L'.length ≤ 1024 := by
          have h1 := bdK_len hp k hk
          have h2 := bdJ_len l k c
          have e : L'.length = (bdK l k).length + (bdJ l k c).length := by rw [show L' = _ from hL', List.length_append]
          omega
        have hiff := isBd_iff l k c
        have hnx : k + 1 < l.length → lenB (stAt l (k + 1)) = lenB (stAt l 0) := hpp.2.2 (k + 1)
        by_cases hb : isBd l k c = true
        · have hb1 := hiff.1 hb
          clear hiff
          repeat' (first | ((with_reducible show letRowK _ _ _ _) ; refine ⟨_, _, _, _, rfl, rfl, Nat.le_refl _, ?_⟩ ; intro u0 Z hZN hZd ; simp only [upd, List.set_cons_zero, List.set_cons_succ, List.nil_append, List.cons_append, Nat.reduceEqDiff, ↓reduceIte, eq_self]) | (with_reducible first | refine then_normal ?_ | refine then_ret ?_ | refine then_exit ?_ | refine block_normal ?_ | refine block_ret ?_) | ((with_reducible show blockQ _ _ _ _); first | refine block_exit ?_ | refine block_exit_ne rfl ?_) | ((with_reducible show AWP _ _ _ _ _); first | (refine AWP.region_letRow (id := 11) [_, _, _, _] _ 62 ?_) | (with_reducible first | refine AWP.seq ?_ | refine AWP.block ?_ | refine AWP.region ?_ | refine AWP.ret ?_ | refine AWP.exit ?_ | refine AWP.skip ?_) | refine AWP.drawn rfl (by kernel_rfl) ?_ | refine AWP.cond rfl ?_ ?_) | with_reducible refine ev_nil ?_ | ((first | ((with_reducible show evOps _ _ _ _ _ _); (first | refine ev_step rfl ?_ | refine ev_undef rfl rfl rfl ?_); intro K hK) | ((with_reducible show EvOpen _ _ _ _ _ _ _); refine ev_open ?_; intro K hK) | ((with_reducible show SkOpen _ _ _ _ _ _ _); refine sk_open ?_; intro K hK) | ((with_reducible show callK _ _ _ _ _ _ _ _); first  | fail)); simp only [evOp, evQ, evB, binK, withS, opd, kput, putS, upd, lookup, skipOp, InK_i64, appendK, srcK, growK, frz, newBlk, partsK, buildSliceK, plSlice, V.one, Value.oneCell', List.set_cons_zero, ei_ints, ea_ints, sz_strs, c_string, u_string, ei_rows, ea_rows, lenB_is, byteI_is, toNat_succ, List.getElem?_cons_zero, List.getElem?_cons_succ, List.nil_append, List.cons_append, List.length_cons, List.length_nil, Nat.reduceEqDiff, Nat.reduceAdd, Nat.reduceLT, Nat.reduceLeDiff, Nat.mul_one, Nat.add_zero, Nat.zero_add, Nat.mod_one, List.getD_cons_zero, ↓reduceIte, eq_self, true_and, and_true, Bool.not_true, Bool.not_false, Bool.true_eq_false, Bool.false_eq_true, false_implies, forall_const, Int.toNat_natCast, Option.isSome_some]) | refine ev_guard rfl rfl rfl ?_ ?_ | ((with_reducible show retQ _ _ _ _); simp only [eq_self]) | (with_reducible refine hK _ ?_; clear hK K) | (with_reducible refine And.intro ?_ ?_) | (with_reducible intro hc; try simp only [decide_eq_true_eq, decide_eq_false_iff_not, bne_iff_ne, bne_eq_false_iff_eq, Bool.not_true, Bool.not_false, Int.not_lt, ne_eq, reduceCtorEq, Bool.true_eq_false] at hc) | omega)
          all_goals first
            | (exfalso; omega)
            | omega
            | exact isRow.one (hF' _ (by assumption)).1
            | (rename_i q; obtain rfl : q = 0 := (by omega); rfl)
            | (rename_i q; rcases (show q = 0 ∨ q = 1 by omega) with rfl | rfl <;> rfl)
            | (refine ⟨(c + 1, L' ++ [[(k : Int), (c : Int)]], fun i => if i = L'.length then .row u0 Z 1 [(k : Int), (c : Int)].length (fun j => vi ([(k : Int), (c : Int)].getD j 0)) else F' i), ⟨by show c + 1 ≤ _; omega, by show L' ++ _ = bdK l k ++ bdJ l k (c + 1); rw [bdJ_yes hb, ← List.append_assoc]; exact congrArg (· ++ _) hL', hF'.grow ⟨u0, Z, rfl⟩ (fun b hb => hZN b (row_zof hb)) fun i hi b ⟨Z', hZ', hb'⟩ hv => hZd Z' (zst_blk (id := 0) (i := i) rfl hi rfl hZ') b hb' (row_zof hv)⟩,
                 by show lenB (stAt l k) - (c + 1) < lenB (stAt l k) - c; omega, [3], rfl, by decide, ⟨VE.rfl' _, ⟨rfl, rfl, rfl, by simp⟩, VE.rfl' _, VE.rfl' _, VE.rfl' _, VE.rfl' _, VE.rfl' _, VE.of_eq rfl, trivial⟩, ⟨grow_be3 (by simp) (row2_ve u0 Z rfl rfl), trivial⟩⟩)
            | trace_state
        · have hb1 := mt hiff.2 hb
          clear hiff
          repeat' (first | (with_reducible first | refine then_normal ?_ | refine then_ret ?_ | refine then_exit ?_ | refine block_normal ?_ | refine block_ret ?_) | ((with_reducible show blockQ _ _ _ _); first | refine block_exit ?_ | refine block_exit_ne rfl ?_) | ((with_reducible show AWP _ _ _ _ _); first | (with_reducible first | refine AWP.seq ?_ | refine AWP.block ?_ | refine AWP.region ?_ | refine AWP.ret ?_ | refine AWP.exit ?_ | refine AWP.skip ?_) | refine AWP.drawn rfl (by kernel_rfl) ?_ | refine AWP.cond rfl ?_ ?_) | with_reducible refine ev_nil ?_ | ((first | ((with_reducible show evOps _ _ _ _ _ _); (first | refine ev_step rfl ?_ | refine ev_undef rfl rfl rfl ?_); intro K hK) | ((with_reducible show EvOpen _ _ _ _ _ _ _); refine ev_open ?_; intro K hK) | ((with_reducible show SkOpen _ _ _ _ _ _ _); refine sk_open ?_; intro K hK) | ((with_reducible show callK _ _ _ _ _ _ _ _); first | fail)); simp only [evOp, evQ, evB, binK, withS, opd, kput, putS, upd, lookup, skipOp, InK_i64, appendK, srcK, growK, frz, newBlk, partsK, buildSliceK, plSlice, V.one, Value.oneCell', List.set_cons_zero, List.set_cons_succ, ei_ints, ea_ints, sz_strs, c_string, u_string, ei_rows, ea_rows, lenB_is, byteI_is, toNat_succ, List.getElem?_cons_zero, List.getElem?_cons_succ, List.nil_append, List.cons_append, List.length_cons, List.length_nil, Nat.reduceEqDiff, Nat.reduceAdd, Nat.reduceLT, Nat.reduceLeDiff, Nat.mul_one, Nat.add_zero, Nat.zero_add, Nat.mod_one, List.getD_cons_zero, ↓reduceIte, eq_self, true_and, and_true, Bool.not_true, Bool.not_false, Bool.true_eq_false, Bool.false_eq_true, false_implies, forall_const, Int.toNat_natCast, Option.isSome_some]) | refine ev_guard rfl rfl rfl ?_ ?_ | ((with_reducible show retQ _ _ _ _); simp only [eq_self]) | (with_reducible refine hK _ ?_; clear hK K) | (with_reducible refine And.intro ?_ ?_) | (with_reducible intro hc; try simp only [decide_eq_true_eq, decide_eq_false_iff_not, bne_iff_ne, bne_eq_false_iff_eq, Bool.not_true, Bool.not_false, Int.not_lt, ne_eq, reduceCtorEq, Bool.true_eq_false] at hc) | omega)
          all_goals first
            | (exfalso; omega)
            | omega
            | (refine ⟨(c + 1, L', F'), ⟨by show c + 1 ≤ _; omega, by show L' = bdK l k ++ bdJ l k (c + 1); rw [bdJ_no (by simpa using hb)]; exact hL', hF'⟩, by show lenB (stAt l k) - (c + 1) < lenB (stAt l k) - c; omega, [0], rfl, by decide, ⟨VE.rfl' _, ⟨rfl, rfl, rfl, rfl⟩, VE.rfl' _, VE.rfl' _, VE.rfl' _, VE.rfl' _, VE.rfl' _, VE.of_eq rfl, trivial⟩, ⟨BE.rfl' _, trivial⟩⟩)
            | trace_state
      · repeat' (first | (with_reducible first | refine then_normal ?_ | refine then_ret ?_ | refine then_exit ?_ | refine block_normal ?_ | refine block_ret ?_) | ((with_reducible show blockQ _ _ _ _); first | refine block_exit ?_ | refine block_exit_ne rfl ?_) | ((with_reducible show AWP _ _ _ _ _); first | (with_reducible first | refine AWP.seq ?_ | refine AWP.block ?_ | refine AWP.region ?_ | refine AWP.ret ?_ | refine AWP.exit ?_ | refine AWP.skip ?_) | refine AWP.drawn rfl (by kernel_rfl) ?_ | refine AWP.cond rfl ?_ ?_) | with_reducible refine ev_nil ?_ | ((first | ((with_reducible show evOps _ _ _ _ _ _); (first | refine ev_step rfl ?_ | refine ev_undef rfl rfl rfl ?_); intro K hK) | ((with_reducible show EvOpen _ _ _ _ _ _ _); refine ev_open ?_; intro K hK) | ((with_reducible show SkOpen _ _ _ _ _ _ _); refine sk_open ?_; intro K hK) | ((with_reducible show callK _ _ _ _ _ _ _ _); first | fail)); simp only [evOp, evQ, evB, binK, withS, opd, kput, putS, upd, lookup, skipOp, InK_i64, appendK, srcK, growK, frz, newBlk, partsK, buildSliceK, plSlice, V.one, Value.oneCell', List.set_cons_zero, List.set_cons_succ, ei_ints, ea_ints, sz_strs, c_string, u_string, ei_rows, ea_rows, lenB_is, byteI_is, toNat_succ, List.getElem?_cons_zero, List.getElem?_cons_succ, List.nil_append, List.cons_append, List.length_cons, List.length_nil, Nat.reduceEqDiff, Nat.reduceAdd, Nat.reduceLT, Nat.reduceLeDiff, Nat.mul_one, Nat.add_zero, Nat.zero_add, Nat.mod_one, List.getD_cons_zero, ↓reduceIte, eq_self, true_and, and_true, Bool.not_true, Bool.not_false, Bool.true_eq_false, Bool.false_eq_true, false_implies, forall_const, Int.toNat_natCast, Option.isSome_some]) | refine ev_guard rfl rfl rfl ?_ ?_ | ((with_reducible show retQ _ _ _ _); simp only [eq_self]) | (with_reducible refine hK _ ?_; clear hK K) | (with_reducible refine And.intro ?_ ?_) | (with_reducible intro hc; try simp only [decide_eq_true_eq, decide_eq_false_iff_not, bne_iff_ne, bne_eq_false_iff_eq, Bool.not_true, Bool.not_false, Int.not_lt, ne_eq, reduceCtorEq, Bool.true_eq_false] at hc) | omega)
        all_goals first
          | (exfalso; omega)
          | (refine ⟨(k + 1, L', F'), ⟨by show k + 1 ≤ _; omega, by
               have e : c = lenB (stAt l k) := by have : c ≤ lenB (stAt l k) := hc0; omega
               show L' = bdK l k ++ bdJ l k (lenB (stAt l k)); rw [← e]; exact hL', hF'⟩, by show l.length - (k + 1) < l.length - k; omega, [0], rfl, by decide, ⟨VE.rfl' _, ⟨rfl, rfl, rfl, rfl⟩, VE.rfl' _, VE.rfl' _, VE.of_eq rfl, trivial⟩, ⟨BE.rfl' _, trivial⟩⟩)
          | trace_state
    · have e : k = l.length := by have : k ≤ l.length := hk; omega
      subst e
      repeat' (first | (with_reducible first | refine then_normal ?_ | refine then_ret ?_ | refine then_exit ?_ | refine block_normal ?_ | refine block_ret ?_) | ((with_reducible show blockQ _ _ _ _); first | refine block_exit ?_ | refine block_exit_ne rfl ?_) | ((with_reducible show AWP _ _ _ _ _); first | (with_reducible first | refine AWP.seq ?_ | refine AWP.block ?_ | refine AWP.region ?_ | refine AWP.ret ?_ | refine AWP.exit ?_ | refine AWP.skip ?_) | refine AWP.drawn rfl (by kernel_rfl) ?_ | refine AWP.cond rfl ?_ ?_) | with_reducible refine ev_nil ?_ | ((first | ((with_reducible show evOps _ _ _ _ _ _); (first | refine ev_step rfl ?_ | refine ev_undef rfl rfl rfl ?_); intro K hK) | ((with_reducible show EvOpen _ _ _ _ _ _ _); refine ev_open ?_; intro K hK) | ((with_reducible show SkOpen _ _ _ _ _ _ _); refine sk_open ?_; intro K hK) | ((with_reducible show callK _ _ _ _ _ _ _ _); first | fail)); simp only [evOp, evQ, binK, withS, opd, kput, putS, upd, lookup, sz_strs, c_string, Nat.reduceEqDiff, Nat.reduceLT, Nat.mul_one, Nat.add_zero, ↓reduceIte, eq_self, true_and, Int.toNat_natCast]) | refine ev_guard rfl rfl rfl ?_ ?_ | ((with_reducible show retQ _ _ _ _); simp only [eq_self]) | (with_reducible refine hK _ ?_; clear hK K) | (with_reducible refine And.intro ?_ ?_) | (with_reducible intro hc; try simp only [decide_eq_true_eq, decide_eq_false_iff_not, Int.not_lt] at hc) | omega)
      refine ⟨_, ⟨F, fun i hi => ?_, rfl⟩, ⟨fun i hi => ?_, trivial, trivial⟩, ?_⟩
      · have hL : L = bdK l l.length := hL
        subst hL
        exact ⟨(hF i hi).1, (hF i hi).2.2⟩
      · have hL : L = bdK l l.length := hL
        subst hL
        exact NewV.of_zof (isRow.new (hF i hi).1) (hF i hi).2.1
      · have hL : L = bdK l l.length := hL
        subst hL
        simp only [retOk, getL, lookup, Option.map_some, fitsL, fits, ND, srcs, Res.list, VE, List.getElem?_cons_zero, Nat.reduceEqDiff, ↓reduceIte, and_true, true_and]
        exact ⟨⟨_, rfl, rfl, Nat.le_refl _, fun i hi => VE.rfl' _⟩, by simp⟩
  · have hp' : picB l = false := by simpa using hp
    rw [bdR_no hp']
    repeat' (first | (with_reducible first | refine then_normal ?_ | refine then_ret ?_ | refine then_exit ?_ | refine block_normal ?_ | refine block_ret ?_) | ((with_reducible show blockQ _ _ _ _); first | refine block_exit ?_ | refine block_exit_ne rfl ?_) | ((with_reducible show AWP _ _ _ _ _); first | (with_reducible first | refine AWP.seq ?_ | refine AWP.block ?_ | refine AWP.region ?_ | refine AWP.ret ?_ | refine AWP.exit ?_ | refine AWP.skip ?_) | refine AWP.drawn rfl (by kernel_rfl) ?_ | refine AWP.cond rfl ?_ ?_) | with_reducible refine ev_nil ?_ | ((first | ((with_reducible show evOps _ _ _ _ _ _); (first | refine ev_step rfl ?_ | refine ev_undef rfl rfl rfl ?_); intro K hK) | ((with_reducible show EvOpen _ _ _ _ _ _ _); refine ev_open ?_; intro K hK) | ((with_reducible show SkOpen _ _ _ _ _ _ _); refine sk_open ?_; intro K hK) | ((with_reducible show callK _ _ _ _ _ _ _ _); first  | (refine call_scalar (drGood_fn l hl hs) (Nat.le_of_ble_eq_true rfl) rfl ?_))); simp only [evOp, evQ, evB, withS, opd, kput, putS, upd, lookup, argsK, bringIn, bring, Res.list, Res.slot, slotsOf, sz_strs, List.reverse_cons, List.reverse_nil, List.nil_append, Nat.reduceEqDiff, Nat.reduceLT, ↓reduceIte, eq_self, true_and, Option.isSome_some]) | refine ev_guard rfl rfl rfl ?_ ?_ | ((with_reducible show retQ _ _ _ _); simp only [eq_self]) | (with_reducible refine hK _ ?_; clear hK K) | (with_reducible refine And.intro ?_ ?_) | (with_reducible intro hc; try simp only [Bool.not_eq_true', Bool.not_eq_false'] at hc) | omega)
    all_goals first
      | (exfalso; simp_all; done)
      | (refine ⟨_, ⟨fun _ => .val undef, fun i hi => absurd hi (by simp), rfl⟩, ⟨fun i hi => absurd hi (by simp), trivial, trivial⟩, ?_⟩; simp only [retOk, getL, lookup, Option.map_some, fitsL, fits, ND, srcs, Res.list, VE, Nat.reduceEqDiff, ↓reduceIte, and_true]; simp; done)
      | trace_state

end Go.Proofs.Yteapdildbfimnaa
