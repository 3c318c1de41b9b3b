/- Parts of the proof of LawFnCatalogues: contracts of functions, laws of an abstract state, plain facts. No conditions. -/
import Derived.Test.YteapdildbfimnaaGreatDoorB07
import Derived.WalkKit
import Derived.Lib.Walk
import Derived.Deep.QuietTactic
import Derived.BigQuiet
namespace Go.Proofs.YteapdildbfimnaaGreatDoor
open Go.RowKit Go.Proofs
set_option linter.unusedSimpArgs false
set_option linter.unusedVariables false

/-- A list of lists, or none, and whether it is there. -/
def resV (R : List (List T3) × Bool) : V := if R.2 then termss R.1 else .val (.slice none 0 0)
theorem catX_ok {L : List (List T3)} {k : Nat} (hk : k ≤ L.length) (h : ∀ i, i < L.length → (tsAt L i).length ≤ 12 ∧ Sml (tsAt L i)) : ∀ i, i < (catX L k).length → (tsAt (catX L k) i).length ≤ 12 ∧ Sml (tsAt (catX L k) i) := fun i hi => by
  obtain ⟨j, hj, e⟩ := (catX_mem L k hk).1 (ts_mem hi)
  rw [e]; exact h j (by omega)
set_option maxHeartbeats 4000000 in
set_option maxRecDepth 20000 in
theorem specCatOf_fn (L : List (List T3)) (hl : L.length ≤ 1099511627776) (hr : ∀ i, i < L.length → (tsAt L i).length ≤ 1099511627776) : Fn Tryz.prog 6 [termss L] (.many [.pv (resV (coR L)), .pv (vb (coR L).2)]) := by
  by_cases h10 : L.length ≤ 10
  · refine Fn.of_body Tryz.call6 Tryz.func6 rfl Tryz.ntmps6 (ts := [2, 3]) rfl (by simp) rfl (fun N => ?_)
    repeat' (first | (with_reducible first | refine then_normal ?_ | refine then_ret ?_ | refine then_exit ?_ | refine block_normal ?_ | refine block_ret ?_) | ((with_reducible show blockQ _ _ _ _); first | refine block_exit ?_ | refine block_exit_ne rfl ?_) | ((with_reducible show AWP _ _ _ _ _); first | (with_reducible first | refine AWP.seq ?_ | refine AWP.block ?_ | refine AWP.region ?_ | refine AWP.ret ?_ | refine AWP.exit ?_ | refine AWP.skip ?_) | refine AWP.drawn rfl (by kernel_rfl) ?_ | refine AWP.cond rfl ?_ ?_) | with_reducible refine ev_nil ?_ | ((first | ((with_reducible show evOps _ _ _ _ _ _); (first | refine ev_step rfl ?_ | refine ev_undef rfl rfl rfl ?_); intro K hK) | ((with_reducible show EvOpen _ _ _ _ _ _ _); refine ev_open ?_; intro K hK) | ((with_reducible show SkOpen _ _ _ _ _ _ _); refine sk_open ?_; intro K hK) | ((with_reducible show callK _ _ _ _ _ _ _ _); first | fail)); simp only [evOp, evQ, evB, binK, withS, opd, kput, putS, upd, lookup, slotsOf, sz_termss, Nat.reduceEqDiff, Nat.reduceLT, ↓reduceIte, eq_self, true_and, Option.isSome_some]) | refine ev_guard rfl rfl rfl ?_ ?_ | ((with_reducible show retQ _ _ _ _); simp only [retQ, retOk, getL, lookup, Option.map_some, fitsL, fits, ND, srcs, Res.list, VE, Value.bool.injEq, Nat.reduceEqDiff, ↓reduceIte, and_true]) | (with_reducible refine hK _ ?_; clear hK K) | (with_reducible refine And.intro ?_ ?_) | (with_reducible intro hc; try simp only [decide_eq_true_eq, decide_eq_false_iff_not, Int.not_lt, gt_iff_lt] at hc) | omega)
    all_goals try (exfalso; omega; done)
    refine AWP.nilSeq 4 1 (fun i => terms (tsAt [] i)) rfl ?_
    refine AWP.loop_entR [] (fun k : Nat => ⟨[(4, .one (.pv (termss (catX (fmL L) k)))), (12, .one (.pv (termss L))), (13, sc (.int .i64 L.length)), (14, sc (.int .i64 k))], [], 30⟩)
      (fun k => k ≤ L.length ∧ ∀ j, j < k → okAt L j = true) (fun k => L.length - k) 0 ⟨by omega, fun j hj => by omega⟩ (by simp [EntR, EntSR, EntHR, SlR, VE, VE.rfl', lookup, BE, upd, sc, catX]) ?_
    rintro k ⟨hk, hall⟩
    by_cases hkm : k < L.length
    · have hnp := specNormalPlane_fn (tsAt L k) (hr k hkm)
      have e1 : (normR (tsAt L k)).1 = nfAt L k := rfl
      have e2 : (normR (tsAt L k)).2 = okAt L k := rfl
      rw [e1, e2] at hnp
      cases hok : okAt L k with
      | false =>
        rw [hok] at hnp
        rw [co_no (nfB_no hkm hok)]
        show AWP N Tryz.prog _ _ _
        repeat' (first | (with_reducible first | refine then_normal ?_ | refine then_ret ?_ | refine then_exit ?_ | refine block_normal ?_ | refine block_ret ?_) | ((with_reducible show blockQ _ _ _ _); first | refine block_exit ?_ | refine block_exit_ne rfl ?_) | ((with_reducible show AWP _ _ _ _ _); first | (with_reducible first | refine AWP.seq ?_ | refine AWP.block ?_ | refine AWP.region ?_ | refine AWP.ret ?_ | refine AWP.exit ?_ | refine AWP.skip ?_) | refine AWP.drawn rfl (by kernel_rfl) ?_ | refine AWP.cond rfl ?_ ?_) | with_reducible refine ev_nil ?_ | ((first | ((with_reducible show evOps _ _ _ _ _ _); (first | refine ev_step rfl ?_ | refine ev_undef rfl rfl rfl ?_); intro K hK) | ((with_reducible show EvOpen _ _ _ _ _ _ _); refine ev_open ?_; intro K hK) | ((with_reducible show SkOpen _ _ _ _ _ _ _); refine sk_open ?_; intro K hK) | ((with_reducible show callK _ _ _ _ _ _ _ _); first  | (refine call_safe ( hnp) (Nat.le_of_ble_eq_true rfl) (by repeat' (first | exact trivial | refine ⟨fun _ _ => ⟨_, rfl⟩, ?_⟩)) ?_))); simp only [evOp, evQ, binK, withS, opd, kput, putS, upd, lookup, argsK, bringIn, bring, Res.list, Res.slot, bterms, sz_termss, c_terms, List.getElem?_cons_zero, List.getElem?_cons_succ, List.reverse_cons, List.reverse_nil, List.nil_append, List.length_nil, Nat.reduceEqDiff, Nat.reduceLT, Nat.mul_one, Nat.add_zero, ↓reduceIte, eq_self, true_and, Bool.not_false, Int.toNat_natCast]) | refine ev_guard rfl rfl rfl ?_ ?_ | ((with_reducible show retQ _ _ _ _); simp only [retQ, retOk, getL, lookup, Option.map_some, fitsL, fits, ND, srcs, Res.list, VE, Value.bool.injEq, Nat.reduceEqDiff, ↓reduceIte, and_true]) | (with_reducible refine hK _ ?_; clear hK K) | (with_reducible refine And.intro ?_ ?_) | (with_reducible intro hc; try simp only [decide_eq_true_eq, decide_eq_false_iff_not, Int.not_lt, Bool.true_eq_false] at hc) | omega)
        all_goals first
          | (exfalso; omega)
          | rfl
          | (simp [resV]; done)
          | trace_state
      | true =>
        rw [hok] at hnp
        have hnl := nf_len hok
        have hcl := catX_len (fmL L) k
        have hsub : ∀ i, i < (catX (fmL L) k).length → (tsAt (catX (fmL L) k) i).length ≤ 12 ∧ Sml (tsAt (catX (fmL L) k) i) := fun i hi => by
          obtain ⟨j, hj, e⟩ := (catX_mem (fmL L) k (by rw [fmL_len]; omega)).1 (ts_mem hi)
          rw [e, fmL_at (by omega)]
          exact ⟨nf_len (hall j hj), Sml.of_nf (hall j hj)⟩
        have hput : ∀ (u : Value) (Z : Nat → Prop), Fn Tryz.prog 25 [termss (catX (fmL L) k), .row u Z 3 (nfAt L k).length fun i => vi (tf (nfAt L k) i)] (.one (.pv (termss (catX (fmL L) (k + 1))))) := fun u Z => by
          have := (ctPut_fn (catX (fmL L) k) (nfAt L k) (by omega) hsub hnl (Sml.of_nf hok)).bare (vs' := [termss (catX (fmL L) k), .row u Z 3 (nfAt L k).length fun i => vi (tf (nfAt L k) i)]) ⟨VE.rfl' (termss _), ⟨rfl, rfl, fun i hi => rfl⟩, trivial⟩
          have e3 : catX (fmL L) (k + 1) = putX (catX (fmL L) k) (nfAt L k) := by show putX _ (tsAt (fmL L) k) = _; rw [fmL_at hkm]
          rw [e3]; exact this
        generalize catX (fmL L) k = M at *
        repeat' (first | ((with_reducible show evNx _ _ _ _ _ _); first | (with_reducible refine nx_done ?_) | (refine nx_one rfl ?_) | (refine nx_alt rfl ?_ ?_) | (with_reducible refine nx_st ?_)) | ((with_reducible show evSx _ _ _ _ _ _); first | (with_reducible refine sx_done ?_) | (with_reducible refine sx_st ?_) | (with_reducible refine sx_op ?_)) | ((with_reducible show evTake _ _ _ _ _); with_reducible refine take_nil ?_) | ((with_reducible show evSy _ _ _ _ _ _ _); first | (with_reducible refine sy_done ?_) | (refine sy_last rfl ?_) | (refine sy_one (by decide) rfl ?_) | (refine sy_alt (by decide) rfl ?_ ?_) | (with_reducible refine sy_st ?_)) | ((with_reducible show StK _ _ _); first | (refine stk_letRow (letRow_go (t := 7) rfl rfl (by simp [bterms]) ?_) ; intro u1 Z1 hZ1 hD1 ; simp only [upd, List.set_cons_zero, Nat.reduceEqDiff, ↓reduceIte, eq_self]) | fail) | (with_reducible first | refine then_normal ?_ | refine then_ret ?_ | refine then_exit ?_ | refine block_normal ?_ | refine block_ret ?_) | ((with_reducible show blockQ _ _ _ _); first | refine block_exit ?_ | refine block_exit_ne rfl ?_) | ((with_reducible show AWP _ _ _ _ _); first | (refine AWP.region_sx (id := 10) [.st, .op, .op, .op, .op] ?_) | (with_reducible first | refine AWP.seq ?_ | refine AWP.block ?_ | refine AWP.region ?_ | refine AWP.ret ?_ | refine AWP.exit ?_ | refine AWP.skip ?_) | refine AWP.drawn rfl (by kernel_rfl) ?_ | refine AWP.cond rfl ?_ ?_) | with_reducible refine ev_nil ?_ | ((first | ((with_reducible show evNx _ _ _ _ _ _); refine nx_take rfl ?_; intro K hK) | ((with_reducible show Ax _ _ _ _ _); first | (refine ax_op rfl ?_; intro K hK)) | ((with_reducible show evTake _ _ _ _ _); refine take_step rfl ?_; intro K hK) | ((with_reducible show evSy _ _ _ _ _ _ _); refine sy_take rfl ?_; intro K hK) | ((with_reducible show AxB _ _ _ _ _); first | (refine axb_op rfl rfl ?_; intro K hK)) | ((with_reducible show evOps _ _ _ _ _ _); (first | refine ev_step rfl ?_ | refine ev_undef rfl rfl rfl ?_); intro K hK) | ((with_reducible show EvOpen _ _ _ _ _ _ _); refine ev_open ?_; intro K hK) | ((with_reducible show SkOpen _ _ _ _ _ _ _); refine sk_open ?_; intro K hK) | ((with_reducible show callK _ _ _ _ _ _ _ _); first  | (refine call_safe ( hnp) (Nat.le_of_ble_eq_true rfl) (by repeat' (first | ((with_reducible show evNx _ _ _ _ _ _); first | (with_reducible refine nx_done ?_) | (refine nx_one rfl ?_) | (refine nx_alt rfl ?_ ?_) | (with_reducible refine nx_st ?_)) | ((with_reducible show evSx _ _ _ _ _ _); first | (with_reducible refine sx_done ?_) | (with_reducible refine sx_st ?_) | (with_reducible refine sx_op ?_)) | ((with_reducible show evTake _ _ _ _ _); with_reducible refine take_nil ?_) | ((with_reducible show evSy _ _ _ _ _ _ _); first | (with_reducible refine sy_done ?_) | (refine sy_last rfl ?_) | (refine sy_one (by decide) rfl ?_) | (refine sy_alt (by decide) rfl ?_ ?_) | (with_reducible refine sy_st ?_)) | ((with_reducible show StK _ _ _); first | (refine stk_letRow (letRow_go (t := 7) rfl rfl (by simp [bterms]) ?_) ; intro u1 Z1 hZ1 hD1 ; simp only [eq_self]) | fail) | exact trivial | refine ⟨fun _ _ => ⟨_, rfl⟩, ?_⟩)) ?_) | (refine call_pure ( hput _ _) (Nat.le_of_ble_eq_true rfl) ?_))); simp only [evOp, evQ, binK, withS, opd, kput, putS, upd, lookup, argsK, bringIn, bring, Res.list, Res.slot, InK_i64, bterms, sz_termss, c_terms, List.getElem?_cons_zero, List.getElem?_cons_succ, List.reverse_cons, List.reverse_nil, List.nil_append, List.cons_append, List.length_nil, Nat.reduceEqDiff, Nat.reduceLT, Nat.mul_one, Nat.add_zero, ↓reduceIte, eq_self, true_and, Bool.not_true, Int.toNat_natCast]) | refine ev_guard rfl rfl rfl ?_ ?_ | ((with_reducible show retQ _ _ _ _); simp only [retQ, retOk, getL, lookup, Option.map_some, fitsL, fits, ND, srcs, Res.list, VE, Value.bool.injEq, Nat.reduceEqDiff, ↓reduceIte, and_true]) | (with_reducible refine hK _ ?_; clear hK K) | (with_reducible refine And.intro ?_ ?_) | (with_reducible intro hc; try simp only [decide_eq_true_eq, decide_eq_false_iff_not, Int.not_lt, reduceCtorEq] at hc) | omega)
        all_goals first
          | (exfalso; omega)
          | skip
        exact ⟨k + 1, ⟨by omega, upto_succ hall hok⟩, by omega, [], rfl, by decide, by simp [EntSR, SlR, VE, VE.rfl', lookup, sc], trivial⟩
    · obtain rfl : k = L.length := by omega
      have hb := nfB_yes h10 hall
      have hc := catX_len (fmL L) (fmL L).length
      rw [fmL_len] at hc
      rw [co_yes hb, ctd_yes (by rw [fmL_len]; omega), fmL_len]
      repeat' (first | (with_reducible first | refine then_normal ?_ | refine then_ret ?_ | refine then_exit ?_ | refine block_normal ?_ | refine block_ret ?_) | ((with_reducible show blockQ _ _ _ _); first | refine block_exit ?_ | refine block_exit_ne rfl ?_) | ((with_reducible show AWP _ _ _ _ _); first | (with_reducible first | refine AWP.seq ?_ | refine AWP.block ?_ | refine AWP.region ?_ | refine AWP.ret ?_ | refine AWP.exit ?_ | refine AWP.skip ?_) | refine AWP.drawn rfl (by kernel_rfl) ?_ | refine AWP.cond rfl ?_ ?_) | with_reducible refine ev_nil ?_ | ((first | ((with_reducible show evOps _ _ _ _ _ _); (first | refine ev_step rfl ?_ | refine ev_undef rfl rfl rfl ?_); intro K hK) | ((with_reducible show EvOpen _ _ _ _ _ _ _); refine ev_open ?_; intro K hK) | ((with_reducible show SkOpen _ _ _ _ _ _ _); refine sk_open ?_; intro K hK) | ((with_reducible show callK _ _ _ _ _ _ _ _); first | fail)); simp only [evOp, evQ, binK, withS, opd, kput, putS, upd, lookup, argsK, sz_termss, c_terms, List.reverse_cons, List.reverse_nil, List.nil_append, Nat.reduceEqDiff, Nat.reduceLT, Nat.mul_one, Nat.add_zero, ↓reduceIte, eq_self, true_and, Int.toNat_natCast]) | refine ev_guard rfl rfl rfl ?_ ?_ | ((with_reducible show retQ _ _ _ _); simp only [retQ, retOk, getL, lookup, Option.map_some, fitsL, fits, ND, srcs, Res.list, VE, Nat.reduceEqDiff, ↓reduceIte, and_true]) | (with_reducible refine hK _ ?_; clear hK K) | (with_reducible refine And.intro ?_ ?_) | (with_reducible intro hc; try simp only [decide_eq_true_eq, decide_eq_false_iff_not, Int.not_lt] at hc) | omega)
      all_goals first
        | (exfalso; omega)
        | exact VE.rfl' (termss _)
        | rfl
        | (simp [resV]; done)
        | trace_state
  · rw [co_no (nfB_long h10)]
    refine Fn.of_body Tryz.call6 Tryz.func6 rfl Tryz.ntmps6 (ts := [2, 3]) rfl (by simp) rfl (fun N => ?_)
    repeat' (first | (with_reducible first | refine then_normal ?_ | refine then_ret ?_ | refine then_exit ?_ | refine block_normal ?_ | refine block_ret ?_) | ((with_reducible show blockQ _ _ _ _); first | refine block_exit ?_ | refine block_exit_ne rfl ?_) | ((with_reducible show AWP _ _ _ _ _); first | (with_reducible first | refine AWP.seq ?_ | refine AWP.block ?_ | refine AWP.region ?_ | refine AWP.ret ?_ | refine AWP.exit ?_ | refine AWP.skip ?_) | refine AWP.drawn rfl (by kernel_rfl) ?_ | refine AWP.cond rfl ?_ ?_) | with_reducible refine ev_nil ?_ | ((first | ((with_reducible show evOps _ _ _ _ _ _); (first | refine ev_step rfl ?_ | refine ev_undef rfl rfl rfl ?_); intro K hK) | ((with_reducible show EvOpen _ _ _ _ _ _ _); refine ev_open ?_; intro K hK) | ((with_reducible show SkOpen _ _ _ _ _ _ _); refine sk_open ?_; intro K hK) | ((with_reducible show callK _ _ _ _ _ _ _ _); first | fail)); simp only [evOp, evQ, evB, binK, withS, opd, kput, putS, upd, lookup, slotsOf, sz_termss, Nat.reduceEqDiff, Nat.reduceLT, ↓reduceIte, eq_self, true_and, Option.isSome_some]) | refine ev_guard rfl rfl rfl ?_ ?_ | ((with_reducible show retQ _ _ _ _); simp only [retQ, retOk, getL, lookup, Option.map_some, fitsL, fits, ND, srcs, Res.list, VE, Nat.reduceEqDiff, ↓reduceIte, and_true]) | (with_reducible refine hK _ ?_; clear hK K) | (with_reducible refine And.intro ?_ ?_) | (with_reducible intro hc; try simp only [decide_eq_true_eq, decide_eq_false_iff_not, Int.not_lt, gt_iff_lt] at hc) | omega)
    all_goals first
      | (exfalso; omega)
      | rfl
      | (simp [resV]; done)
      | trace_state

theorem ts_two (A B : List (List T3)) {k q : Nat} (h : k < 2) (hq : q < (twoT A B k).length) : tsAt (A ++ B) (preT A B k + q) = tsAt (twoT A B k) q := by
  rcases (show k = 0 ∨ k = 1 by omega) with rfl | rfl
  · have hq : q < A.length := hq
    show tsAt (A ++ B) (0 + q) = tsAt A q
    rw [Nat.zero_add]
    simp only [tsAt]
    rw [List.getD, List.getElem?_append_left hq]; rfl
  · show tsAt (A ++ B) (A.length + q) = tsAt B q
    simp only [tsAt]
    rw [List.getD, List.getElem?_append_right (by omega), Nat.add_sub_cancel_left]; rfl

set_option maxHeartbeats 4000000 in
set_option maxRecDepth 20000 in
theorem specMerge_fn (A B : List (List T3)) (hA : A.length ≤ 1099511627776) (hB : B.length ≤ 1099511627776) (hrA : ∀ i, i < A.length → (tsAt A i).length ≤ 1099511627776) (hrB : ∀ i, i < B.length → (tsAt B i).length ≤ 1099511627776) : Fn Tryz.prog 14 [termss A, termss B] (.many [.pv (resV (mcR A B)), .pv (vb (mcR A B).2)]) := by
  have hga := ctGood_fn A hA hrA
  have hgb := ctGood_fn B hB hrB
  cases ha : ctB A with
  | false =>
    rw [mc_no1 ha]
    rw [ha] at hga
    refine Fn.of_body Tryz.call14 Tryz.func14 rfl Tryz.ntmps14 (ts := [4, 5]) rfl (by simp) rfl (fun N => ?_)
    repeat' (first | (with_reducible first | refine then_normal ?_ | refine then_ret ?_ | refine then_exit ?_ | refine block_normal ?_ | refine block_ret ?_) | ((with_reducible show blockQ _ _ _ _); first | refine block_exit ?_ | refine block_exit_ne rfl ?_) | ((with_reducible show AWP _ _ _ _ _); first | (with_reducible first | refine AWP.seq ?_ | refine AWP.block ?_ | refine AWP.region ?_ | refine AWP.ret ?_ | refine AWP.exit ?_ | refine AWP.skip ?_) | refine AWP.drawn rfl (by kernel_rfl) ?_ | refine AWP.cond rfl ?_ ?_) | with_reducible refine ev_nil ?_ | ((first | ((with_reducible show evOps _ _ _ _ _ _); (first | refine ev_step rfl ?_ | refine ev_undef rfl rfl rfl ?_); intro K hK) | ((with_reducible show EvOpen _ _ _ _ _ _ _); refine ev_open ?_; intro K hK) | ((with_reducible show SkOpen _ _ _ _ _ _ _); refine sk_open ?_; intro K hK) | ((with_reducible show callK _ _ _ _ _ _ _ _); first  | (refine call_scalar (hga) (Nat.le_of_ble_eq_true rfl) rfl ?_) | (refine call_scalar (hgb) (Nat.le_of_ble_eq_true rfl) rfl ?_))); simp only [evOp, evQ, withS, opd, kput, putS, upd, lookup, skipOp, argsK, bringIn, bring, Res.list, Res.slot, slotsOf, List.reverse_cons, List.reverse_nil, List.nil_append, Nat.reduceEqDiff, Nat.reduceLT, Nat.zero_add, ↓reduceIte, eq_self, true_and, and_true, Bool.not_false, Bool.true_eq_false, false_implies, forall_const]) | refine ev_guard rfl rfl rfl ?_ ?_ | ((with_reducible show retQ _ _ _ _); simp only [retQ, retOk, getL, lookup, Option.map_some, fitsL, fits, ND, srcs, Res.list, VE, Nat.reduceEqDiff, ↓reduceIte, and_true]) | (with_reducible refine hK _ ?_; clear hK K) | (with_reducible refine And.intro ?_ ?_) | (with_reducible intro hc; try simp only [Bool.not_false, Bool.true_eq_false] at hc) | omega)
    all_goals first
      | (exfalso; omega)
      | rfl
      | (simp [resV]; done)
      | trace_state
  | true =>
    cases hb : ctB B with
    | false =>
      rw [mc_no2 hb]
      rw [ha] at hga
      rw [hb] at hgb
      refine Fn.of_body Tryz.call14 Tryz.func14 rfl Tryz.ntmps14 (ts := [4, 5]) rfl (by simp) rfl (fun N => ?_)
      repeat' (first | (with_reducible first | refine then_normal ?_ | refine then_ret ?_ | refine then_exit ?_ | refine block_normal ?_ | refine block_ret ?_) | ((with_reducible show blockQ _ _ _ _); first | refine block_exit ?_ | refine block_exit_ne rfl ?_) | ((with_reducible show AWP _ _ _ _ _); first | (with_reducible first | refine AWP.seq ?_ | refine AWP.block ?_ | refine AWP.region ?_ | refine AWP.ret ?_ | refine AWP.exit ?_ | refine AWP.skip ?_) | refine AWP.drawn rfl (by kernel_rfl) ?_ | refine AWP.cond rfl ?_ ?_) | with_reducible refine ev_nil ?_ | ((first | ((with_reducible show evOps _ _ _ _ _ _); (first | refine ev_step rfl ?_ | refine ev_undef rfl rfl rfl ?_); intro K hK) | ((with_reducible show EvOpen _ _ _ _ _ _ _); refine ev_open ?_; intro K hK) | ((with_reducible show SkOpen _ _ _ _ _ _ _); refine sk_open ?_; intro K hK) | ((with_reducible show callK _ _ _ _ _ _ _ _); first  | (refine call_scalar (hga) (Nat.le_of_ble_eq_true rfl) rfl ?_) | (refine call_scalar (hgb) (Nat.le_of_ble_eq_true rfl) rfl ?_))); simp only [evOp, evQ, withS, opd, kput, putS, upd, lookup, argsK, bringIn, bring, Res.list, Res.slot, slotsOf, List.reverse_cons, List.reverse_nil, List.nil_append, Nat.reduceEqDiff, Nat.reduceLT, Nat.zero_add, ↓reduceIte, eq_self, true_and, Bool.not_true, Bool.not_false, Bool.false_eq_true, false_implies, forall_const]) | refine ev_guard rfl rfl rfl ?_ ?_ | ((with_reducible show retQ _ _ _ _); simp only [retQ, retOk, getL, lookup, Option.map_some, fitsL, fits, ND, srcs, Res.list, VE, Nat.reduceEqDiff, ↓reduceIte, and_true]) | (with_reducible refine hK _ ?_; clear hK K) | (with_reducible refine And.intro ?_ ?_) | (with_reducible intro hc; try simp only [Bool.not_false, reduceCtorEq, Bool.true_eq_false] at hc) | omega)
      all_goals first
        | (exfalso; omega)
        | rfl
        | (simp [resV]; done)
        | trace_state
    | true =>
      rw [mc_yes ha hb]
      rw [ha] at hga
      rw [hb] at hgb
      have hA10 := (ctB_is ha).1
      have hB10 := (ctB_is hb).1
      have hrow : ∀ i, i < (A ++ B).length → (tsAt (A ++ B) i).length ≤ 12 ∧ Sml (tsAt (A ++ B) i) := fun i hi => by
        rw [List.length_append] at hi
        by_cases h : i < A.length
        · have e : tsAt (A ++ B) i = tsAt A i := by simp only [tsAt]; rw [List.getD, List.getElem?_append_left h]; rfl
          rw [e]; exact (ct_row ha h).2
        · have e : tsAt (A ++ B) i = tsAt B (i - A.length) := by simp only [tsAt]; rw [List.getD, List.getElem?_append_right (by omega)]; rfl
          rw [e]; exact (ct_row hb (by omega)).2
      have hlab : (A ++ B).length = A.length + B.length := List.length_append
      have hpl := fun k => preT_le A B k
      have h2 : ∀ k, (twoT A B k).length ≤ 10 := fun k => by unfold twoT; split <;> assumption
      refine Fn.of_body Tryz.call14 Tryz.func14 rfl Tryz.ntmps14 (ts := [4, 5]) rfl (by simp) rfl (fun N => ?_)
      repeat' (first | (with_reducible first | refine then_normal ?_ | refine then_ret ?_ | refine then_exit ?_ | refine block_normal ?_ | refine block_ret ?_) | ((with_reducible show blockQ _ _ _ _); first | refine block_exit ?_ | refine block_exit_ne rfl ?_) | ((with_reducible show AWP _ _ _ _ _); first | (with_reducible first | refine AWP.seq ?_ | refine AWP.block ?_ | refine AWP.region ?_ | refine AWP.ret ?_ | refine AWP.exit ?_ | refine AWP.skip ?_) | refine AWP.drawn rfl (by kernel_rfl) ?_ | refine AWP.cond rfl ?_ ?_) | with_reducible refine ev_nil ?_ | ((first | ((with_reducible show evOps _ _ _ _ _ _); (first | refine ev_step rfl ?_ | refine ev_undef rfl rfl rfl ?_); intro K hK) | ((with_reducible show EvOpen _ _ _ _ _ _ _); refine ev_open ?_; intro K hK) | ((with_reducible show SkOpen _ _ _ _ _ _ _); refine sk_open ?_; intro K hK) | ((with_reducible show callK _ _ _ _ _ _ _ _); first  | (refine call_scalar (hga) (Nat.le_of_ble_eq_true rfl) rfl ?_) | (refine call_scalar (hgb) (Nat.le_of_ble_eq_true rfl) rfl ?_))); simp only [evOp, evQ, evB, withS, opd, kput, putS, upd, lookup, argsK, bringIn, bring, Res.list, Res.slot, slotsOf, frz, newBlk, partsK, buildSliceK, plSlice, V.one, sz_tss, ei_tss, ea_tss, List.reverse_cons, List.reverse_nil, List.nil_append, List.length_cons, List.length_nil, Nat.reduceEqDiff, Nat.reduceLT, Nat.reduceLeDiff, Nat.mul_one, Nat.zero_add, Nat.mod_one, List.getD_cons_zero, ↓reduceIte, eq_self, true_and, Bool.not_true, Bool.false_eq_true, false_implies, forall_const, Option.isSome_some]) | refine ev_guard rfl rfl rfl ?_ ?_ | ((with_reducible show retQ _ _ _ _); simp only [eq_self]) | (with_reducible refine hK _ ?_; clear hK K) | (with_reducible refine And.intro ?_ ?_) | (with_reducible intro hc; try simp only [Bool.not_false, reduceCtorEq] at hc) | omega)
      all_goals try (exfalso; omega; done)
      refine AWP.nilSeq 6 1 (fun i => terms (tsAt [] i)) rfl ?_
      refine AWP.loop_entR [0] (fun q : Nat => ⟨[(6, .one (.pv (termss (catX (A ++ B) (preT A B q))))), (21, .one (.own 0 1 0 2)), (22, sc (.int .i64 2)), (23, sc (.int .i64 q))], [some ⟨23, 2, fun i => termss (twoT A B i)⟩], 42⟩)
        (fun q => q ≤ 2) (fun q => 2 - q) 0 (by omega) ?_ ?_
      · refine ⟨rfl, by decide, by simp [EntSR, SlR, VE, VE.rfl', lookup, upd, sc, catX, preT], ⟨rfl, Nat.le_refl _, fun i hi => VE.of_eq ?_⟩, trivial⟩
        have hi : i < 2 := hi
        rcases (show i = 0 ∨ i = 1 by omega) with rfl | rfl <;> rfl
      intro q hq
      by_cases hq2 : q < 2
      · have h2q := h2 q
        have hps := preT_succ A B hq2
        have hpq := hpl (q + 1)
        repeat' (first | (with_reducible first | refine then_normal ?_ | refine then_ret ?_ | refine then_exit ?_ | refine block_normal ?_ | refine block_ret ?_) | ((with_reducible show blockQ _ _ _ _); first | refine block_exit ?_ | refine block_exit_ne rfl ?_) | ((with_reducible show AWP _ _ _ _ _); first | (with_reducible first | refine AWP.seq ?_ | refine AWP.block ?_ | refine AWP.region ?_ | refine AWP.ret ?_ | refine AWP.exit ?_ | refine AWP.skip ?_) | refine AWP.drawn rfl (by kernel_rfl) ?_ | refine AWP.cond rfl ?_ ?_) | with_reducible refine ev_nil ?_ | ((first | ((with_reducible show evOps _ _ _ _ _ _); (first | refine ev_step rfl ?_ | refine ev_undef rfl rfl rfl ?_); intro K hK) | ((with_reducible show EvOpen _ _ _ _ _ _ _); refine ev_open ?_; intro K hK) | ((with_reducible show SkOpen _ _ _ _ _ _ _); refine sk_open ?_; intro K hK) | ((with_reducible show callK _ _ _ _ _ _ _ _); first | fail)); simp only [evOp, evQ, evB, binK, withS, opd, kput, putS, upd, lookup, loadOwn, sz_termss, sz_tss, c_termss, List.getElem?_cons_zero, Nat.reduceEqDiff, Nat.reduceLT, Nat.mul_one, Nat.zero_add, ↓reduceIte, eq_self, true_and, Int.toNat_natCast, Option.isSome_some]) | refine ev_guard rfl rfl rfl ?_ ?_ | ((with_reducible show retQ _ _ _ _); simp only [retQ, retOk, getL, lookup, Option.map_some, fitsL, fits, ND, srcs, Res.list, VE, Value.bool.injEq, Nat.reduceEqDiff, ↓reduceIte, and_true]) | (with_reducible refine hK _ ?_; clear hK K) | (with_reducible refine And.intro ?_ ?_) | (with_reducible intro hc; try simp only [decide_eq_true_eq, decide_eq_false_iff_not, Int.not_lt, gt_iff_lt] at hc) | omega)
        all_goals try (exfalso; omega; done)
        refine AWP.loop_entR [0] (fun k : Nat => ⟨[(6, .one (.pv (termss (catX (A ++ B) (preT A B q + k))))), (21, .one (.own 0 1 0 2)), (22, sc (.int .i64 2)), (23, sc (.int .i64 q)), (27, .one (.pv (termss (twoT A B q)))), (28, sc (.int .i64 (twoT A B q).length)), (29, sc (.int .i64 k))], [some ⟨23, 2, fun i => termss (twoT A B i)⟩], 42⟩)
          (fun k => k ≤ (twoT A B q).length) (fun k => (twoT A B q).length - k) 0 (by omega) (by simp [EntR, EntSR, EntHR, SlR, VE, VE.rfl', lookup, BE, upd, sc]) ?_
        intro k hk
        by_cases hkl : k < (twoT A B q).length
        · have hts := ts_two A B hq2 hkl
          have hcl := catX_len (A ++ B) (preT A B q + k)
          have hput : Fn Tryz.prog 25 [termss (catX (A ++ B) (preT A B q + k)), terms (tsAt (twoT A B q) k)] (.one (.pv (termss (catX (A ++ B) (preT A B q + (k + 1)))))) := by
            have := ctPut_fn (catX (A ++ B) (preT A B q + k)) (tsAt (twoT A B q) k) (by omega) (catX_ok (by omega) hrow) (by rw [← hts]; exact (hrow _ (by omega)).1) (by rw [← hts]; exact (hrow _ (by omega)).2)
            have e3 : catX (A ++ B) (preT A B q + (k + 1)) = putX (catX (A ++ B) (preT A B q + k)) (tsAt (twoT A B q) k) := by show putX _ (tsAt (A ++ B) (preT A B q + k)) = _; rw [hts]; rfl
            rw [e3]; exact this
          generalize catX (A ++ B) (preT A B q + k) = M at *
          repeat' (first | (with_reducible first | refine then_normal ?_ | refine then_ret ?_ | refine then_exit ?_ | refine block_normal ?_ | refine block_ret ?_) | ((with_reducible show blockQ _ _ _ _); first | refine block_exit ?_ | refine block_exit_ne rfl ?_) | ((with_reducible show AWP _ _ _ _ _); first | (with_reducible first | refine AWP.seq ?_ | refine AWP.block ?_ | refine AWP.region ?_ | refine AWP.ret ?_ | refine AWP.exit ?_ | refine AWP.skip ?_) | refine AWP.drawn rfl (by kernel_rfl) ?_ | refine AWP.cond rfl ?_ ?_) | with_reducible refine ev_nil ?_ | ((first | ((with_reducible show evOps _ _ _ _ _ _); (first | refine ev_step rfl ?_ | refine ev_undef rfl rfl rfl ?_); intro K hK) | ((with_reducible show EvOpen _ _ _ _ _ _ _); refine ev_open ?_; intro K hK) | ((with_reducible show SkOpen _ _ _ _ _ _ _); refine sk_open ?_; intro K hK) | ((with_reducible show callK _ _ _ _ _ _ _ _); first  | (refine call_pure ( hput) (Nat.le_of_ble_eq_true rfl) ?_))); simp only [evOp, evQ, binK, withS, opd, kput, putS, upd, lookup, argsK, bringIn, bring, Res.list, Res.slot, InK_i64, sz_termss, c_terms, List.reverse_cons, List.reverse_nil, List.nil_append, List.cons_append, Nat.reduceEqDiff, Nat.reduceLT, Nat.mul_one, Nat.add_zero, ↓reduceIte, eq_self, true_and, Int.toNat_natCast]) | refine ev_guard rfl rfl rfl ?_ ?_ | ((with_reducible show retQ _ _ _ _); simp only [eq_self]) | (with_reducible refine hK _ ?_; clear hK K) | (with_reducible refine And.intro ?_ ?_) | (with_reducible intro hc; try simp only [decide_eq_true_eq, decide_eq_false_iff_not, Int.not_lt] at hc) | omega)
          all_goals first
            | (exfalso; omega)
            | (exact ⟨k + 1, by omega, by omega, [0], rfl, by decide, by simp [EntSR, SlR, VE, VE.rfl', lookup, sc], BE.rfl' _, trivial⟩)
            | trace_state
        · obtain rfl : k = (twoT A B q).length := by omega
          repeat' (first | (with_reducible first | refine then_normal ?_ | refine then_ret ?_ | refine then_exit ?_ | refine block_normal ?_ | refine block_ret ?_) | ((with_reducible show blockQ _ _ _ _); first | refine block_exit ?_ | refine block_exit_ne rfl ?_) | ((with_reducible show AWP _ _ _ _ _); first | (with_reducible first | refine AWP.seq ?_ | refine AWP.block ?_ | refine AWP.region ?_ | refine AWP.ret ?_ | refine AWP.exit ?_ | refine AWP.skip ?_) | refine AWP.drawn rfl (by kernel_rfl) ?_ | refine AWP.cond rfl ?_ ?_) | with_reducible refine ev_nil ?_ | ((first | ((with_reducible show evOps _ _ _ _ _ _); (first | refine ev_step rfl ?_ | refine ev_undef rfl rfl rfl ?_); intro K hK) | ((with_reducible show EvOpen _ _ _ _ _ _ _); refine ev_open ?_; intro K hK) | ((with_reducible show SkOpen _ _ _ _ _ _ _); refine sk_open ?_; intro K hK) | ((with_reducible show callK _ _ _ _ _ _ _ _); first | fail)); simp only [evOp, evQ, binK, withS, opd, kput, putS, upd, lookup, argsK, InK_i64, sz_termss, c_terms, List.reverse_cons, List.reverse_nil, List.nil_append, List.cons_append, Nat.reduceEqDiff, Nat.reduceLT, Nat.mul_one, Nat.add_zero, ↓reduceIte, eq_self, true_and, Int.toNat_natCast]) | refine ev_guard rfl rfl rfl ?_ ?_ | ((with_reducible show retQ _ _ _ _); simp only [eq_self]) | (with_reducible refine hK _ ?_; clear hK K) | (with_reducible refine And.intro ?_ ?_) | (with_reducible intro hc; try simp only [decide_eq_true_eq, decide_eq_false_iff_not, Int.not_lt] at hc) | omega)
          all_goals first
            | (exfalso; omega)
            | (exact ⟨q + 1, by omega, by omega, [0], rfl, by decide, by simp [EntSR, SlR, VE, VE.rfl', lookup, sc, hps], BE.rfl' _, trivial⟩)
            | trace_state
      · obtain rfl : q = 2 := by omega
        have p2 : preT A B 2 = (A ++ B).length := hlab.symm
        rw [p2]
        have hcl := catX_len (A ++ B) (A ++ B).length
        by_cases h10 : (catX (A ++ B) (A ++ B).length).length ≤ 10
        · rw [ctd_yes h10]
          generalize catX (A ++ B) (A ++ B).length = M at *
          repeat' (first | (with_reducible first | refine then_normal ?_ | refine then_ret ?_ | refine then_exit ?_ | refine block_normal ?_ | refine block_ret ?_) | ((with_reducible show blockQ _ _ _ _); first | refine block_exit ?_ | refine block_exit_ne rfl ?_) | ((with_reducible show AWP _ _ _ _ _); first | (with_reducible first | refine AWP.seq ?_ | refine AWP.block ?_ | refine AWP.region ?_ | refine AWP.ret ?_ | refine AWP.exit ?_ | refine AWP.skip ?_) | refine AWP.drawn rfl (by kernel_rfl) ?_ | refine AWP.cond rfl ?_ ?_) | with_reducible refine ev_nil ?_ | ((first | ((with_reducible show evOps _ _ _ _ _ _); (first | refine ev_step rfl ?_ | refine ev_undef rfl rfl rfl ?_); intro K hK) | ((with_reducible show EvOpen _ _ _ _ _ _ _); refine ev_open ?_; intro K hK) | ((with_reducible show SkOpen _ _ _ _ _ _ _); refine sk_open ?_; intro K hK) | ((with_reducible show callK _ _ _ _ _ _ _ _); first | fail)); simp only [evOp, evQ, evB, binK, withS, opd, kput, putS, upd, lookup, loadOwn, sz_termss, sz_tss, c_termss, List.getElem?_cons_zero, Nat.reduceEqDiff, Nat.reduceLT, Nat.mul_one, Nat.zero_add, ↓reduceIte, eq_self, true_and, Int.toNat_natCast, Option.isSome_some]) | refine ev_guard rfl rfl rfl ?_ ?_ | ((with_reducible show retQ _ _ _ _); simp only [retQ, retOk, getL, lookup, Option.map_some, fitsL, fits, ND, srcs, Res.list, VE, Value.bool.injEq, Nat.reduceEqDiff, ↓reduceIte, and_true]) | (with_reducible refine hK _ ?_; clear hK K) | (with_reducible refine And.intro ?_ ?_) | (with_reducible intro hc; try simp only [decide_eq_true_eq, decide_eq_false_iff_not, Int.not_lt, gt_iff_lt] at hc) | omega)
          all_goals first
            | (exfalso; omega)
            | exact VE.rfl' (termss _)
            | rfl
            | (simp [resV]; done)
            | trace_state
        · rw [ctd_no h10]
          generalize catX (A ++ B) (A ++ B).length = M at *
          repeat' (first | (with_reducible first | refine then_normal ?_ | refine then_ret ?_ | refine then_exit ?_ | refine block_normal ?_ | refine block_ret ?_) | ((with_reducible show blockQ _ _ _ _); first | refine block_exit ?_ | refine block_exit_ne rfl ?_) | ((with_reducible show AWP _ _ _ _ _); first | (with_reducible first | refine AWP.seq ?_ | refine AWP.block ?_ | refine AWP.region ?_ | refine AWP.ret ?_ | refine AWP.exit ?_ | refine AWP.skip ?_) | refine AWP.drawn rfl (by kernel_rfl) ?_ | refine AWP.cond rfl ?_ ?_) | with_reducible refine ev_nil ?_ | ((first | ((with_reducible show evOps _ _ _ _ _ _); (first | refine ev_step rfl ?_ | refine ev_undef rfl rfl rfl ?_); intro K hK) | ((with_reducible show EvOpen _ _ _ _ _ _ _); refine ev_open ?_; intro K hK) | ((with_reducible show SkOpen _ _ _ _ _ _ _); refine sk_open ?_; intro K hK) | ((with_reducible show callK _ _ _ _ _ _ _ _); first | fail)); simp only [evOp, evQ, evB, binK, withS, opd, kput, putS, upd, lookup, loadOwn, sz_termss, sz_tss, c_termss, List.getElem?_cons_zero, Nat.reduceEqDiff, Nat.reduceLT, Nat.mul_one, Nat.zero_add, ↓reduceIte, eq_self, true_and, Int.toNat_natCast, Option.isSome_some]) | refine ev_guard rfl rfl rfl ?_ ?_ | ((with_reducible show retQ _ _ _ _); simp only [retQ, retOk, getL, lookup, Option.map_some, fitsL, fits, ND, srcs, Res.list, VE, Value.bool.injEq, Nat.reduceEqDiff, ↓reduceIte, and_true]) | (with_reducible refine hK _ ?_; clear hK K) | (with_reducible refine And.intro ?_ ?_) | (with_reducible intro hc; try simp only [decide_eq_true_eq, decide_eq_false_iff_not, Int.not_lt, gt_iff_lt] at hc) | omega)
          all_goals first
            | (exfalso; omega)
            | rfl
            | (simp [resV]; done)
            | trace_state
end Go.Proofs.YteapdildbfimnaaGreatDoor
namespace Go.Proofs.YteapdildbfimnaaGreatDoor
set_option linter.unusedSimpArgs false
set_option linter.unusedVariables false
theorem resV_or (R : List (List T3) × Bool) (h : R.2 = false → R.1 = []) : resV R = termss R.1 ∨ (resV R = .val (.slice none 0 0) ∧ R.1 = []) := by
  unfold resV
  cases e : R.2 with
  | true => exact .inl rfl
  | false => exact .inr ⟨rfl, h e⟩
theorem co_none {L : List (List T3)} (h : (coR L).2 = false) : (coR L).1 = [] := by
  cases hb : nfB L with
  | false => rw [co_no hb]
  | true => unfold coR at h; rw [hb] at h; cases h
theorem ctd_none {L : List (List T3)} (h : (ctdR L).2 = false) : (ctdR L).1 = [] := by
  by_cases h10 : (catX L L.length).length ≤ 10
  · rw [ctd_yes h10] at h; cases h
  · rw [ctd_no h10]
theorem mc_none {A B : List (List T3)} (h : (mcR A B).2 = false) : (mcR A B).1 = [] := by
  cases ha : ctB A with
  | false => rw [mc_no1 ha]
  | true =>
    cases hb : ctB B with
    | false => rw [mc_no2 hb]
    | true => rw [mc_yes ha hb] at h ⊢; exact ctd_none h
theorem ctd_small {L : List (List T3)} (h : ∀ i, i < L.length → (tsAt L i).length ≤ 12) : (ctdR L).1.length ≤ 10 ∧ ∀ i, (tsAt (ctdR L).1 i).length ≤ 12 := by
  by_cases h10 : (catX L L.length).length ≤ 10
  · rw [ctd_yes h10]
    refine ⟨h10, fun i => ?_⟩
    show (tsAt (catX L L.length) i).length ≤ 12
    by_cases hi : i < (catX L L.length).length
    · obtain ⟨j, hj, e⟩ := (catX_mem L _ (Nat.le_refl _)).1 (ts_mem hi)
      rw [e]; exact h j hj
    · simp [tsAt, List.getD, List.getElem?_eq_none (Nat.le_of_not_lt hi)]
  · rw [ctd_no h10]
    exact ⟨by simp, fun i => by simp [tsAt]⟩
theorem co_small (L : List (List T3)) : (coR L).1.length ≤ 10 ∧ ∀ i, (tsAt (coR L).1 i).length ≤ 12 := by
  cases hb : nfB L with
  | false => rw [co_no hb]; exact ⟨by simp, fun i => by simp [tsAt]⟩
  | true =>
    rw [co_yes hb]
    refine ctd_small fun i hi => ?_
    rw [fmL_len] at hi
    rw [fmL_at hi]
    exact nf_len ((nfB_get hb).2 i hi)
theorem mc_small (A B : List (List T3)) : (mcR A B).1.length ≤ 10 ∧ ∀ i, (tsAt (mcR A B).1 i).length ≤ 12 := by
  cases ha : ctB A with
  | false => rw [mc_no1 ha]; exact ⟨by simp, fun i => by simp [tsAt]⟩
  | true =>
    cases hb : ctB B with
    | false => rw [mc_no2 hb]; exact ⟨by simp, fun i => by simp [tsAt]⟩
    | true =>
      rw [mc_yes ha hb]
      refine ctd_small fun i hi => ?_
      rw [List.length_append] at hi
      by_cases h : i < A.length
      · have e : tsAt (A ++ B) i = tsAt A i := by simp only [tsAt]; rw [List.getD, List.getElem?_append_left h]; rfl
        rw [e]; exact (ct_row ha h).2.1
      · have e : tsAt (A ++ B) i = tsAt B (i - A.length) := by simp only [tsAt]; rw [List.getD, List.getElem?_append_right (by omega)]; rfl
        rw [e]; exact (ct_row hb (by omega)).2.1
end Go.Proofs.YteapdildbfimnaaGreatDoor
namespace Go.Proofs.YteapdildbfimnaaGreatDoor
set_option linter.unusedSimpArgs false
set_option linter.unusedVariables false
open Go.RowKit

def isB (b : Nat) : Nat → Prop := fun j => j = b
theorem disj_cut {N b : Nat} : Disj (fun j => j < N ∧ j ≠ b) (isB b) := fun j h1 h2 => h1.2 h2
theorem disj_lt {N b : Nat} (h : N ≤ b) : Disj (fun j => j < N) (isB b) := fun j h1 h2 => by have h1 : j < N := h1; have h2 : j = b := h2; omega

/-- Two worlds that differ in block b alone. -/
structure RebB (b : Nat) (w w1 : World) : Prop where
  os : w1.os = w.os
  tape : w1.tape = w.tape
  output : w1.output = w.output
  size : w1.heap.size = w.heap.size
  oth : ∀ j, j ≠ b → w1.heap[j]? = w.heap[j]?

/-- Called with a pointer to the cursor in block b, which stands at k or before, and values that read as vs, f returns values that read as some r of R, all of it in new memory, and leaves the cursor at k' or before. -/
structure FnC (P : Program) (f : FuncId) (b k k' : Nat) (Z : Nat → Prop) (c : V) (vs : List V) (R : Res → Prop) : Prop where
  entry : ∀ (args : Array Value) (w : World), (callFunc f args).run P w = .ok (.enter f args) w
  runs : ∀ (w : World) (u : Value) (us : List Value), Rd w (fun _ => True) (.cur b k Z c) u → RdL w (fun j => j ≠ b) vs us → Calls P f (u :: us).toArray w fun e w' =>
    ∃ w1 r x φ, RebB b w w1 ∧ Rd w1 (fun _ => True) (.cur b k' Z c) u ∧ R r ∧ NewL (fun Z => ∀ j, Z j → w.heap.size ≤ j) r.list ∧ e = .returned x ∧ Heap w1 (fun _ => True) (bring r.list []).2 φ w' ∧ RdSlot w' (Stab w1 (fun _ => True) (bring r.list []).2 φ) φ (r.slot (bring r.list []).1) x

/-- What is wanted of a slot that goes on. -/
def okSl (b k : Nat) (Z : Nat → Prop) (c : V) : Slot → Prop
  | .one (.pv (.cur b0 k0 Z0 c0)) => b0 = b ∧ k0 = k ∧ Z0 = Z ∧ c0 = c
  | .one (.pv (.old Z0 _)) => Disj Z0 (isB b)
  | .one (.pv (.row _ Z0 sz n f)) => Disj Z0 (isB b) ∧ ∀ i, i < n * sz → Keeps (isB b) (f i)
  | .one (.pv (.grow _ Z0 _ sz n f)) => Disj Z0 (isB b) ∧ ∀ i, i < n * sz → Keeps (isB b) (f i)
  | .one (.pv (.agg n f)) => ∀ i, i < n → Keeps (isB b) (f i)
  | _ => True
/-- What a slot holds behind the call; none: not told. -/
def swSl (k' : Nat) : Slot → Option Slot
  | .one (.pv (.cur b0 _ Z0 c0)) => some (.one (.pv (.cur b0 k' Z0 c0)))
  | .one (.pv (.val v)) => some (.one (.pv (.val v)))
  | .one (.pv (.old Z v)) => some (.one (.pv (.old Z v)))
  | .one (.pv (.row u Z sz n f)) => some (.one (.pv (.row u Z sz n f)))
  | .one (.pv (.grow u Z e sz n f)) => some (.one (.pv (.grow u Z e sz n f)))
  | .one (.pv (.agg n f)) => some (.one (.pv (.agg n f)))
  | .one (.own i sz off len) => some (.one (.own i sz off len))
  | .one (.ptr i off) => some (.one (.ptr i off))
  | _ => none
def swpS (k' : Nat) : List (Nat × Slot) → List (Nat × Slot)
  | [] => []
  | (t, v) :: r => match swSl k' v with
    | some v' => (t, v') :: swpS k' r
    | none => swpS k' r
def okS (b k : Nat) (Z : Nat → Prop) (c : V) : List (Nat × Slot) → Prop
  | [] => True
  | (_, v) :: r => okSl b k Z c v ∧ okS b k Z c r
/-- No block's cells hang on the cursor. -/
def okH (b : Nat) : List (Option Blk) → Prop
  | [] => True
  | none :: r => okH b r
  | some x :: r => (∀ i, i < x.n → Keeps (isB b) (x.f i)) ∧ okH b r
/-- No slot is named twice. -/
def keysB : List (Nat × Slot) → Bool
  | [] => true
  | (t, _) :: r => r.all (fun p => p.1 != t) && keysB r

theorem lookup_none {σ : List (Nat × Slot)} {t : Nat} (h : σ.all (fun p => p.1 != t) = true) : lookup σ t = none := by
  induction σ with
  | nil => rfl
  | cons x r ih =>
    obtain ⟨k, v⟩ := x
    simp only [List.all_cons, Bool.and_eq_true, bne_iff_ne] at h
    simp only [lookup]
    rw [if_neg h.1]; exact ih h.2
theorem swp_keys {k' : Nat} {t : Nat} : ∀ {σ : List (Nat × Slot)}, σ.all (fun p => p.1 != t) = true → (swpS k' σ).all (fun p => p.1 != t) = true
  | [], _ => rfl
  | (i, v) :: r, h => by
    simp only [List.all_cons, Bool.and_eq_true] at h
    unfold swpS
    split
    · simp only [List.all_cons, Bool.and_eq_true]; exact ⟨h.1, swp_keys h.2⟩
    · exact swp_keys h.2
theorem swp_get {k' : Nat} {t : Nat} {v' : Slot} : ∀ {σ : List (Nat × Slot)}, keysB σ = true → lookup (swpS k' σ) t = some v' → ∃ v, lookup σ t = some v ∧ swSl k' v = some v'
  | [], _, h => by cases h
  | (i, v) :: r, hk, h => by
    simp only [keysB, Bool.and_eq_true] at hk
    simp only [lookup]
    unfold swpS at h
    by_cases e : i = t
    · subst e
      rw [if_pos rfl]
      split at h
      · rename_i v1 hv
        simp only [lookup, if_pos] at h
        exact ⟨v, rfl, by rw [hv]; exact h⟩
      · rw [lookup_none (swp_keys hk.1)] at h; cases h
    · rw [if_neg e]
      split at h
      · simp only [lookup] at h
        rw [if_neg e] at h
        exact swp_get hk.2 h
      · exact swp_get hk.2 h
theorem okS_get {b k : Nat} {Z : Nat → Prop} {c : V} {t : Nat} {v : Slot} : ∀ {σ : List (Nat × Slot)}, okS b k Z c σ → lookup σ t = some v → okSl b k Z c v
  | [], _, h => by cases h
  | (i, x) :: r, ho, h => by
    simp only [lookup] at h
    split at h
    · injection h with h; subst h; exact ho.1
    · exact okS_get ho.2 h
theorem okH_get {b : Nat} {x : Blk} : ∀ {h : List (Option Blk)} {id : Nat}, okH b h → h[id]? = some (some x) → ∀ i, i < x.n → Keeps (isB b) (x.f i)
  | [], id, _, hi => by simp at hi
  | none :: r, 0, _, hi => by simp at hi
  | none :: r, id + 1, ho, hi => okH_get (h := r) ho (by simpa using hi)
  | some y :: r, 0, ho, hi => by simp at hi; subst hi; exact ho.1
  | some y :: r, id + 1, ho, hi => okH_get (h := r) ho.2 (by simpa using hi)

section
variable {P : Program} {w0 : World} {S0 : Nat → Prop} {s : ASt} {φ : List (Option (Nat × Nat))} {a : Act} {w : World}

theorem only_of_reb {b : Nat} {w w1 : World} (h : RebB b w w1) (hw : Wr w1 b) : OnlyIn (isB b) w w1 :=
  ⟨h.os, h.tape, h.output, by rw [h.size]; exact Nat.le_refl _, fun j _ hj => h.oth j hj, fun j ⟨cur, e, hj⟩ => by
    by_cases e2 : j = b
    · subst e2; exact hw
    · exact ⟨cur, e, by rw [h.oth j e2]; exact hj⟩⟩

/-- The cursor has moved: its block is another one, the state is told of it. -/
theorem SimAt.moved [Cx] {N b k k' : Nat} {Z : Nat → Prop} {c : V} {w1 : World} {u0 : Value} (hN : w0.heap.size = N) (sim : SimAt w0 S0 s φ a w) (hcu : Rd w (Stab w0 S0 s.h φ) (.cur b k Z c) u0) (hst : Stab w0 S0 s.h φ b) (hX : Cx.X b ∨ N ≤ b) (hR : RebB b w w1) {u : Value} (hcur : Rd w1 (fun _ => True) (.cur b k' Z c) u)
    (hk : keysB s.σ = true) (hσ : okS b k Z c s.σ) (hh : okH b s.h) : ∃ w0', Reb w0 w0' ∧ SimAt w0' S0 ⟨swpS k' s.σ, s.h, s.nt⟩ φ a w1 := by
  obtain ⟨hu, _, hz, cur, cv, p, q, e, hc, h3, hp, hq, hr⟩ := hcur
  have hw : Wr w1 b := ⟨cur, e, hc⟩
  have ho := only_of_reb hR hw
  have hsz0 := sim.heap.below.size
  have hlt : b < w1.heap.size := block_lt hc
  obtain ⟨w0', hw0'⟩ : ∃ w0' : World, w0' = { w0 with heap := w0.heap.setIfInBounds b (.cells cur e (0, 0)) } := ⟨_, rfl⟩
  have hs : w0'.heap.size = w0.heap.size := by rw [hw0']; simp
  have hoth : ∀ j, j ≠ b → w0'.heap[j]? = w0.heap[j]? := fun j hj => by rw [hw0']; exact Array.getElem?_setIfInBounds_ne (fun h => hj h.symm)
  have hb0 : b < w0.heap.size → w0'.heap[b]? = some (.cells cur e (0, 0)) := fun h => by rw [hw0']; simp [h]
  have hstab : ∀ j, Stab w0 S0 s.h φ j → Stab w0' S0 s.h φ j := fun j hj => ⟨by rw [hs]; exact hj.1, hj.2⟩
  have keep : ∀ (v : V) (x : Value), Keeps (isB b) v → Rd w (Stab w0 S0 s.h φ) v x → Rd w1 (Stab w0' S0 s.h φ) v x := fun v x hv hx =>
    Rd.mono (S := Stab w0 S0 s.h φ) (fun j hj _ => ⟨hstab j hj, rfl⟩) _ _ (Keeps.rd ho v x hv hx)
  have hgl : Gl w0' := by
    obtain ⟨_, _, _, cur0, cv0, p0, q0, e0, hc0, h30, _⟩ := hcu
    exact Gl.other sim.defers.2 (fun h => by rw [← sim.heap.below.block b h]; exact hc0) h30.2.1 hoth
  refine ⟨w0', ⟨by rw [hw0'], by rw [hw0'], by rw [hw0'], by rw [hw0'], hs, fun j hj => ?_⟩, ⟨sim.heap.len, ⟨?_, ?_, ?_, ?_, fun j hj => ?_⟩, fun id blk hi => ?_, sim.heap.inj⟩, fun t v ht => ?_, ⟨sim.defers.1, hgl⟩, sim.size⟩
  · by_cases ej : j = b
    · subst ej
      have : N ≤ j := hX.resolve_left hj
      rw [Array.getElem?_eq_none (by omega), Array.getElem?_eq_none (by omega)]
    · exact hoth j ej
  · rw [hR.os, sim.heap.below.os, hw0']
  · rw [hR.tape, sim.heap.below.tape, hw0']
  · rw [hR.output, sim.heap.below.output, hw0']
  · rw [hR.size, hs]; exact hsz0
  · rw [hs] at hj
    by_cases ej : j = b
    · subst ej; rw [hc, hb0 hj]
    · rw [hR.oth j ej, hoth j ej]; exact sim.heap.below.block j hj
  · rcases sim.heap.blk id blk hi with h1 | ⟨b1, cu, h1, h2, h4, h5, h6⟩
    · exact .inl h1
    · have hne : b1 ≠ b := fun e1 => hst.2 ⟨id, blk, _, hi, e1 ▸ h1⟩
      refine .inr ⟨b1, cu, h1, by rw [hs]; exact h2, by rw [hR.oth b1 hne]; exact h4, h5, fun i hi' => ?_⟩
      obtain ⟨x, hx, hrx⟩ := h6 i hi'
      exact ⟨x, hx, keep _ _ (okH_get hh hi i hi') hrx⟩
  · obtain ⟨v0, h1, h2⟩ := swp_get hk ht
    have h4 := okS_get hσ h1
    obtain ⟨x, hx, hrx⟩ := sim.slots t v0 h1
    refine ⟨x, hx, ?_⟩
    unfold swSl at h2
    split at h2 <;> first | (injection h2 with h2; subst h2) | (cases h2)
    · obtain ⟨rfl, rfl, rfl, rfl⟩ := h4
      obtain ⟨g1, g2, g3, _⟩ := hrx
      refine ⟨g1, hstab _ g2, fun j hj => ⟨hstab j (g3 j hj).1, (hz j hj).2⟩, cur, cv, p, q, e, hc, h3, hp, hq, hr⟩
    · exact hrx
    · exact keep _ _ h4 hrx
    · exact keep _ _ h4 hrx
    · exact keep _ _ h4 hrx
    · exact keep _ _ h4 hrx
    · exact hrx
    · exact hrx

/-! ### Arguments beside the cursor -/
def argsC (b : Nat) (s : ASt) : List Operand → List V → (List V → Prop) → Prop
  | [], vs, K => K vs.reverse
  | x :: xs, vs, K =>
    match opd s x with
    | some (.one (.pv v)) => Keeps (isB b) v ∧ argsC b s xs (v :: vs) K
    | some (.one (.own id sz off len)) =>
      match s.h[id]? with
      | some (some blk) => off + len * sz ≤ blk.n ∧ argsC b s xs (.seq sz len (fun i => blk.f (off + i)) :: vs) K
      | _ => False
    | _ => False

theorem own_seqC {b : Nat} (sim : SimAt w0 S0 s φ a w) (hst : Stab w0 S0 s.h φ b) (hh : okH b s.h) {id sz off len : Nat} {blk : Blk} {u : Value} (hb : s.h[id]? = some (some blk)) (hl : off + len * sz ≤ blk.n)
    (h : RdS w (Stab w0 S0 s.h φ) φ (.own id sz off len) u) : Rd w (fun j => j ≠ b) (.seq sz len fun i => blk.f (off + i)) u := by
  rcases h with ⟨_, rfl, rfl, rfl⟩ | ⟨b', c, z, hφ, rfl, hc, _, _⟩
  · exact ⟨none, 0, rfl, Nat.le_refl _, fun h => by simp at h⟩
  · obtain ⟨cur, _, _, hcur, hn, hx⟩ := sim.blkAt hb hφ
    have hne : b' ≠ b := fun e => hst.2 ⟨id, blk, z, hb, e ▸ hφ⟩
    refine ⟨_, c, rfl, hc, fun hp => ⟨b', off, rfl, hne, fun i hi => ?_⟩⟩
    obtain ⟨x, hx1, hx2⟩ := hx (off + i) (by omega)
    exact ⟨x, cell_of_blk hcur hx1, Keeps.less (fun j _ hj => hj) _ _ (okH_get hh hb _ (by omega)) hx2⟩

theorem argsC_ok {b : Nat} (sim : SimAt w0 S0 s φ a w) (hst : Stab w0 S0 s.h φ b) (hh : okH b s.h) {K : List V → Prop} : ∀ (xs : List Operand) (vs : List V) (us : List Value), argsC b s xs vs K →
    RdL w (fun j => j ≠ b) vs.reverse us.reverse → ∃ vs', K vs' ∧ RdL w (fun j => j ≠ b) vs' (us.reverse ++ xs.map a.eval)
  | [], vs, us, h, h1 => ⟨_, h, by simpa using h1⟩
  | x :: xs, vs, us, h, h1 => by
    unfold argsC at h
    split at h
    · rename_i v hv
      have hr := Keeps.less (S' := fun j => j ≠ b) (fun j _ hj => hj) _ _ h.1 (sim.opd hv)
      obtain ⟨vs', hK, h3⟩ := argsC_ok sim hst hh xs (v :: vs) (a.eval x :: us) h.2 (by rw [List.reverse_cons, List.reverse_cons]; exact RdL.append _ _ _ _ h1 hr)
      exact ⟨vs', hK, by simpa using h3⟩
    · rename_i id sz off len hv
      split at h
      · rename_i blk hb
        have hr := own_seqC sim hst hh hb h.1 (sim.opd hv)
        obtain ⟨vs', hK, h3⟩ := argsC_ok sim hst hh xs (_ :: vs) (a.eval x :: us) h.2 (by rw [List.reverse_cons, List.reverse_cons]; exact RdL.append _ _ _ _ h1 hr)
        exact ⟨vs', hK, by simpa using h3⟩
      · exact h.elim
    · exact h.elim

/-- What stands behind such a call. -/
def callCK [Cx] (N : Nat) (P : Program) (f : FuncId) (args : List Operand) (d : Nat) (s : ASt) (K : ASt → Prop) : Prop :=
  match args with
  | [] => False
  | x :: xs =>
    match opd s x with
    | some (.one (.pv (.cur b k Z c))) => keysB s.σ = true ∧ okS b k Z c s.σ ∧ okH b s.h ∧ (Cx.X b ∨ N ≤ b) ∧ d < s.nt ∧ argsC b s xs [] fun vs => ∃ (k' : Nat) (R : Res → Prop), FnC P f b k k' Z c vs R ∧
        ∀ r, R r → NewL (fun Z => (∀ j, Z j → N ≤ j ∧ j ≠ b) ∧ ∀ Z', ZSt Z' ⟨swpS k' s.σ, s.h, s.nt⟩ → Disj Z' Z) r.list → K (bringIn ⟨swpS k' s.σ, s.h, s.nt⟩ d r)
    | _ => False

variable {N : Nat}
theorem callC_go [Cx] {f : FuncId} {x : Operand} {xs : List Operand} {d b k : Nat} {Z : Nat → Prop} {c : V} {vs : List V} {K : ASt → Prop} (hx : opd s x = some (.one (.pv (.cur b k Z c)))) (hk : keysB s.σ = true) (hd : Nat.ble (d + 1) s.nt = true) (hX : Cx.X b ∨ N ≤ b)
    (hσ : okS b k Z c s.σ) (hh : okH b s.h) (ha : ∀ K' : List V → Prop, K' vs → argsC b s xs [] K')
    (h : ∃ (k' : Nat) (R : Res → Prop), FnC P f b k k' Z c vs R ∧ ∀ r, R r → NewL (fun Z => (∀ j, Z j → N ≤ j ∧ j ≠ b) ∧ ∀ Z', ZSt Z' ⟨swpS k' s.σ, s.h, s.nt⟩ → Disj Z' Z) r.list → K (bringIn ⟨swpS k' s.σ, s.h, s.nt⟩ d r)) : callCK N P f (x :: xs) d s K := by
  show (match opd s x with | some (.one (.pv (.cur b k Z c))) => _ | _ => False)
  rw [hx]
  exact ⟨hk, hσ, hh, hX, Nat.le_of_ble_eq_true hd, ha _ h⟩

/-- An operation is done by whatever rule, its guard apart. -/
def OpA [Cx] (N : Nat) (P : Program) (K : ASt → Prop) (o : Oper) (s : ASt) : Prop :=
  ∀ (w0 : World) (S0 : Nat → Prop) (φ : List (Option (Nat × Nat))) (a : Act) (w : World), w0.heap.size = N → SimAt w0 S0 s φ a w → ∀ (next : Act → World → Prop) (Q : Exit → Act → World → Prop),
    (∀ s' a' w', K s' → SimR w0 S0 s' a' w' → next a' w') → o.wp P a w next Q
theorem axg_op [Cx] {K : ASt → Prop} {o : Oper} {s : ASt} (h : ∀ K' : ASt → Prop, (∀ s', K s' → K' s') → evOp P false o K' s) : OpA N P K o s :=
  fun w0 S0 φ a w hN sim next Q hn => evOp_plain sim (h _ fun _ h => h) fun s' a' w' hK hs => hn s' a' w' hK hs.R
theorem axg_callC [Cx] {K : ASt → Prop} {f : FuncId} {args : Array Operand} {d ty : Nat} {ts : Array TypeId} {pos : String} {after : Array Edge} {gd : Option (Nat × Bool)} (h : callCK N P f args.toList d s K) : OpA N P K ⟨some d, .call ⟨.value (.func f), args, ts⟩, ty, pos, after, gd⟩ s := by
  refine fun w0 S0 φ a w hN sim next Q hn => ?_
  unfold callCK at h
  split at h
  · exact h.elim
  · rename_i x xs hargs
    split at h
    · rename_i b k Z c hx
      obtain ⟨hk, hσ, hh, hX, hd, ha⟩ := h
      have hcu := sim.opd hx
      have hst : Stab w0 S0 s.h φ b := hcu.2.1
      have hblt : b < w.heap.size := by obtain ⟨_, _, _, cur, cv, p, q, e, hc, _⟩ := hcu; exact block_lt hc
      obtain ⟨vs, ⟨k', R, hf, hK⟩, hrl⟩ := argsC_ok sim hst hh xs [] [] ha sim.gl
      simp only [List.reverse_nil, List.nil_append] at hrl
      have hrun : (execOp a.eval ⟨some d, .call ⟨.value (.func f), args, ts⟩, ty, pos, after, gd⟩).run P w = .ok (.enter f (a.eval x :: xs.map a.eval).toArray) w := by
        have e : execOp a.eval ⟨some d, .call ⟨.value (.func f), args, ts⟩, ty, pos, after, gd⟩ = callFunc f (#[] ++ args.map a.eval ++ #[]) := rfl
        rw [e, hf.1]
        congr 2
        rw [← Array.toList_inj]
        simp [hargs]
      unfold Oper.wp
      rw [hrun, Oper.upon_enter]
      have hcu' : Rd w (fun _ => True) (.cur b k Z c) (a.eval x) := Rd.mono (fun j _ _ => ⟨trivial, rfl⟩) _ _ hcu
      refine (hf.2 w _ _ hcu' hrl).mono ?_
      rintro e w' ⟨w1, r, u, ψ, hR, hcur, hr, hnew, rfl, hheap, hs⟩
      obtain ⟨w0', hR0, sim1⟩ := sim.moved hN hcu hst hX hR hcur hk hσ hh
      have hw := sim1.heap.below.size
      have hsz := hR.size
      have hs0 := hR0.size
      refine hn _ _ _ (hK r hr (NewL.mono (fun Z1 hZ => ⟨fun j hj => ⟨by have := hZ j hj; omega, fun e => by have := hZ j hj; omega⟩, fun Z' hZ' j hj hj' => ?_⟩) _ hnew)) ⟨w0', hR0, _, sim1.call_new hd (NewL.mono (fun Z1 hZ j hj => by rw [hsz]; exact hZ j hj) _ hnew) hheap hs⟩
      have h1 := (hZ'.there sim1 j hj).2
      have h2 := hZ j hj'
      omega
    · exact h.elim

theorem ax_callC [Cx] {K : ASt → Prop} {f : FuncId} {args : Array Operand} {d ty : Nat} {ts : Array TypeId} {pos : String} {after : Array Edge} (h : callCK N P f args.toList d s K) : Ax N P K ⟨some d, .call ⟨.value (.func f), args, ts⟩, ty, pos, after, none⟩ s := ⟨rfl, axg_callC h⟩

/-! ### A region in its own order, guards and all -/
def evGx [Cx] (N : Nat) (P : Program) (l : List Oper) : List Oper → (ASt → Prop) → ASt → Prop
  | [], K, s => K s
  | o :: os, K, s =>
    match o.guard with
    | none => OpA N P (evGx N P l os K) o s
    | some (j, want) =>
      match (l[j]?).bind (·.dst) with
      | some d =>
        match lookup s.σ d with
        | some (.one (.pv (.val (.bool b)))) =>
          (b = want → OpA N P (evGx N P l os K) o (putS s d (sc (.bool want)))) ∧
          (b = !want → skipOp o (evGx N P l os K) (putS s d (sc (.bool (!want)))))
        | some (.one (.pv (.val (.tuple _)))) => skipOp o (evGx N P l os K) s
        | _ => False
      | none => False
theorem gx_nil [Cx] {l : List Oper} {K : ASt → Prop} (h : K s) : evGx N P l [] K s := h
theorem gx_step [Cx] {l os : List Oper} {o : Oper} {K : ASt → Prop} (hg : o.guard = none) (h : OpA N P (evGx N P l os K) o s) : evGx N P l (o :: os) K s := by
  unfold evGx; rw [hg]; exact h
theorem gx_undef [Cx] {l os : List Oper} {o : Oper} {K : ASt → Prop} {j d : Nat} {want : Bool} {us : Array Value} (hg : o.guard = some (j, want)) (hd : (l[j]?).bind (·.dst) = some d) (hb : lookup s.σ d = some (sc (.tuple us))) (h : skipOp o (evGx N P l os K) s) : evGx N P l (o :: os) K s := by
  unfold evGx; rw [hg]; simp only []; rw [hd]; simp only []; rw [hb]; exact h
theorem gx_guard [Cx] {l os : List Oper} {o : Oper} {K : ASt → Prop} {j d : Nat} {want b : Bool} (hg : o.guard = some (j, want)) (hd : (l[j]?).bind (·.dst) = some d) (hb : lookup s.σ d = some (sc (.bool b)))
    (h1 : b = want → OpA N P (evGx N P l os K) o (putS s d (sc (.bool want)))) (h2 : b = !want → skipOp o (evGx N P l os K) (putS s d (sc (.bool (!want))))) : evGx N P l (o :: os) K s := by
  unfold evGx; rw [hg]; simp only []; rw [hd]; simp only []; rw [hb]
  exact ⟨h1, h2⟩
theorem sk_put [Cx] {l os : List Oper} {o : Oper} {K : ASt → Prop} {d : Nat} (hd : o.dst = some d) (hlt : Nat.ble (d + 1) s.nt = true) (h : evGx N P l os K (putS s d (sc undef))) : skipOp o (evGx N P l os K) s := by
  unfold skipOp; rw [hd]; exact ⟨Nat.le_of_ble_eq_true hlt, h⟩

theorem evGx_ok [Cx] {wb : World} {l : List Oper} : ∀ (os : List Oper) (w0 : World) {K : ASt → Prop} {s : ASt} {φ : List (Option (Nat × Nat))} {a : Act} {w : World}, w0.heap.size = N → Reb wb w0 → SimAt w0 S0 s φ a w → evGx N P l os K s → wpList P l.toArray (EndsR wb S0 K) os a w
  | [], w0, K, s, φ, a, w, hN, hR, sim, h => wpList_nil ⟨rfl, s, h, w0, hR, φ, sim⟩
  | o :: os, w0, K, s, φ, a, w, hN, hR, sim, h => by
    have hrest : ∀ s' a' w', evGx N P l os K s' → SimR w0 S0 s' a' w' → wpList P l.toArray (EndsR wb S0 K) os a' w' := fun s' a' w' h' ⟨w1, hR1, φ', sim'⟩ => evGx_ok os w1 (hR1.size.trans hN) (hR.trans hR1) sim' h'
    have hskip : ∀ s', SimAt w0 S0 s' φ a w → skipOp o (evGx N P l os K) s' → wpList P l.toArray (EndsR wb S0 K) os (a.put o.dst undef) w := fun s' sim' h' => by
      unfold skipOp at h'
      split at h'
      · rename_i d hd
        rw [hd]
        exact hrest _ _ _ h'.2 (Sim.R ⟨φ, sim'.put h'.1 rfl⟩)
      · rename_i hd
        rw [hd]
        exact hrest _ _ _ h' (Sim.R ⟨φ, sim'⟩)
    unfold evGx at h
    split at h
    · rename_i hg
      unfold wpList
      rw [if_pos (by simp [Region.wanted, hg])]
      exact .inl (h w0 S0 φ a w hN sim _ _ hrest)
    · rename_i j want hg
      split at h
      · rename_i d hd
        split at h
        · rename_i b hb
          have hy := yielded_bool sim hd hb
          have say : ∀ c, b = c → SimAt w0 S0 (putS s d (sc (.bool c))) φ a w := fun c e => sim.say (by rw [hb, e])
          unfold wpList
          by_cases hbw : b = want
          · rw [if_pos (by simp [Region.wanted, hg, hy, hbw])]
            exact .inl (h.1 hbw w0 S0 φ a w hN (say _ hbw) _ _ hrest)
          · rw [if_neg (by simp [Region.wanted, hg, hy, hbw])]
            have hb' : b = !want := by cases b <;> cases want <;> simp_all
            exact hskip _ (say _ hb') (h.2 hb')
        · rename_i x hb
          have hy := yielded_bool sim hd hb
          unfold wpList
          rw [if_neg (by simp [Region.wanted, hg, hy])]
          exact hskip _ sim h
        · exact h.elim
      · exact h.elim
theorem AWP.region_gx [Cx] {id : Nat} {ops : List Oper} {Q : Exit → ASt → Prop} (h : evGx N P ops ops (Q .normal) s) : AWP N P (.region id ops.toArray false) Q s := by
  rintro wb S0 a w hN ⟨w0, hR, φ, sim⟩
  refine wp_mono (wp_region_lit (evGx_ok ops w0 (hR.size.trans hN) hR sim h)) fun e a' w' ⟨he, s', hK, hsim⟩ => ?_
  subst he
  exact ⟨s', hK, hsim⟩

/-! ### Sums that may wrap -/
theorem axg_add [Cx] {K : ASt → Prop} {t t' : TypeId} {x y : Operand} {d ty : Nat} {pos : String} {after : Array Edge} {gd : Option (Nat × Bool)} {m n : Int} (hx : opd s x = some (sc (.int .i64 m))) (hy : opd s y = some (sc (.int .i64 n))) (hd : Nat.ble (d + 1) s.nt = true) (h : K (putS s d (sc (.int .i64 (IntKind.i64.wrap (m + n)))))) :
    OpA N P K ⟨some d, .binOp .add t x y t', ty, pos, after, gd⟩ s := by
  refine fun w0 S0 φ a w hN sim next Q hn => ?_
  have ex := val_of sim hx
  have ey := val_of sim hy
  have hrun : (execOp a.eval ⟨some d, .binOp .add t x y t', ty, pos, after, gd⟩).run P w = .ok (.value (.int .i64 (IntKind.i64.wrap (m + n)))) w := by
    simp only [execOp, ex, ey]; simp [go_sem]
  unfold Oper.wp
  rw [hrun, Oper.upon_value]
  exact hn _ _ _ h (Sim.R ⟨φ, sim.put (Nat.le_of_ble_eq_true hd) rfl⟩)
theorem axg_sub [Cx] {K : ASt → Prop} {t t' : TypeId} {x y : Operand} {d ty : Nat} {pos : String} {after : Array Edge} {gd : Option (Nat × Bool)} {m n : Int} (hx : opd s x = some (sc (.int .i64 m))) (hy : opd s y = some (sc (.int .i64 n))) (hd : Nat.ble (d + 1) s.nt = true) (h : K (putS s d (sc (.int .i64 (IntKind.i64.wrap (m - n)))))) :
    OpA N P K ⟨some d, .binOp .sub t x y t', ty, pos, after, gd⟩ s := by
  refine fun w0 S0 φ a w hN sim next Q hn => ?_
  have ex := val_of sim hx
  have ey := val_of sim hy
  have hrun : (execOp a.eval ⟨some d, .binOp .sub t x y t', ty, pos, after, gd⟩).run P w = .ok (.value (.int .i64 (IntKind.i64.wrap (m - n)))) w := by
    simp only [execOp, ex, ey]; simp [go_sem]
  unfold Oper.wp
  rw [hrun, Oper.upon_value]
  exact hn _ _ _ h (Sim.R ⟨φ, sim.put (Nat.le_of_ble_eq_true hd) rfl⟩)

/-! ### A body that moves the cursor -/
/-- Values that come in, as lying in old memory, the cursor's block left out. -/
def oldC (N b : Nat) : V → V
  | .seq sz n f => .old (fun j => j < N ∧ j ≠ b) (.seq sz n f)
  | .agg n f => .agg n fun i => oldC N b (f i)
  | v => v
theorem oldC_rd {b : Nat} {w : World} : ∀ (v : V) (u : Value), Rd w (fun j => j ≠ b) v u → Rd w (fun _ => True) (oldC w.heap.size b v) u
  | .seq sz n f, u, h => ⟨fun j hj => ⟨trivial, hj.1⟩, Rd.mono (S' := fun j => j < w.heap.size ∧ j ≠ b) (fun j hj hlt => ⟨⟨hlt, hj⟩, rfl⟩) _ _ h⟩
  | .agg n f, u, h => by
    obtain ⟨cs, hu, hn, h⟩ := h
    refine ⟨cs, hu, hn, fun i hi => ?_⟩
    obtain ⟨x, hx, hr⟩ := h i hi
    exact ⟨x, hx, oldC_rd (f i) x hr⟩
  | .val _, _, h => h
  | .pin n f, u, h => Rd.mono (S := fun j => j ≠ b) (fun _ _ _ => ⟨trivial, rfl⟩) _ _ h
  | .clo g n f, u, h => Rd.mono (S := fun j => j ≠ b) (fun _ _ _ => ⟨trivial, rfl⟩) _ _ h
  | .old Z v, u, h => Rd.mono (S := fun j => j ≠ b) (fun _ _ _ => ⟨trivial, rfl⟩) _ _ h
  | .row u0 Z sz n f, u, h => Rd.mono (S := fun j => j ≠ b) (fun _ _ _ => ⟨trivial, rfl⟩) _ _ h
  | .grow u0 Z e sz n f, u, h => Rd.mono (S := fun j => j ≠ b) (fun _ _ _ => ⟨trivial, rfl⟩) _ _ h
  | .cur b0 k Z c, u, h => Rd.mono (S := fun j => j ≠ b) (fun _ _ _ => ⟨trivial, rfl⟩) _ _ h
theorem oldCL_rd {b : Nat} {w : World} : ∀ (vs : List V) (us : List Value), RdL w (fun j => j ≠ b) vs us → RdL w (fun _ => True) (vs.map (oldC w.heap.size b)) us
  | [], [], h => h
  | [], _ :: _, h => h.elim
  | _ :: _, [], h => h.elim
  | v :: vs, u :: us, h => ⟨oldC_rd v u h.1, oldCL_rd vs us h.2⟩

/-- Results, and the cursor where it should be. -/
def retC (ts : List Nat) (N : Nat) (R : Res → Prop) (b k' : Nat) (Z : Nat → Prop) (c : V) : Exit → ASt → Prop
  | .normal, s => (∃ j, lookup s.σ 0 = some (.one (.pv (.cur b j Z c))) ∧ j ≤ k') ∧ ∃ r, R r ∧ NewL (fun Z => ∀ j, Z j → N ≤ j) r.list ∧ retOk ts r s
  | .ret, s => (∃ j, lookup s.σ 0 = some (.one (.pv (.cur b j Z c))) ∧ j ≤ k') ∧ ∃ r, R r ∧ NewL (fun Z => ∀ j, Z j → N ≤ j) r.list ∧ retOk ts r s
  | _, _ => False

theorem FnC.of_body {f : FuncId} {fn : Func} {cd : Code} {nt b k k' : Nat} {Z : Nat → Prop} {c : V} {ts : List Nat} {vs : List V} {R : Res → Prop}
    (hcall : ∀ (args : Array Value) (w : World), (callFunc f args).run P w = .ok (.enter f args) w) (hf : P.funcs[f]? = some fn) (hb : fn.body = some cd) (hnt : fn.ntmps = nt)
    (hres : fn.results = (ts.map ResultVar.tmp).toArray) (hlen : vs.length + 1 ≤ nt) (hshape : ∀ r, R r → r.shape ts.length = true)
    (h : ∀ (N : Nat) (cx : Cx), cx.X = isB b → b < N → @AWP cx N P cd (retC ts N R b k' Z c) ⟨slotsOf 0 (.cur b k Z c :: vs.map (oldC N b)), [], nt⟩) : FnC P f b k k' Z c vs R := by
  refine ⟨hcall, fun w u us hu hus => calls_of_wp hf hb ?_⟩
  have hu' := hu
  obtain ⟨hu0, _, hz, cur, cv, p, q, e, hc, _⟩ := hu'
  have hblt : b < w.heap.size := block_lt hc
  have sim := body_start (w := w) (fn := fn) (vs := .cur b k Z c :: vs.map (oldC w.heap.size b)) (us := u :: us) hnt (by simpa using hlen) ⟨hu, oldCL_rd vs us hus⟩
  refine wp_mono (h _ ⟨isB b⟩ rfl hblt w _ _ w rfl ⟨w, @Reb.refl ⟨isB b⟩ _, [], sim⟩) fun e a' w' ⟨s', hq, w1, hR, φ, sim'⟩ => ?_
  obtain ⟨r1, r2, r3, r4, r5, r6⟩ := hR
  have hRB : RebB b w w1 := ⟨r1, r2, r3, r5, fun j hj => r6 j hj⟩
  have fin : ((∃ j, lookup s'.σ 0 = some (.one (.pv (.cur b j Z c))) ∧ j ≤ k') ∧ ∃ r, R r ∧ NewL (fun Z => ∀ j, Z j → w.heap.size ≤ j) r.list ∧ retOk ts r s') → a'.defers = [] ∧ ∃ v, (results fn a'.tmps).run P w' = .ok v w' ∧
      ∃ w1 r x φ, RebB b w w1 ∧ Rd w1 (fun _ => True) (.cur b k' Z c) u ∧ R r ∧ NewL (fun Z => ∀ j, Z j → w.heap.size ≤ j) r.list ∧ Ending.returned v = .returned x ∧ Heap w1 (fun _ => True) (bring r.list []).2 φ w' ∧ RdSlot w' (Stab w1 (fun _ => True) (bring r.list []).2 φ) φ (r.slot (bring r.list []).1) x := by
    rintro ⟨⟨j, hj, hjk⟩, r, hRr, hnew, hq⟩
    obtain ⟨u1, _, hr1⟩ := sim'.slots 0 _ hj
    obtain ⟨_, _, hz1, cur1, cv1, p1, q1, e1, hc1, h31, hp1, hq1, hrd1⟩ := hr1
    have hbel := sim'.heap.below
    have hs1 := hRB.size
    have hcur1 : Rd w1 (fun _ => True) (.cur b k' Z c) u := by
      refine ⟨hu0, trivial, fun i hi => ⟨trivial, by rw [hs1]; exact (hz i hi).2.1, (hz i hi).2.2⟩, cur1, cv1, p1, q1, e1, ?_, h31, ⟨hp1.1, by omega⟩, hq1, ?_⟩
      · rw [← hbel.block b (by omega)]; exact hc1
      · exact Rd.mono (S' := Z) (fun i hi _ => ⟨hi, (hbel.block i (by rw [hs1]; exact (hz i hi).2.1)).symm⟩) _ _ hrd1
    unfold retOk at hq
    split at hq
    · rename_i vs' hvs
      obtain ⟨hfit, hnd⟩ := hq
      have hrd := getL_rd sim' ts vs' hvs
      obtain ⟨hh, hst⟩ := sim'.results_heap hfit hnd
      have hsl := results_slots hst vs' r.list _ [] [] rfl hfit hrd
      have eb : (bring r.list []).2 = (blksOf r.list).map some := by rw [bring_blks]; rfl
      refine ⟨sim'.defers.1, _, run_results hres _ _, w1, r, _, _, hRB, hcur1, hRr, hnew, rfl, by rw [eb]; exact hh, ?_⟩
      rw [eb]
      simp only [List.nil_append] at hsl
      have hshape := hshape r hRr
      cases r with
      | one r =>
        have h1 : ts.length = 1 := by simpa [Res.shape] using hshape
        rw [if_pos h1]
        match ts, h1 with
        | [t], _ => cases r <;> exact hsl.1
      | many l =>
        have h1 : ts.length ≠ 1 := by simpa [Res.shape] using hshape
        rw [if_neg h1]
        exact ⟨_, rfl, hsl⟩
    · exact hq.elim
  cases e with
  | normal => exact fin hq
  | ret => exact fin hq
  | _ => exact hq.elim

/-! ### A cursor of the call's own -/
def letCurK (N : Nat) (t : Nat) (s : ASt) (K : ASt → Prop) : Prop :=
  ∃ (id : Nat) (blk : Blk) (Z : Nat → Prop) (c : V), lookup s.σ t = some (.one (.ptr id 0)) ∧ s.h[id]? = some (some blk) ∧ 3 ≤ blk.n ∧ blk.f 0 = .old Z c ∧ blk.f 1 = .val (.int .i64 0) ∧ blk.f 2 = .val (.int .u64 0) ∧ (∀ j, Z j → j < N) ∧
    ∀ b, N ≤ b → (∀ Z', ZSt Z' s → ¬ Z' b) → K ⟨upd s.σ t (.one (.pv (.cur b 0 Z c))), s.h.set id none, s.nt⟩

theorem AWP.letCur [Cx] {cd : Code} {Q : Exit → ASt → Prop} (t : Nat) (h : letCurK N t s (AWP N P cd Q)) : AWP N P cd Q s := by
  refine AWP.of_step fun w0 S0 φ a w hN sim => ?_
  obtain ⟨id, blk, Z, c, ht, hb, hn, h0, h1, h2, hZ, h⟩ := h
  obtain ⟨sv, hst⟩ := sim.letgo id
  obtain ⟨u, hu, b, z, hφ, rfl⟩ := sim.slots t _ ht
  obtain ⟨cur, _, hB, hcur, hnc, hx⟩ := sim.blkAt hb hφ
  refine ⟨_, φ, h b (by omega) (fun Z' hZ' hz => (hZ'.there sim b hz).1.2 ⟨id, blk, _, hb, hφ⟩), ⟨sv.heap, fun t' v hv => ?_, sv.defers, sv.size⟩⟩
  rw [lookup_upd] at hv
  split at hv
  · rename_i et; subst et; injection hv with hv; subst hv
    refine ⟨_, hu, ?_⟩
    obtain ⟨x0, hx0, hr0⟩ := hx 0 (by omega)
    obtain ⟨x1, hx1, hr1⟩ := hx 1 (by omega)
    obtain ⟨x2, hx2, hr2⟩ := hx 2 (by omega)
    rw [h0] at hr0; rw [h1] at hr1; rw [h2] at hr2
    have hr1 : x1 = .int .i64 0 := hr1
    have hr2 : x2 = .int .u64 0 := hr2
    subst hr1 hr2
    have hlive : Live s.h φ b := ⟨id, blk, _, hb, hφ⟩
    refine ⟨rfl, ⟨.inr hB, ?_⟩, fun j hj => ⟨hst j (hr0.1 j hj).1, (hr0.1 j hj).2, fun e => (hr0.1 j hj).1.2 (e ▸ hlive)⟩, cur, x0, 0, 0, blk.elem, hcur, ⟨hx0, hx1, hx2⟩, ⟨by omega, by omega⟩, ⟨by omega, by omega⟩, hr0.2⟩
    rintro ⟨i, x, z', g1, g2⟩
    by_cases ei : id = i
    · subst ei
      have := (List.getElem?_eq_some_iff.1 hb).1
      simp [this] at g1
    · rw [List.getElem?_set_ne ei] at g1
      exact ei (sim.heap.inj id i blk x b _ _ hb g1 hφ g2)
  · exact sv.slots t' v hv
end

open Go.RowKit Go.Proofs
set_option linter.unusedSimpArgs false
set_option linter.unusedVariables false

variable {P : Program} {w0 : World} {S0 : Nat → Prop} {s : ASt} {φ : List (Option (Nat × Nat))} {a : Act} {w : World} {N : Nat}

theorem set_some {h : List (Option Blk)} {id id' : Nat} {blk blk' b : Blk} (hb : h[id]? = some (some blk)) (hi : (h.set id (some b))[id']? = some (some blk')) : ∃ b0, h[id']? = some (some b0) := by
  rw [List.getElem?_set] at hi
  split at hi
  · rename_i e; subst e; exact ⟨blk, hb⟩
  · exact ⟨blk', hi⟩

theorem SimAt.bare (sim : SimAt w0 S0 s φ a w) {id : Nat} {blk : Blk} {g : Nat → V} (hb : s.h[id]? = some (some blk)) (hg : ∀ i, i < blk.n → Bare (blk.f i) (g i)) : SimAt w0 S0 ⟨s.σ, s.h.set id (some ⟨blk.elem, blk.n, g⟩), s.nt⟩ φ a w := by
  have hst : ∀ b, Stab w0 S0 s.h φ b → Stab w0 S0 (s.h.set id (some ⟨blk.elem, blk.n, g⟩)) φ b := fun b hb' => ⟨hb'.1, fun ⟨id', blk', z, hi, hp⟩ => by
    obtain ⟨b0, h0⟩ := set_some hb hi
    exact hb'.2 ⟨id', b0, z, h0, hp⟩⟩
  have hs : ∀ b, Stab w0 S0 s.h φ b → b < w.heap.size → Stab w0 S0 (s.h.set id (some ⟨blk.elem, blk.n, g⟩)) φ b ∧ w.heap[b]? = w.heap[b]? := fun b hb' _ => ⟨hst b hb', rfl⟩
  refine ⟨⟨by rw [sim.heap.len]; simp, sim.heap.below, fun id' blk' hi => ?_, fun i j bi bj b z z' hi hj hi' hj' => ?_⟩, fun t v ht => ?_, sim.defers, sim.size⟩
  · have hi0 := hi
    rw [List.getElem?_set] at hi
    split at hi
    · rename_i e
      subst e
      split at hi
      · injection hi with hi; injection hi with hi; subst hi
        rcases sim.heap.blk id blk hb with ⟨h6, h7⟩ | ⟨b, cur, h6, h7, h8, h9, h10⟩
        · exact .inl ⟨h6, h7⟩
        · refine .inr ⟨b, cur, h6, h7, h8, h9, fun i hi' => ?_⟩
          obtain ⟨x, hx, hr⟩ := h10 i hi'
          exact ⟨x, hx, Rd.mono hs _ _ (Bare.rd _ _ _ (hg i hi') hr)⟩
      · cases hi
    · rcases sim.heap.blk id' blk' hi with ⟨h6, h7⟩ | ⟨b, cur, h6, h7, h8, h9, h10⟩
      · exact .inl ⟨h6, h7⟩
      · refine .inr ⟨b, cur, h6, h7, h8, h9, fun i hi' => ?_⟩
        obtain ⟨x, hx, hr⟩ := h10 i hi'
        exact ⟨x, hx, Rd.mono hs _ _ hr⟩
  · obtain ⟨b1, h1⟩ := set_some hb hi
    obtain ⟨b2, h2⟩ := set_some hb hj
    exact sim.heap.inj i j b1 b2 b z z' h1 h2 hi' hj'
  · obtain ⟨u, hu, hr⟩ := sim.slots t v ht
    exact ⟨u, hu, RdSlot.mono hs (fun _ _ h => h) v u hr⟩

end Go.Proofs.YteapdildbfimnaaGreatDoor
namespace Go.Proofs.YteapdildbfimnaaGreatDoor
open Go.RowKit Go.Proofs
set_option linter.unusedSimpArgs false
set_option linter.unusedVariables false

theorem u64_wrap (n : Int) : 0 ≤ IntKind.u64.wrap n ∧ IntKind.u64.wrap n < 18446744073709551616 := by
  simp [IntKind.wrap, IntKind.bits, IntKind.signed]; omega

theorem and255 (x : Int) : 0 ≤ bits .and .u64 x 255 ∧ bits .and .u64 x 255 < 256 := by
  have h1 : (BitVec.ofInt IntKind.u64.bits x &&& BitVec.ofInt IntKind.u64.bits 255).toNat ≤ 255 := by
    rw [BitVec.toNat_and]
    exact Nat.le_trans Nat.and_le_right (by decide)
  unfold bits
  show 0 ≤ IntKind.u64.wrap _ ∧ IntKind.u64.wrap _ < 256
  generalize (BitVec.ofInt IntKind.u64.bits x &&& BitVec.ofInt IntKind.u64.bits 255).toNat = m at h1
  simp [IntKind.wrap, IntKind.bits, IntKind.signed]
  omega

theorem next_in (b : Nat) (cur : Array Value) (e : TypeId) (A : Addr) (n cap : Nat) (g p q : Int) (w : World) (hb : w.heap[b]? = some (.cells cur e (0, 0))) (h0 : cur[0]? = some (.slice (some A) n cap)) (h1 : cur[1]? = some (.int .i64 p)) (h2 : cur[2]? = some (.int .u64 q))
    (hp : 0 ≤ p ∧ p ≤ 1099511627776) (hq : 0 ≤ q ∧ q < 18446744073709551616) (hn : n ≤ 1099511627776) (hnp : p < n) (hg : w.cell? (A.add p.toNat) = some (.int .u8 g)) (hg2 : 0 ≤ g ∧ g < 256) :
    Calls Tryz.prog 59 #[.pointer (some ⟨b, 0, none⟩)] w fun e' w' => ∃ x q' : Int, (0 ≤ x ∧ x < 256) ∧ (0 ≤ q' ∧ q' < 18446744073709551616) ∧ e' = .returned (.int .i64 x) ∧ ∃ m m', w' = (((w.drewN m).setCell ⟨b, 1, none⟩ (.int .i64 (p + 1))).setCell ⟨b, 2, none⟩ (.int .u64 q')).drewN m' := by
  have c0 : w.cell? ⟨b, 0, none⟩ = some (.slice (some A) n cap) := cell_of_blk hb h0
  have c1 : w.cell? ⟨b, 1, none⟩ = some (.int .i64 p) := cell_of_blk hb h1
  have c2 : w.cell? ⟨b, 2, none⟩ = some (.int .u64 q) := cell_of_blk hb h2
  go_enter Tryz.func59, Tryz.ntmps59
  go_wp2
  have hlt : decide (p < (n : Int)) = true := decide_eq_true hnp
  have hle : decide (p + 1 ≤ (n : Int)) = true := decide_eq_true (by omega)
  have f1 : w.frozen? ⟨b, 1, none⟩ = false := by simp [World.frozen?, hb]
  have f2 : w.frozen? ⟨b, 2, none⟩ = false := by simp [World.frozen?, hb]
  have hp0 : 0 ≤ p := hp.1
  go_quiet (fail)
  go_wp2
  go_quiet (fail)
  go_wp2
  go_quiet (fail)
  go_wp2
  go_ret
  exact ⟨g, _, hg2, u64_wrap _, rfl, _, _, rfl⟩

theorem next_out (b : Nat) (cur : Array Value) (e : TypeId) (B : Option Addr) (n cap : Nat) (p q : Int) (w : World) (hb : w.heap[b]? = some (.cells cur e (0, 0))) (h0 : cur[0]? = some (.slice B n cap)) (h1 : cur[1]? = some (.int .i64 p)) (h2 : cur[2]? = some (.int .u64 q))
    (hp : 0 ≤ p ∧ p ≤ 1099511627776) (hq : 0 ≤ q ∧ q < 18446744073709551616) (hn : n ≤ 1099511627776) (hnp : ¬ p < n) :
    Calls Tryz.prog 59 #[.pointer (some ⟨b, 0, none⟩)] w fun e' w' => ∃ x q' : Int, (0 ≤ x ∧ x < 256) ∧ (0 ≤ q' ∧ q' < 18446744073709551616) ∧ e' = .returned (.int .i64 x) ∧ ∃ m m', w' = (((w.drewN m).setCell ⟨b, 1, none⟩ (.int .i64 (p + 1))).setCell ⟨b, 2, none⟩ (.int .u64 q')).drewN m' := by
  have c0 : w.cell? ⟨b, 0, none⟩ = some (.slice B n cap) := cell_of_blk hb h0
  have c1 : w.cell? ⟨b, 1, none⟩ = some (.int .i64 p) := cell_of_blk hb h1
  have c2 : w.cell? ⟨b, 2, none⟩ = some (.int .u64 q) := cell_of_blk hb h2
  go_enter Tryz.func59, Tryz.ntmps59
  go_wp2
  have hlt : decide (p < (n : Int)) = false := decide_eq_false (by omega)
  have hle : decide (p + 1 ≤ (n : Int)) = false := decide_eq_false (by omega)
  have f1 : w.frozen? ⟨b, 1, none⟩ = false := by simp [World.frozen?, hb]
  have f2 : w.frozen? ⟨b, 2, none⟩ = false := by simp [World.frozen?, hb]
  have hp0 : 0 ≤ p := hp.1
  go_quiet (fail)
  go_wp2
  go_quiet (fail)
  go_wp2
  go_ret
  refine ⟨_, _, ?_, u64_wrap _, rfl, _, _, rfl⟩
  have := and255 (IntKind.u64.wrap (IntKind.u64.wrap (IntKind.u64.wrap (q * 6364136223846793005)) + 1442695040888963407) / 1099511627776)
  generalize bits BinOp.and IntKind.u64 (IntKind.u64.wrap (IntKind.u64.wrap (IntKind.u64.wrap (q * 6364136223846793005)) + 1442695040888963407) / 1099511627776) 255 = y at *
  unfold wrap64
  omega

/-- The bytes that the cursor reads. -/
abbrev bytV (n : Nat) (g : Nat → Int) : V := .seq 1 n fun i => .val (.int .u8 (g i))

theorem moved_world {b : Nat} {cur : Array Value} {e : TypeId} {w w' : World} {m m' : Nat} {p' q' : Int} (hb : w.heap[b]? = some (.cells cur e (0, 0))) (hw : w' = (((w.drewN m).setCell ⟨b, 1, none⟩ (.int .i64 p')).setCell ⟨b, 2, none⟩ (.int .u64 q')).drewN m') :
    RebB b w { w with heap := w'.heap } ∧ Below w'.heap.size { w with heap := w'.heap } w' ∧ w'.heap[b]? = some (.cells ((cur.setIfInBounds 1 (.int .i64 p')).setIfInBounds 2 (.int .u64 q')) e (0, 0)) ∧ w'.heap.size = w.heap.size := by
  have hd : ∀ (v : World) (k : Nat), (v.drewN k).heap = v.heap := fun v k => by cases k <;> rfl
  have h1 : (w.drewN m).heap[b]? = some (.cells cur e (0, 0)) := by rw [hd]; exact hb
  have h2 : ((w.drewN m).setCell ⟨b, 1, none⟩ (.int .i64 p')).heap[b]? = some (.cells (cur.setIfInBounds 1 (.int .i64 p')) e (0, 0)) := setCell_at h1
  have h3 : (((w.drewN m).setCell ⟨b, 1, none⟩ (.int .i64 p')).setCell ⟨b, 2, none⟩ (.int .u64 q')).heap[b]? = some (.cells ((cur.setIfInBounds 1 (.int .i64 p')).setIfInBounds 2 (.int .u64 q')) e (0, 0)) := setCell_at h2
  have hH : w'.heap = (((w.drewN m).setCell ⟨b, 1, none⟩ (.int .i64 p')).setCell ⟨b, 2, none⟩ (.int .u64 q')).heap := by rw [hw, hd]
  have hS : w'.heap.size = w.heap.size := by rw [hH, setCell_size, setCell_size, hd]
  have hso : ∀ (v : World) (x : Addr) (y : Value), (v.setCell x y).os = v.os ∧ (v.setCell x y).tape = v.tape ∧ (v.setCell x y).output = v.output := fun v x y => ⟨rfl, rfl, rfl⟩
  have hdo : ∀ (v : World) (k : Nat), (v.drewN k).os = v.os ∧ (v.drewN k).tape = v.tape ∧ (v.drewN k).output = v.output := fun v k => ⟨rfl, rfl, rfl⟩
  refine ⟨⟨rfl, rfl, rfl, hS, fun j hj => ?_⟩, ⟨?_, ?_, ?_, Nat.le_refl _, fun _ _ => rfl⟩, ?_, hS⟩
  · show w'.heap[j]? = _
    rw [hH, Below.heap_setCell _ _ _ _ hj, Below.heap_setCell _ _ _ _ hj, hd]
  · rw [hw]; simp only [hdo, hso]
  · rw [hw]; simp only [hdo, hso]
  · rw [hw]; simp only [hdo, hso]
  · rw [hH]; exact h3

/-- Some number below 256. -/
theorem next_fn (b k n : Nat) (Z : Nat → Prop) (g : Nat → Int) (hk : k ≤ 1099511627776) (hn : n ≤ 1099511627776) (hg : ∀ i, i < n → 0 ≤ g i ∧ g i < 256) :
    FnC Tryz.prog 59 b k (k + 1) Z (bytV n g) [] (fun r => ∃ x : Int, (0 ≤ x ∧ x < 256) ∧ r = .one (.pv (vi x))) := by
  refine ⟨Tryz.call59, fun w u us hu hus => ?_⟩
  match us, hus with
  | [], _ =>
    obtain ⟨rfl, _, hz, cur, cv, p, q, e, hc, ⟨h0, h1, h2⟩, hp, hq, hr⟩ := hu
    obtain ⟨A, c, rfl, hcap, hcells⟩ := hr
    have fin : ∀ e' w', (∃ x q' : Int, (0 ≤ x ∧ x < 256) ∧ (0 ≤ q' ∧ q' < 18446744073709551616) ∧ e' = Ending.returned (.int .i64 x) ∧ ∃ m m', w' = (((w.drewN m).setCell ⟨b, 1, none⟩ (.int .i64 (p + 1))).setCell ⟨b, 2, none⟩ (.int .u64 q')).drewN m') →
        ∃ w1 r x φ, RebB b w w1 ∧ Rd w1 (fun _ => True) (.cur b (k + 1) Z (bytV n g)) (.pointer (some ⟨b, 0, none⟩)) ∧ (∃ x : Int, (0 ≤ x ∧ x < 256) ∧ r = Res.one (.pv (vi x))) ∧ NewL (fun Z => ∀ j, Z j → w.heap.size ≤ j) r.list ∧ e' = .returned x ∧ Heap w1 (fun _ => True) (bring r.list []).2 φ w' ∧ RdSlot w' (Stab w1 (fun _ => True) (bring r.list []).2 φ) φ (r.slot (bring r.list []).1) x := by
      rintro e' w' ⟨x, q', hx, hq', rfl, m, m', hw⟩
      obtain ⟨hR, hB, hblk, hsz⟩ := moved_world hc hw
      have c1 : 1 < cur.size := (Array.getElem?_eq_some_iff.1 h1).1
      have c2 : 2 < cur.size := (Array.getElem?_eq_some_iff.1 h2).1
      have hcur : Rd { w with heap := w'.heap } (fun _ => True) (.cur b (k + 1) Z (bytV n g)) (.pointer (some ⟨b, 0, none⟩)) := by
        refine ⟨rfl, trivial, fun j hj => ⟨trivial, ?_, (hz j hj).2.2⟩, _, _, p + 1, q', e, hblk, ⟨?_, ?_, ?_⟩, ⟨by omega, by omega⟩, hq', Rd.mono (S := Z) (fun j hj _ => ⟨hj, hR.oth j (hz j hj).2.2⟩) (bytV n g) (.slice A n c) ⟨A, c, rfl, hcap, hcells⟩⟩
        · show j < w'.heap.size
          rw [hsz]; exact (hz j hj).2.1
        · rw [Array.getElem?_setIfInBounds_ne (by decide), Array.getElem?_setIfInBounds_ne (by decide)]; exact h0
        · rw [Array.getElem?_setIfInBounds_ne (by decide)]; simp [c1]
        · simp [c2]
      exact ⟨_, .one (.pv (vi x)), .int .i64 x, [], hR, hcur, ⟨x, hx, rfl⟩, ⟨trivial, trivial⟩, rfl, ⟨rfl, hB, fun id blk hi => by simp [bring, Res.list] at hi, fun i j bi bj b z z' hi => by simp [bring, Res.list] at hi⟩, rfl⟩
    by_cases hpn : p < n
    · obtain ⟨b', off, rfl, hS, hcl⟩ := hcells (by omega)
      obtain ⟨y, hy, hy2⟩ := hcl p.toNat (by omega)
      have hy2 : y = .int .u8 (g p.toNat) := hy2
      subst hy2
      exact (next_in b cur e ⟨b', off, none⟩ n c (g p.toNat) p q w hc h0 h1 h2 ⟨hp.1, by omega⟩ hq hn hpn (by rw [add_none]; exact hy) (hg _ (by omega))).mono fin
    · exact (next_out b cur e A n c p q w hc h0 h1 h2 ⟨hp.1, by omega⟩ hq hn hpn).mono fin

open Go.RowKit Go.Proofs
set_option linter.unusedSimpArgs false
set_option linter.unusedVariables false
set_option maxRecDepth 20000

/-- Some integer of which p holds. -/
def someI (p : Int → Prop) : Res → Prop := fun r => ∃ x : Int, p x ∧ r = .one (.pv (vi x))
theorem someI.shape {p : Int → Prop} (r : Res) (h : someI p r) : r.shape 1 = true := by obtain ⟨x, _, rfl⟩ := h; rfl

def someB : Res → Prop := fun r => ∃ x : Bool, r = .one (.pv (vb x))
theorem someB.shape (r : Res) (h : someB r) : r.shape 1 = true := by obtain ⟨x, rfl⟩ := h; rfl

theorem retC_int {t N b k' : Nat} {Z : Nat → Prop} {c : V} {p : Int → Prop} {s : ASt} {x : Int} (hl : lookup s.σ t = some (sc (.int .i64 x))) {j : Nat} (hc : lookup s.σ 0 = some (.one (.pv (.cur b j Z c)))) (hj : j ≤ k') (hp : p x) : retC [t] N (someI p) b k' Z c .ret s := by
  refine ⟨⟨j, hc, hj⟩, _, ⟨x, hp, rfl⟩, ⟨trivial, trivial⟩, ?_⟩
  unfold retOk
  simp only [getL, hl, Option.map_some, Res.list, fitsL, fits, VE, srcs, ND, and_true]
theorem retC_bool {t N b k' : Nat} {Z : Nat → Prop} {c : V} {s : ASt} {x : Bool} (hl : lookup s.σ t = some (sc (.bool x))) {j : Nat} (hc : lookup s.σ 0 = some (.one (.pv (.cur b j Z c)))) (hj : j ≤ k') : retC [t] N someB b k' Z c .ret s := by
  refine ⟨⟨j, hc, hj⟩, _, ⟨x, rfl⟩, ⟨trivial, trivial⟩, ?_⟩
  unfold retOk
  simp only [getL, hl, Option.map_some, Res.list, fitsL, fits, VE, srcs, ND, and_true]

/-- The bytes are bytes, and no more than 2^40. -/
structure BytOk (m : Nat) (g : Nat → Int) : Prop where
  len : m ≤ 1099511627776
  byte : ∀ i, i < m → 0 ≤ g i ∧ g i < 256

section
variable {b m : Nat} {Z : Nat → Prop} {g : Nat → Int}

theorem next2_fn (k : Nat) (hk : k ≤ 549755813888) (hb : BytOk m g) : FnC Tryz.prog 59 b k (k + 1) Z (bytV m g) [] (someI fun x => 0 ≤ x ∧ x < 256) := next_fn b k m Z g (by omega) hb.len hb.byte

theorem pick_fn (k : Nat) (n : Int) (hk : k ≤ 549755813880) (hb : BytOk m g) : FnC Tryz.prog 43 b k (k + 2) Z (bytV m g) [vi n] (someI fun x => 0 ≤ x ∧ (x < n ∨ x = 0)) := by
  refine FnC.of_body Tryz.call43 Tryz.func43 rfl Tryz.ntmps43 (ts := [4]) rfl (by simp) (someI.shape) (fun N cx hcx hbN => ?_)
  repeat' (first | ((with_reducible show evNx _ _ _ _ _ _); first | (with_reducible refine nx_done ?_) | (refine nx_one rfl ?_) | (refine nx_alt rfl ?_ ?_) | (with_reducible refine nx_st ?_)) | ((with_reducible show evSx _ _ _ _ _ _); first | (with_reducible refine sx_done ?_) | (with_reducible refine sx_st ?_) | (with_reducible refine sx_op ?_)) | ((with_reducible show evTake _ _ _ _ _); with_reducible refine take_nil ?_) | ((with_reducible show evSy _ _ _ _ _ _ _); first | (with_reducible refine sy_done ?_) | (refine sy_last rfl ?_) | (refine sy_one (by decide) rfl ?_) | (refine sy_alt (by decide) rfl ?_ ?_) | (with_reducible refine sy_st ?_)) | ((with_reducible show StK _ _ _); first | fail) | (with_reducible first | refine then_normal ?_ | refine then_ret ?_ | refine then_exit ?_ | refine block_normal ?_ | refine block_ret ?_) | ((with_reducible show blockQ _ _ _ _); first | refine block_exit ?_ | refine block_exit_ne rfl ?_) | ((with_reducible show AWP _ _ _ _ _); first | (refine AWP.region_sx (id := 3) [.op, .op, .op] ?_) | (refine AWP.region_sx (id := 5) [.op, .op, .op, .op, .op, .op] ?_) | (with_reducible first | refine AWP.seq ?_ | refine AWP.block ?_ | refine AWP.region ?_ | refine AWP.ret ?_ | refine AWP.exit ?_ | refine AWP.skip ?_) | refine AWP.drawn rfl (by kernel_rfl) ?_ | refine AWP.cond rfl ?_ ?_) | with_reducible refine ev_nil ?_ | ((first | ((with_reducible show evNx _ _ _ _ _ _); refine nx_take rfl ?_; intro K hK) | ((with_reducible show Ax _ _ _ _ _); first | ((first | refine ax_callC (f := 59) ?_); refine callC_go (x := _) (xs := _) rfl rfl rfl (by first | exact .inl (by rw [hcx]; exact rfl) | exact .inr (by assumption)) (by (try simp only [okS, okSl, okH, eq_self, true_and, and_true, and_self]); repeat' (first | exact trivial | exact rfl | exact disj_cut | exact disj_lt (by assumption) | assumption | omega | refine And.intro ?_ ?_ | (intro i hi; first | exact trivial | (split <;> first | exact trivial | exact disj_lt (by assumption) | exact disj_cut) | (repeat' split) <;> exact trivial))) (by (try simp only [okS, okSl, okH, eq_self, true_and, and_true, and_self]); repeat' (first | exact trivial | exact rfl | exact disj_cut | exact disj_lt (by assumption) | assumption | omega | refine And.intro ?_ ?_ | (intro i hi; first | exact trivial | (split <;> first | exact trivial | exact disj_lt (by assumption) | exact disj_cut) | (repeat' split) <;> exact trivial))) (fun K1 hK1 => by simp only [argsC, opd, lookup, Nat.zero_add, Nat.reduceEqDiff, ↓reduceIte, List.getElem?_cons_zero, List.getElem?_cons_succ, List.reverse_cons, List.reverse_nil, List.nil_append, List.cons_append]; repeat' (first | exact hK1 | exact trivial | exact disj_cut | assumption | omega | refine And.intro ?_ ?_)) ?_; first | (refine ⟨_, _, next2_fn _ (by omega) hb, ?_⟩; rintro _ ⟨x, hx, rfl⟩ hnewZ; clear hnewZ)) | (refine ax_op rfl ?_; intro K hK)) | ((with_reducible show evTake _ _ _ _ _); refine take_step rfl ?_; intro K hK) | ((with_reducible show evSy _ _ _ _ _ _ _); refine sy_take rfl ?_; intro K hK) | ((with_reducible show AxB _ _ _ _ _); first | (refine axb_op rfl rfl ?_; intro K hK)) | ((with_reducible show evOps _ _ _ _ _ _); (first | refine ev_step rfl ?_ | refine ev_undef rfl rfl rfl ?_); intro K hK) | ((with_reducible show EvOpen _ _ _ _ _ _ _); refine ev_open ?_; intro K hK) | ((with_reducible show SkOpen _ _ _ _ _ _ _); refine sk_open ?_; intro K hK) | ((with_reducible show callK _ _ _ _ _ _ _ _); first  | fail)); simp only [evOp, evQ, binK, withS, opd, kput, putS, upd, lookup, bringIn, bring, Res.list, Res.slot, slotsOf, InK_i64, swpS, swSl, oldC, List.map_cons, List.map_nil, Nat.reduceEqDiff, Nat.reduceLT, Nat.zero_add, ↓reduceIte, eq_self, true_and]) | refine ev_guard rfl rfl rfl ?_ ?_ | ((with_reducible show retQ _ _ _ _); simp only [eq_self]) | (with_reducible refine hK _ ?_; clear hK K) | (with_reducible refine And.intro ?_ ?_) | (with_reducible intro hc; try simp only [decide_eq_true_eq, decide_eq_false_iff_not, Int.not_lt, Int.not_le, gt_iff_lt] at hc) | omega)
  all_goals first
    | (refine retC_int rfl rfl (by omega) ?_; exact ⟨by omega, .inr rfl⟩)
    | (refine retC_int rfl rfl (by omega) ?_; exact ⟨Int.emod_nonneg _ (by omega), .inl (Int.emod_lt_of_pos _ (by omega))⟩)
    | trace_state

theorem one_fn (k : Nat) (n : Int) (hk : k ≤ 549755813880) (hb : BytOk m g) : FnC Tryz.prog 42 b k (k + 2) Z (bytV m g) [vi n] someB := by
  refine FnC.of_body Tryz.call42 Tryz.func42 rfl Tryz.ntmps42 (ts := [4]) rfl (by simp) (someB.shape) (fun N cx hcx hbN => ?_)
  repeat' (first | ((with_reducible show evNx _ _ _ _ _ _); first | (with_reducible refine nx_done ?_) | (refine nx_one rfl ?_) | (refine nx_alt rfl ?_ ?_) | (with_reducible refine nx_st ?_)) | ((with_reducible show evSx _ _ _ _ _ _); first | (with_reducible refine sx_done ?_) | (with_reducible refine sx_st ?_) | (with_reducible refine sx_op ?_)) | ((with_reducible show evTake _ _ _ _ _); with_reducible refine take_nil ?_) | ((with_reducible show evSy _ _ _ _ _ _ _); first | (with_reducible refine sy_done ?_) | (refine sy_last rfl ?_) | (refine sy_one (by decide) rfl ?_) | (refine sy_alt (by decide) rfl ?_ ?_) | (with_reducible refine sy_st ?_)) | ((with_reducible show StK _ _ _); first | fail) | (with_reducible first | refine then_normal ?_ | refine then_ret ?_ | refine then_exit ?_ | refine block_normal ?_ | refine block_ret ?_) | ((with_reducible show blockQ _ _ _ _); first | refine block_exit ?_ | refine block_exit_ne rfl ?_) | ((with_reducible show AWP _ _ _ _ _); first | (refine AWP.region_sx (id := 1) [.op, .op, .op, .op, .op] ?_) | (with_reducible first | refine AWP.seq ?_ | refine AWP.block ?_ | refine AWP.region ?_ | refine AWP.ret ?_ | refine AWP.exit ?_ | refine AWP.skip ?_) | refine AWP.drawn rfl (by kernel_rfl) ?_ | refine AWP.cond rfl ?_ ?_) | with_reducible refine ev_nil ?_ | ((first | ((with_reducible show evNx _ _ _ _ _ _); refine nx_take rfl ?_; intro K hK) | ((with_reducible show Ax _ _ _ _ _); first | ((first | refine ax_callC (f := 43) ?_); refine callC_go (x := _) (xs := _) rfl rfl rfl (by first | exact .inl (by rw [hcx]; exact rfl) | exact .inr (by assumption)) (by (try simp only [okS, okSl, okH, eq_self, true_and, and_true, and_self]); repeat' (first | exact trivial | exact rfl | exact disj_cut | exact disj_lt (by assumption) | assumption | omega | refine And.intro ?_ ?_ | (intro i hi; first | exact trivial | (split <;> first | exact trivial | exact disj_lt (by assumption) | exact disj_cut) | (repeat' split) <;> exact trivial))) (by (try simp only [okS, okSl, okH, eq_self, true_and, and_true, and_self]); repeat' (first | exact trivial | exact rfl | exact disj_cut | exact disj_lt (by assumption) | assumption | omega | refine And.intro ?_ ?_ | (intro i hi; first | exact trivial | (split <;> first | exact trivial | exact disj_lt (by assumption) | exact disj_cut) | (repeat' split) <;> exact trivial))) (fun K1 hK1 => by simp only [argsC, opd, lookup, Nat.zero_add, Nat.reduceEqDiff, ↓reduceIte, List.getElem?_cons_zero, List.getElem?_cons_succ, List.reverse_cons, List.reverse_nil, List.nil_append, List.cons_append]; repeat' (first | exact hK1 | exact trivial | exact disj_cut | assumption | omega | refine And.intro ?_ ?_)) ?_; first | (refine ⟨_, _, pick_fn _ _ (by omega) hb, ?_⟩; rintro _ ⟨x, hx, rfl⟩ hnewZ; clear hnewZ)) | (refine ax_op rfl ?_; intro K hK)) | ((with_reducible show evTake _ _ _ _ _); refine take_step rfl ?_; intro K hK) | ((with_reducible show evSy _ _ _ _ _ _ _); refine sy_take rfl ?_; intro K hK) | ((with_reducible show AxB _ _ _ _ _); first | (refine axb_op rfl rfl ?_; intro K hK)) | ((with_reducible show evOps _ _ _ _ _ _); (first | refine ev_step rfl ?_ | refine ev_undef rfl rfl rfl ?_); intro K hK) | ((with_reducible show EvOpen _ _ _ _ _ _ _); refine ev_open ?_; intro K hK) | ((with_reducible show SkOpen _ _ _ _ _ _ _); refine sk_open ?_; intro K hK) | ((with_reducible show callK _ _ _ _ _ _ _ _); first  | fail)); simp only [evOp, evQ, binK, withS, opd, kput, putS, upd, lookup, bringIn, bring, Res.list, Res.slot, slotsOf, swpS, swSl, oldC, List.map_cons, List.map_nil, Nat.reduceEqDiff, Nat.reduceLT, Nat.zero_add, ↓reduceIte, eq_self, true_and]) | refine ev_guard rfl rfl rfl ?_ ?_ | ((with_reducible show retQ _ _ _ _); simp only [eq_self]) | (with_reducible refine hK _ ?_; clear hK K) | (with_reducible refine And.intro ?_ ?_) | (with_reducible intro hc; try simp only [eq_self] at hc) | omega)
  all_goals first
    | exact retC_bool rfl rfl (by omega)
    | trace_state

/-- One of a list's numbers. -/
theorem among_fn (k n : Nat) (f : Nat → V) (l : Nat → Int) (p : Int → Prop) (hk : k ≤ 549755813880) (hn : 1 ≤ n ∧ n ≤ 200) (hb : BytOk m g) (hf : ∀ i, i < n → f i = vi (l i)) (hp : ∀ i, i < n → p (l i)) : FnC Tryz.prog 60 b k (k + 2) Z (bytV m g) [.seq 1 n f] (someI p) := by
  refine FnC.of_body Tryz.call60 Tryz.func60 rfl Tryz.ntmps60 (ts := [4]) rfl (by simp) (someI.shape) (fun N cx hcx hbN => ?_)
  repeat' (first | ((with_reducible show evNx _ _ _ _ _ _); first | (with_reducible refine nx_done ?_) | (refine nx_one rfl ?_) | (refine nx_alt rfl ?_ ?_) | (with_reducible refine nx_st ?_)) | ((with_reducible show evSx _ _ _ _ _ _); first | (with_reducible refine sx_done ?_) | (with_reducible refine sx_st ?_) | (with_reducible refine sx_op ?_)) | ((with_reducible show evTake _ _ _ _ _); with_reducible refine take_nil ?_) | ((with_reducible show evSy _ _ _ _ _ _ _); first | (with_reducible refine sy_done ?_) | (refine sy_last rfl ?_) | (refine sy_one (by decide) rfl ?_) | (refine sy_alt (by decide) rfl ?_ ?_) | (with_reducible refine sy_st ?_)) | ((with_reducible show StK _ _ _); first | fail) | (with_reducible first | refine then_normal ?_ | refine then_ret ?_ | refine then_exit ?_ | refine block_normal ?_ | refine block_ret ?_) | ((with_reducible show blockQ _ _ _ _); first | refine block_exit ?_ | refine block_exit_ne rfl ?_) | ((with_reducible show AWP _ _ _ _ _); first | (refine AWP.region_sx (id := 1) [.op, .op, .op, .op, .op, .op, .op, .op] ?_) | (with_reducible first | refine AWP.seq ?_ | refine AWP.block ?_ | refine AWP.region ?_ | refine AWP.ret ?_ | refine AWP.exit ?_ | refine AWP.skip ?_) | refine AWP.drawn rfl (by kernel_rfl) ?_ | refine AWP.cond rfl ?_ ?_) | with_reducible refine ev_nil ?_ | ((first | ((with_reducible show evNx _ _ _ _ _ _); refine nx_take rfl ?_; intro K hK) | ((with_reducible show Ax _ _ _ _ _); first | ((first | refine ax_callC (f := 43) ?_); refine callC_go (x := _) (xs := _) rfl rfl rfl (by first | exact .inl (by rw [hcx]; exact rfl) | exact .inr (by assumption)) (by (try simp only [okS, okSl, okH, eq_self, true_and, and_true, and_self]); repeat' (first | exact trivial | exact rfl | exact disj_cut | exact disj_lt (by assumption) | assumption | omega | refine And.intro ?_ ?_ | (intro i hi; first | exact trivial | (split <;> first | exact trivial | exact disj_lt (by assumption) | exact disj_cut) | (repeat' split) <;> exact trivial))) (by (try simp only [okS, okSl, okH, eq_self, true_and, and_true, and_self]); repeat' (first | exact trivial | exact rfl | exact disj_cut | exact disj_lt (by assumption) | assumption | omega | refine And.intro ?_ ?_ | (intro i hi; first | exact trivial | (split <;> first | exact trivial | exact disj_lt (by assumption) | exact disj_cut) | (repeat' split) <;> exact trivial))) (fun K1 hK1 => by simp only [argsC, opd, lookup, Nat.zero_add, Nat.reduceEqDiff, ↓reduceIte, List.getElem?_cons_zero, List.getElem?_cons_succ, List.reverse_cons, List.reverse_nil, List.nil_append, List.cons_append]; repeat' (first | exact hK1 | exact trivial | exact disj_cut | assumption | omega | refine And.intro ?_ ?_)) ?_; first | (refine ⟨_, _, pick_fn _ _ (by omega) hb, ?_⟩; rintro _ ⟨x, hx, rfl⟩ hnewZ; clear hnewZ)) | (refine ax_op rfl ?_; intro K hK)) | ((with_reducible show evTake _ _ _ _ _); refine take_step rfl ?_; intro K hK) | ((with_reducible show evSy _ _ _ _ _ _ _); refine sy_take rfl ?_; intro K hK) | ((with_reducible show AxB _ _ _ _ _); first | (refine axb_op rfl rfl ?_; intro K hK)) | ((with_reducible show evOps _ _ _ _ _ _); (first | refine ev_step rfl ?_ | refine ev_undef rfl rfl rfl ?_); intro K hK) | ((with_reducible show EvOpen _ _ _ _ _ _ _); refine ev_open ?_; intro K hK) | ((with_reducible show SkOpen _ _ _ _ _ _ _); refine sk_open ?_; intro K hK) | ((with_reducible show callK _ _ _ _ _ _ _ _); first  | fail)); simp only [evOp, evQ, evB, withS, opd, kput, putS, upd, lookup, bringIn, bring, Res.list, Res.slot, slotsOf, sz_ints, c_int, swpS, swSl, oldC, List.map_cons, List.map_nil, Nat.reduceEqDiff, Nat.reduceLT, Nat.mul_one, Nat.add_zero, Nat.zero_add, ↓reduceIte, eq_self, true_and, Option.isSome_some]) | refine ev_guard rfl rfl rfl ?_ ?_ | ((with_reducible show retQ _ _ _ _); simp only [eq_self]) | (with_reducible refine hK _ ?_; clear hK K) | (with_reducible refine And.intro ?_ ?_) | (with_reducible intro hc; try simp only [eq_self] at hc) | omega)
  all_goals first
    | (refine retC_int (x := l x.toNat) ?_ rfl (by omega) (hp _ (by omega))
       show some (Slot.one (SV.pv (oldZ _ (f x.toNat)))) = _
       rw [hf _ (by omega)]; rfl)
    | trace_state

theorem among4_fn (k : Nat) (f : Nat → V) (a0 a1 a2 a3 : Int) (p : Int → Prop) (hk : k ≤ 549755813880) (hb : BytOk m g) (h0 : f 0 = vi a0) (h1 : f 1 = vi a1) (h2 : f 2 = vi a2) (h3 : f 3 = vi a3) (hp : p a0 ∧ p a1 ∧ p a2 ∧ p a3) : FnC Tryz.prog 60 b k (k + 2) Z (bytV m g) [.seq 1 4 f] (someI p) :=
  among_fn k 4 f (fun i => [a0, a1, a2, a3].getD i 0) p hk (by omega) hb (fun i hi => by
    match i, hi with
    | 0, _ => exact h0
    | 1, _ => exact h1
    | 2, _ => exact h2
    | 3, _ => exact h3) fun i hi => by
    match i, hi with
    | 0, _ => exact hp.1
    | 1, _ => exact hp.2.1
    | 2, _ => exact hp.2.2.1
    | 3, _ => exact hp.2.2.2

theorem among5_fn (k : Nat) (f : Nat → V) (a0 a1 a2 a3 a4 : Int) (p : Int → Prop) (hk : k ≤ 549755813880) (hb : BytOk m g) (h0 : f 0 = vi a0) (h1 : f 1 = vi a1) (h2 : f 2 = vi a2) (h3 : f 3 = vi a3) (h4 : f 4 = vi a4) (hp : p a0 ∧ p a1 ∧ p a2 ∧ p a3 ∧ p a4) : FnC Tryz.prog 60 b k (k + 2) Z (bytV m g) [.seq 1 5 f] (someI p) :=
  among_fn k 5 f (fun i => [a0, a1, a2, a3, a4].getD i 0) p hk (by omega) hb (fun i hi => by
    match i, hi with
    | 0, _ => exact h0
    | 1, _ => exact h1
    | 2, _ => exact h2
    | 3, _ => exact h3
    | 4, _ => exact h4) fun i hi => by
    match i, hi with
    | 0, _ => exact hp.1
    | 1, _ => exact hp.2.1
    | 2, _ => exact hp.2.2.1
    | 3, _ => exact hp.2.2.2.1
    | 4, _ => exact hp.2.2.2.2

theorem among6_fn (k : Nat) (f : Nat → V) (a0 a1 a2 a3 a4 a5 : Int) (p : Int → Prop) (hk : k ≤ 549755813880) (hb : BytOk m g) (h0 : f 0 = vi a0) (h1 : f 1 = vi a1) (h2 : f 2 = vi a2) (h3 : f 3 = vi a3) (h4 : f 4 = vi a4) (h5 : f 5 = vi a5) (hp : p a0 ∧ p a1 ∧ p a2 ∧ p a3 ∧ p a4 ∧ p a5) : FnC Tryz.prog 60 b k (k + 2) Z (bytV m g) [.seq 1 6 f] (someI p) :=
  among_fn k 6 f (fun i => [a0, a1, a2, a3, a4, a5].getD i 0) p hk (by omega) hb (fun i hi => by
    match i, hi with
    | 0, _ => exact h0
    | 1, _ => exact h1
    | 2, _ => exact h2
    | 3, _ => exact h3
    | 4, _ => exact h4
    | 5, _ => exact h5) fun i hi => by
    match i, hi with
    | 0, _ => exact hp.1
    | 1, _ => exact hp.2.1
    | 2, _ => exact hp.2.2.1
    | 3, _ => exact hp.2.2.2.1
    | 4, _ => exact hp.2.2.2.2.1
    | 5, _ => exact hp.2.2.2.2.2

theorem among7_fn (k : Nat) (f : Nat → V) (a0 a1 a2 a3 a4 a5 a6 : Int) (p : Int → Prop) (hk : k ≤ 549755813880) (hb : BytOk m g) (h0 : f 0 = vi a0) (h1 : f 1 = vi a1) (h2 : f 2 = vi a2) (h3 : f 3 = vi a3) (h4 : f 4 = vi a4) (h5 : f 5 = vi a5) (h6 : f 6 = vi a6) (hp : p a0 ∧ p a1 ∧ p a2 ∧ p a3 ∧ p a4 ∧ p a5 ∧ p a6) : FnC Tryz.prog 60 b k (k + 2) Z (bytV m g) [.seq 1 7 f] (someI p) :=
  among_fn k 7 f (fun i => [a0, a1, a2, a3, a4, a5, a6].getD i 0) p hk (by omega) hb (fun i hi => by
    match i, hi with
    | 0, _ => exact h0
    | 1, _ => exact h1
    | 2, _ => exact h2
    | 3, _ => exact h3
    | 4, _ => exact h4
    | 5, _ => exact h5
    | 6, _ => exact h6) fun i hi => by
    match i, hi with
    | 0, _ => exact hp.1
    | 1, _ => exact hp.2.1
    | 2, _ => exact hp.2.2.1
    | 3, _ => exact hp.2.2.2.1
    | 4, _ => exact hp.2.2.2.2.1
    | 5, _ => exact hp.2.2.2.2.2.1
    | 6, _ => exact hp.2.2.2.2.2.2

theorem small_fn (k : Nat) (hk : k ≤ 549755813880) (hb : BytOk m g) : FnC Tryz.prog 62 b k (k + 2) Z (bytV m g) [] (someI fun x => -4 ≤ x ∧ x ≤ 8) := by
  refine FnC.of_body Tryz.call62 Tryz.func62 rfl Tryz.ntmps62 (ts := [2]) rfl (by simp) (someI.shape) (fun N cx hcx hbN => ?_)
  repeat' (first | ((with_reducible show evNx _ _ _ _ _ _); first | (with_reducible refine nx_done ?_) | (refine nx_one rfl ?_) | (refine nx_alt rfl ?_ ?_) | (with_reducible refine nx_st ?_)) | ((with_reducible show evSx _ _ _ _ _ _); first | (with_reducible refine sx_done ?_) | (with_reducible refine sx_st ?_) | (with_reducible refine sx_op ?_)) | ((with_reducible show evTake _ _ _ _ _); with_reducible refine take_nil ?_) | ((with_reducible show evSy _ _ _ _ _ _ _); first | (with_reducible refine sy_done ?_) | (refine sy_last rfl ?_) | (refine sy_one (by decide) rfl ?_) | (refine sy_alt (by decide) rfl ?_ ?_) | (with_reducible refine sy_st ?_)) | ((with_reducible show StK _ _ _); first | fail) | (with_reducible first | refine then_normal ?_ | refine then_ret ?_ | refine then_exit ?_ | refine block_normal ?_ | refine block_ret ?_) | ((with_reducible show blockQ _ _ _ _); first | refine block_exit ?_ | refine block_exit_ne rfl ?_) | ((with_reducible show AWP _ _ _ _ _); first | (refine AWP.region_sx (id := 1) [.op, .op, .op, .op] ?_) | (with_reducible first | refine AWP.seq ?_ | refine AWP.block ?_ | refine AWP.region ?_ | refine AWP.ret ?_ | refine AWP.exit ?_ | refine AWP.skip ?_) | refine AWP.drawn rfl (by kernel_rfl) ?_ | refine AWP.cond rfl ?_ ?_) | with_reducible refine ev_nil ?_ | ((first | ((with_reducible show evNx _ _ _ _ _ _); refine nx_take rfl ?_; intro K hK) | ((with_reducible show Ax _ _ _ _ _); first | ((first | refine ax_callC (f := 43) ?_); refine callC_go (x := _) (xs := _) rfl rfl rfl (by first | exact .inl (by rw [hcx]; exact rfl) | exact .inr (by assumption)) (by (try simp only [okS, okSl, okH, eq_self, true_and, and_true, and_self]); repeat' (first | exact trivial | exact rfl | exact disj_cut | exact disj_lt (by assumption) | assumption | omega | refine And.intro ?_ ?_ | (intro i hi; first | exact trivial | (split <;> first | exact trivial | exact disj_lt (by assumption) | exact disj_cut) | (repeat' split) <;> exact trivial))) (by (try simp only [okS, okSl, okH, eq_self, true_and, and_true, and_self]); repeat' (first | exact trivial | exact rfl | exact disj_cut | exact disj_lt (by assumption) | assumption | omega | refine And.intro ?_ ?_ | (intro i hi; first | exact trivial | (split <;> first | exact trivial | exact disj_lt (by assumption) | exact disj_cut) | (repeat' split) <;> exact trivial))) (fun K1 hK1 => by simp only [argsC, opd, lookup, Nat.zero_add, Nat.reduceEqDiff, ↓reduceIte, List.getElem?_cons_zero, List.getElem?_cons_succ, List.reverse_cons, List.reverse_nil, List.nil_append, List.cons_append]; repeat' (first | exact hK1 | exact trivial | exact disj_cut | assumption | omega | refine And.intro ?_ ?_)) ?_; first | (refine ⟨_, _, pick_fn _ _ (by omega) hb, ?_⟩; rintro _ ⟨x, hx, rfl⟩ hnewZ; clear hnewZ)) | (refine ax_op rfl ?_; intro K hK)) | ((with_reducible show evTake _ _ _ _ _); refine take_step rfl ?_; intro K hK) | ((with_reducible show evSy _ _ _ _ _ _ _); refine sy_take rfl ?_; intro K hK) | ((with_reducible show AxB _ _ _ _ _); first | (refine axb_op rfl rfl ?_; intro K hK)) | ((with_reducible show evOps _ _ _ _ _ _); (first | refine ev_step rfl ?_ | refine ev_undef rfl rfl rfl ?_); intro K hK) | ((with_reducible show EvOpen _ _ _ _ _ _ _); refine ev_open ?_; intro K hK) | ((with_reducible show SkOpen _ _ _ _ _ _ _); refine sk_open ?_; intro K hK) | ((with_reducible show callK _ _ _ _ _ _ _ _); first  | fail)); simp only [evOp, evQ, binK, withS, opd, kput, putS, upd, lookup, bringIn, bring, Res.list, Res.slot, slotsOf, InK_i64, swpS, swSl, List.map_nil, Nat.reduceEqDiff, Nat.reduceLT, Nat.zero_add, ↓reduceIte, eq_self, true_and]) | refine ev_guard rfl rfl rfl ?_ ?_ | ((with_reducible show retQ _ _ _ _); simp only [eq_self]) | (with_reducible refine hK _ ?_; clear hK K) | (with_reducible refine And.intro ?_ ?_) | (with_reducible intro hc; try simp only [eq_self] at hc) | omega)
  all_goals first
    | (refine retC_int rfl rfl (by omega) ?_; omega)
    | trace_state

/-- A number of some size. -/
abbrev big64 (x : Int) : Prop := -9223372036854775808 ≤ x ∧ x ≤ 9223372036854775807

end

end Go.Proofs.YteapdildbfimnaaGreatDoor
namespace Go.Proofs.YteapdildbfimnaaGreatDoor
open Go.RowKit Go.Proofs
set_option linter.unusedSimpArgs false
set_option linter.unusedVariables false
set_option maxRecDepth 20000

/-- Some list of which p holds. -/
def someL (p : List Int → Prop) : Res → Prop := fun r => ∃ l : List Int, p l ∧ r = .one (.fr 1 l.length (bints l))
theorem someL.shape {p : List Int → Prop} (r : Res) (h : someL p r) : r.shape 1 = true := by obtain ⟨x, _, rfl⟩ := h; rfl
/-- No longer than q, of machine words. -/
def LP (q : Nat) (l : List Int) : Prop := l.length ≤ q ∧ ∀ i, big64 (l.getD i 0)
theorem LP.len {q : Nat} {l : List Int} (h : LP q l) (hq : q ≤ 1099511627776) : l.length ≤ 1099511627776 := Nat.le_trans h.1 hq
theorem LP.nil (q : Nat) : LP q [] := ⟨Nat.zero_le _, fun i => by simp [big64]⟩
theorem LP.snoc {q : Nat} {l : List Int} {x : Int} (h : LP q l) (hx : big64 x) (hl : l.length < q) : LP q (l ++ [x]) := by
  refine ⟨by simp; omega, fun i => ?_⟩
  rcases Nat.lt_trichotomy i l.length with h1 | h1 | h1
  · have := h.2 i; simpa [List.getD, List.getElem?_append_left h1] using this
  · subst h1; simpa [List.getD] using hx
  · have e : (l ++ [x]).getD i 0 = 0 := by rw [List.getD, List.getElem?_eq_none (by simp; omega)]; rfl
    rw [e]; simp [big64]
theorem LP.set {q : Nat} {l : List Int} {x : Int} {j : Nat} (h : LP q l) (hx : big64 x) : LP q (l.set j x) := by
  refine ⟨by simp; exact h.1, fun i => ?_⟩
  by_cases e : i = j
  · subst e
    by_cases hi : i < l.length
    · simpa [List.getD, hi] using hx
    · have e : (l.set i x).getD i 0 = 0 := by rw [List.getD, List.getElem?_eq_none (by simp; omega)]; rfl
      rw [e]; simp [big64]
  · have := h.2 i; simpa [List.getD, List.getElem?_set_ne (fun h => e h.symm)] using this
theorem LP.mono {q q' : Nat} {l : List Int} (h : LP q l) (hq : q ≤ q') : LP q' l := ⟨Nat.le_trans h.1 hq, h.2⟩
/-- The ways through an if meet again. -/
theorem AWP.condX [Cx] {P : Program} {N t : Nat} {x1 x2 y : Code} {Q Q' : Exit → ASt → Prop} {s : ASt} {ι : Type} (inv : ι → ASt) (G : ι → Prop) (h : AWP N P (.cond (.tmp t) x1 x2) (thenQ (fun s' => ∃ i, G i ∧ ∃ m, EntR m s' (inv i)) Q') s) (h' : Later (∀ i, G i → AWP N P y Q (inv i))) : AWP N P (.cond (.tmp t) x1 x2) (thenQ (AWP N P y Q) Q') s :=
  fun w0 S0 a w hN sim => wp_mono (h w0 S0 a w hN sim) fun e a' w' ⟨s', hq, sim'⟩ => by
    cases e with
    | normal => obtain ⟨i, hG, m, hq⟩ := hq; obtain ⟨w1, hR, sim'⟩ := sim'; exact ⟨inv i, h' i hG, w1, hR, EntR.sim hq sim'⟩
    | _ => exact ⟨s', hq, sim'⟩

theorem AWP.mono [Cx] {P : Program} {N : Nat} {c : Code} {Q Q' : Exit → ASt → Prop} {s : ASt} (h : AWP N P c Q s) (hQ : ∀ e s', Q e s' → Q' e s') : AWP N P c Q' s :=
  fun w0 S0 a w hN sim => wp_mono (h w0 S0 a w hN sim) fun e a' w' ⟨s', hq, sim'⟩ => ⟨s', hQ e s' hq, sim'⟩
section
variable {b m : Nat} {Z : Nat → Prop} {g : Nat → Int}

end
end Go.Proofs.YteapdildbfimnaaGreatDoor
namespace Go.Proofs.YteapdildbfimnaaGreatDoor
open Go.RowKit Go.Proofs
set_option linter.unusedSimpArgs false
set_option linter.unusedVariables false

end Go.Proofs.YteapdildbfimnaaGreatDoor
