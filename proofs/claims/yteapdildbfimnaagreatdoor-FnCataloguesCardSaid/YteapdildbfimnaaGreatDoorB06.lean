/- Parts of the proof of LawFnCatalogues: contracts of functions, laws of an abstract state, plain facts. No conditions. -/
import Derived.Test.YteapdildbfimnaaGreatDoorB05
import Derived.Shelf.SlSortCmp.NoneTotal
import Derived.Lib.SliceRun
import Derived.Deep.LoopGhost
namespace Go.Proofs.YteapdildbfimnaaGreatDoor
open Go.RowKit Go.Proofs
set_option linter.unusedSimpArgs false
set_option linter.unusedVariables false

theorem cmp_of {a b : ByteArray} : (ltB a b = true → Lib.compareBytes a.data.toList b.data.toList < 0) ∧ (ltB a b = false → 0 ≤ Lib.compareBytes a.data.toList b.data.toList) := by
  have h := cmp_ge (a := a) (b := b)
  cases e : ltB a b with
  | true =>
    rw [e] at h
    refine ⟨fun _ => ?_, fun h => (nomatch h)⟩
    simpa using h
  | false =>
    rw [e] at h
    refine ⟨fun h => (nomatch h), fun _ => ?_⟩
    simpa using h

set_option maxHeartbeats 2000000 in
theorem isCatalogue_fn (L : List (List T3)) (hl : L.length ≤ 1099511627776) (hr : ∀ i, i < L.length → (tsAt L i).length ≤ 1099511627776) : Fn Tryz.prog 28 [termss L] (.one (.pv (vb (ctB L)))) := by
  have hnf := normalForms_E L hl hr
  refine Fn.of_body Tryz.call28 Tryz.func28 rfl Tryz.ntmps28 (ts := [2]) rfl (by simp) rfl (fun N => ?_)
  cases hb : nfB L with
  | false =>
    rw [ctB_nf hb]
    rw [hb] at hnf
    simp only [if_false, Bool.false_eq_true] at hnf
    repeat' (first | ((with_reducible show callEK _ _ _ _ _ _ _); simp only [callEK, opd, upd, lookup, argsK, bringIn, Res.list, Res.slot, List.reverse_cons, List.reverse_nil, List.nil_append, List.cons_append, Nat.reduceEqDiff, Nat.reduceLT, ↓reduceIte, eq_self, true_and]; refine ⟨_, hnf, ?_⟩; rintro _ ⟨F1, hF1, rfl⟩ hnew; simp only [Res.list, NewL, and_true, true_and] at hnew; simp only [bring, List.nil_append, List.length_nil]) | (with_reducible first | refine then_normal ?_ | refine then_ret ?_ | refine then_exit ?_ | refine block_normal ?_ | refine block_ret ?_) | ((with_reducible show blockQ _ _ _ _); first | refine block_exit ?_ | refine block_exit_ne rfl ?_) | ((with_reducible show AWP _ _ _ _ _); first | (refine AWP.region_callE (f := 22) (os1 := [_]) ?_) | (with_reducible first | refine AWP.seq ?_ | refine AWP.block ?_ | refine AWP.region ?_ | refine AWP.ret ?_ | refine AWP.exit ?_ | refine AWP.skip ?_) | refine AWP.drawn rfl (by kernel_rfl) ?_ | refine AWP.cond rfl ?_ ?_) | with_reducible refine ev_nil ?_ | ((first | ((with_reducible show evOps _ _ _ _ _ _); (first | refine ev_step rfl ?_ | refine ev_undef rfl rfl rfl ?_); intro K hK) | ((with_reducible show EvOpen _ _ _ _ _ _ _); refine ev_open ?_; intro K hK) | ((with_reducible show SkOpen _ _ _ _ _ _ _); refine sk_open ?_; intro K hK) | ((with_reducible show callK _ _ _ _ _ _ _ _); first  | fail)); simp only [evOp, evQ, withS, opd, kput, putS, upd, lookup, slotsOf, List.getElem?_cons_zero, List.getElem?_cons_succ, Nat.reduceEqDiff, Nat.reduceLT, ↓reduceIte, eq_self, true_and, Bool.not_false]) | refine ev_guard rfl rfl rfl ?_ ?_ | ((with_reducible show retQ _ _ _ _); simp only [retQ, retOk, getL, lookup, Option.map_some, fitsL, fits, ND, srcs, Res.list, VE, Nat.reduceEqDiff, ↓reduceIte, and_true]) | (with_reducible refine hK _ ?_; clear hK K) | (with_reducible refine And.intro ?_ ?_) | (with_reducible intro hc; try simp only [Bool.true_eq_false] at hc) | omega)
    all_goals first
      | (exfalso; omega)
      | trace_state
  | true =>
    have h10 : L.length ≤ 10 := by
      by_cases h : L.length ≤ 10
      · exact h
      · rw [nfB_long h] at hb; cases hb
    have hok : ∀ i, i < L.length → okAt L i = true := fun i hi => by
      unfold nfB at hb
      simp only [Bool.and_eq_true] at hb
      exact allN_iff.1 hb.2 i hi
    rw [hb] at hnf
    simp only [if_true] at hnf
    repeat' (first | ((with_reducible show callEK _ _ _ _ _ _ _); simp only [callEK, opd, upd, lookup, argsK, bringIn, Res.list, Res.slot, List.reverse_cons, List.reverse_nil, List.nil_append, List.cons_append, Nat.reduceEqDiff, Nat.reduceLT, ↓reduceIte, eq_self, true_and]; refine ⟨_, hnf, ?_⟩; rintro _ ⟨F1, hF1, rfl⟩ hnew; simp only [Res.list, NewL, and_true, true_and] at hnew; simp only [bring, List.nil_append, List.length_nil]) | (with_reducible first | refine then_normal ?_ | refine then_ret ?_ | refine then_exit ?_ | refine block_normal ?_ | refine block_ret ?_) | ((with_reducible show blockQ _ _ _ _); first | refine block_exit ?_ | refine block_exit_ne rfl ?_) | ((with_reducible show AWP _ _ _ _ _); first | (refine AWP.region_callE (f := 22) (os1 := [_]) ?_) | (with_reducible first | refine AWP.seq ?_ | refine AWP.block ?_ | refine AWP.region ?_ | refine AWP.ret ?_ | refine AWP.exit ?_ | refine AWP.skip ?_) | refine AWP.drawn rfl (by kernel_rfl) ?_ | refine AWP.cond rfl ?_ ?_) | with_reducible refine ev_nil ?_ | ((first | ((with_reducible show evOps _ _ _ _ _ _); (first | refine ev_step rfl ?_ | refine ev_undef rfl rfl rfl ?_); intro K hK) | ((with_reducible show EvOpen _ _ _ _ _ _ _); refine ev_open ?_; intro K hK) | ((with_reducible show SkOpen _ _ _ _ _ _ _); refine sk_open ?_; intro K hK) | ((with_reducible show callK _ _ _ _ _ _ _ _); first  | fail)); simp only [evOp, evQ, evB, withS, opd, kput, putS, upd, lookup, slotsOf, sz_termss, List.getElem?_cons_zero, List.getElem?_cons_succ, Nat.reduceEqDiff, Nat.reduceLT, ↓reduceIte, eq_self, true_and, Bool.not_true, Option.isSome_some]) | refine ev_guard rfl rfl rfl ?_ ?_ | ((with_reducible show retQ _ _ _ _); simp only [eq_self]) | (with_reducible refine hK _ ?_; clear hK K) | (with_reducible refine And.intro ?_ ?_) | (with_reducible intro hc; try simp only [reduceCtorEq] at hc) | omega)
    all_goals try (exfalso; omega; done)
    clear hnew
    refine AWP.loop_ent (fun i : Nat => ⟨[(0, .one (.pv (termss L))), (3, .one (.own 0 1 0 L.length)), (14, .one (.pv (termss L))), (15, sc (.int .i64 L.length)), (16, sc (.int .i64 i))], [some ⟨32, L.length, F1⟩], 43⟩)
      (fun i => i ≤ L.length ∧ ∀ j, j < i → ctkB L j = true) (fun i => L.length - i) 0 ⟨by omega, fun j hj => by omega⟩ (by simp [Ent, EntS, EntH, SlE, VE, VE.rfl', lookup, BE]) ?_
    rintro i ⟨hi, hall⟩
    by_cases him : i < L.length
    · have hF := (hF1 i him).1
      have hone := hF.one
      have hoki := hok i him
      have heq := (slicesEqual_fn (nfAt L i) (tsAt L i) (Nat.le_trans (nfAt_le L i) (hr i him)) (hr i him)).bare (vs' := [F1 i, terms (tsAt L i)]) ⟨hF.bare, VE.rfl' (terms (tsAt L i)), trivial⟩
      cases he : eqTL (nfAt L i) (tsAt L i) with
      | false =>
        rw [he] at heq
        rw [ctB_no him (ctkB_no2 he)]
        repeat' (first | (with_reducible first | refine then_normal ?_ | refine then_ret ?_ | refine then_exit ?_ | refine block_normal ?_ | refine block_ret ?_) | ((with_reducible show blockQ _ _ _ _); first | refine block_exit ?_ | refine block_exit_ne rfl ?_) | ((with_reducible show AWP _ _ _ _ _); first | (with_reducible first | refine AWP.seq ?_ | refine AWP.block ?_ | refine AWP.region ?_ | refine AWP.ret ?_ | refine AWP.exit ?_ | refine AWP.skip ?_) | refine AWP.drawn rfl (by kernel_rfl) ?_ | refine AWP.cond rfl ?_ ?_) | with_reducible refine ev_nil ?_ | ((first | ((with_reducible show evOps _ _ _ _ _ _); (first | refine ev_step rfl ?_ | refine ev_undef rfl rfl rfl ?_); intro K hK) | ((with_reducible show EvOpen _ _ _ _ _ _ _); refine ev_open ?_; intro K hK) | ((with_reducible show SkOpen _ _ _ _ _ _ _); refine sk_open ?_; intro K hK) | ((with_reducible show callK _ _ _ _ _ _ _ _); first  | (refine call_scalar (heq) (Nat.le_of_ble_eq_true rfl) rfl ?_))); simp only [evOp, evQ, binK, withS, opd, kput, putS, upd, lookup, skipOp, argsK, loadOwn, bringIn, bring, Res.list, Res.slot, sz_termss, c_terms, List.getElem?_cons_zero, List.reverse_cons, List.reverse_nil, List.nil_append, List.cons_append, Nat.reduceEqDiff, Nat.reduceLT, Nat.mul_one, Nat.add_zero, Nat.zero_add, ↓reduceIte, eq_self, true_and, and_true, Bool.not_false, Bool.true_eq_false, false_implies, forall_const, Int.toNat_natCast]) | refine ev_guard rfl rfl rfl ?_ ?_ | ((with_reducible show retQ _ _ _ _); simp only [retQ, retOk, getL, lookup, Option.map_some, fitsL, fits, ND, srcs, Res.list, VE, Value.bool.injEq, Nat.reduceEqDiff, ↓reduceIte, and_true]) | (with_reducible refine hK _ ?_; clear hK K) | (with_reducible refine And.intro ?_ ?_) | (with_reducible intro hc; try simp only [decide_eq_true_eq, decide_eq_false_iff_not, Bool.not_false, Int.not_lt, Bool.true_eq_false] at hc) | omega)
        all_goals first
          | (exfalso; omega)
          | exact hone
          | trace_state
      | true =>
        rw [he] at heq
        obtain ⟨e1, hs, h12⟩ := eq_ts hoki he
        by_cases hi0 : i = 0
        · subst hi0
          repeat' (first | (with_reducible first | refine then_normal ?_ | refine then_ret ?_ | refine then_exit ?_ | refine block_normal ?_ | refine block_ret ?_) | ((with_reducible show blockQ _ _ _ _); first | refine block_exit ?_ | refine block_exit_ne rfl ?_) | ((with_reducible show AWP _ _ _ _ _); first | (with_reducible first | refine AWP.seq ?_ | refine AWP.block ?_ | refine AWP.region ?_ | refine AWP.ret ?_ | refine AWP.exit ?_ | refine AWP.skip ?_) | refine AWP.drawn rfl (by kernel_rfl) ?_ | refine AWP.cond rfl ?_ ?_) | with_reducible refine ev_nil ?_ | ((first | ((with_reducible show evOps _ _ _ _ _ _); (first | refine ev_step rfl ?_ | refine ev_undef rfl rfl rfl ?_); intro K hK) | ((with_reducible show EvOpen _ _ _ _ _ _ _); refine ev_open ?_; intro K hK) | ((with_reducible show SkOpen _ _ _ _ _ _ _); refine sk_open ?_; intro K hK) | ((with_reducible show callK _ _ _ _ _ _ _ _); first  | (refine call_scalar (heq) (Nat.le_of_ble_eq_true rfl) rfl ?_))); simp only [evOp, evQ, binK, withS, opd, kput, putS, upd, lookup, skipOp, argsK, loadOwn, bringIn, bring, Res.list, Res.slot, InK_i64, sz_termss, c_terms, List.getElem?_cons_zero, List.reverse_cons, List.reverse_nil, List.nil_append, List.cons_append, Nat.reduceEqDiff, Nat.reduceLT, Nat.mul_one, Nat.add_zero, Nat.zero_add, ↓reduceIte, eq_self, true_and, Bool.not_true, Bool.false_eq_true, false_implies, forall_const, Int.toNat_natCast]) | refine ev_guard rfl rfl rfl ?_ ?_ | ((with_reducible show retQ _ _ _ _); simp only [retQ, retOk, getL, lookup, Option.map_some, fitsL, fits, ND, srcs, Res.list, VE, Value.bool.injEq, Nat.reduceEqDiff, ↓reduceIte, and_true]) | (with_reducible refine hK _ ?_; clear hK K) | (with_reducible refine And.intro ?_ ?_) | (with_reducible intro hc; try simp only [decide_eq_true_eq, decide_eq_false_iff_not, Bool.not_true, Bool.not_false, Int.not_lt, gt_iff_lt, reduceCtorEq, Bool.true_eq_false] at hc) | omega)
          all_goals first
            | (exfalso; omega)
            | exact hone
            | (exact ⟨0 + 1, ⟨by omega, upto_succ hall (ctkB_yes0 hoki he rfl)⟩, by omega, by simp [Ent, EntS, EntH, SlE, VE, VE.rfl', lookup, BE]⟩)
            | trace_state
        · have hp := hall (i - 1) (by omega)
          obtain ⟨hs', h12'⟩ := ctk_sml hp
          have ei : ((i : Int) - 1).toNat = i - 1 := by omega
          have hcmp : Fn Tryz.prog 48 [terms (tsAt L ((i : Int) - 1).toNat), terms (tsAt L i)] (.one (.pv (vi (Lib.compareBytes (tx (tsAt L (i - 1))).data.toList (tx (tsAt L i)).data.toList)))) := by
            rw [ei]; exact compareTexts_fn (tsAt L (i - 1)) (tsAt L i) hs' hs (by omega) (by omega)
          obtain ⟨c1, c2⟩ := cmp_of (a := tx (tsAt L (i - 1))) (b := tx (tsAt L i))
          cases hlt : ltB (tx (tsAt L (i - 1))) (tx (tsAt L i)) with
          | true =>
            have c := c1 hlt
            clear c1 c2
            generalize Lib.compareBytes (tx (tsAt L (i - 1))).data.toList (tx (tsAt L i)).data.toList = cv at *
            repeat' (first | (with_reducible first | refine then_normal ?_ | refine then_ret ?_ | refine then_exit ?_ | refine block_normal ?_ | refine block_ret ?_) | ((with_reducible show blockQ _ _ _ _); first | refine block_exit ?_ | refine block_exit_ne rfl ?_) | ((with_reducible show AWP _ _ _ _ _); first | (with_reducible first | refine AWP.seq ?_ | refine AWP.block ?_ | refine AWP.region ?_ | refine AWP.ret ?_ | refine AWP.exit ?_ | refine AWP.skip ?_) | refine AWP.drawn rfl (by kernel_rfl) ?_ | refine AWP.cond rfl ?_ ?_) | with_reducible refine ev_nil ?_ | ((first | ((with_reducible show evOps _ _ _ _ _ _); (first | refine ev_step rfl ?_ | refine ev_undef rfl rfl rfl ?_); intro K hK) | ((with_reducible show EvOpen _ _ _ _ _ _ _); refine ev_open ?_; intro K hK) | ((with_reducible show SkOpen _ _ _ _ _ _ _); refine sk_open ?_; intro K hK) | ((with_reducible show callK _ _ _ _ _ _ _ _); first  | (refine call_scalar (heq) (Nat.le_of_ble_eq_true rfl) rfl ?_) | (refine call_scalar (hcmp) (Nat.le_of_ble_eq_true rfl) rfl ?_))); simp only [evOp, evQ, binK, withS, opd, kput, putS, upd, lookup, skipOp, argsK, loadOwn, bringIn, bring, Res.list, Res.slot, InK_i64, sz_termss, c_terms, List.getElem?_cons_zero, List.reverse_cons, List.reverse_nil, List.nil_append, List.cons_append, Nat.reduceEqDiff, Nat.reduceLT, Nat.mul_one, Nat.add_zero, Nat.zero_add, ↓reduceIte, eq_self, true_and, and_true, Bool.not_true, Bool.true_eq_false, Bool.false_eq_true, false_implies, forall_const, Int.toNat_natCast]) | refine ev_guard rfl rfl rfl ?_ ?_ | ((with_reducible show retQ _ _ _ _); simp only [retQ, retOk, getL, lookup, Option.map_some, fitsL, fits, ND, srcs, Res.list, VE, Value.bool.injEq, Nat.reduceEqDiff, ↓reduceIte, and_true]) | (with_reducible refine hK _ ?_; clear hK K) | (with_reducible refine And.intro ?_ ?_) | (with_reducible intro hc; try simp only [decide_eq_true_eq, decide_eq_false_iff_not, Bool.not_true, Bool.not_false, Int.not_lt, Int.not_le, gt_iff_lt, ge_iff_le, reduceCtorEq, Bool.true_eq_false] at hc) | omega)
            all_goals first
              | (exfalso; omega)
              | exact hone
              | (exact ⟨i + 1, ⟨by omega, upto_succ hall (ctkB_yes hoki he hlt)⟩, by omega, by simp [Ent, EntS, EntH, SlE, VE, VE.rfl', lookup, BE]⟩)
              | trace_state
          | false =>
            have c := c2 hlt
            clear c1 c2
            rw [ctB_no him (ctkB_no3 hi0 hlt)]
            generalize Lib.compareBytes (tx (tsAt L (i - 1))).data.toList (tx (tsAt L i)).data.toList = cv at *
            repeat' (first | (with_reducible first | refine then_normal ?_ | refine then_ret ?_ | refine then_exit ?_ | refine block_normal ?_ | refine block_ret ?_) | ((with_reducible show blockQ _ _ _ _); first | refine block_exit ?_ | refine block_exit_ne rfl ?_) | ((with_reducible show AWP _ _ _ _ _); first | (with_reducible first | refine AWP.seq ?_ | refine AWP.block ?_ | refine AWP.region ?_ | refine AWP.ret ?_ | refine AWP.exit ?_ | refine AWP.skip ?_) | refine AWP.drawn rfl (by kernel_rfl) ?_ | refine AWP.cond rfl ?_ ?_) | with_reducible refine ev_nil ?_ | ((first | ((with_reducible show evOps _ _ _ _ _ _); (first | refine ev_step rfl ?_ | refine ev_undef rfl rfl rfl ?_); intro K hK) | ((with_reducible show EvOpen _ _ _ _ _ _ _); refine ev_open ?_; intro K hK) | ((with_reducible show SkOpen _ _ _ _ _ _ _); refine sk_open ?_; intro K hK) | ((with_reducible show callK _ _ _ _ _ _ _ _); first  | (refine call_scalar (heq) (Nat.le_of_ble_eq_true rfl) rfl ?_) | (refine call_scalar (hcmp) (Nat.le_of_ble_eq_true rfl) rfl ?_))); simp only [evOp, evQ, binK, withS, opd, kput, putS, upd, lookup, skipOp, argsK, loadOwn, bringIn, bring, Res.list, Res.slot, InK_i64, sz_termss, c_terms, List.getElem?_cons_zero, List.reverse_cons, List.reverse_nil, List.nil_append, List.cons_append, Nat.reduceEqDiff, Nat.reduceLT, Nat.mul_one, Nat.add_zero, Nat.zero_add, ↓reduceIte, eq_self, true_and, and_true, Bool.not_true, Bool.true_eq_false, Bool.false_eq_true, false_implies, forall_const, Int.toNat_natCast]) | refine ev_guard rfl rfl rfl ?_ ?_ | ((with_reducible show retQ _ _ _ _); simp only [retQ, retOk, getL, lookup, Option.map_some, fitsL, fits, ND, srcs, Res.list, VE, Value.bool.injEq, Nat.reduceEqDiff, ↓reduceIte, and_true]) | (with_reducible refine hK _ ?_; clear hK K) | (with_reducible refine And.intro ?_ ?_) | (with_reducible intro hc; try simp only [decide_eq_true_eq, decide_eq_false_iff_not, Bool.not_true, Bool.not_false, Int.not_lt, Int.not_le, gt_iff_lt, ge_iff_le, reduceCtorEq, Bool.true_eq_false] at hc) | omega)
            all_goals first
              | (exfalso; omega)
              | exact hone
              | trace_state
    · obtain rfl : i = L.length := by omega
      rw [ctB_yes hall, decide_eq_true h10]
      repeat' (first | (with_reducible first | refine then_normal ?_ | refine then_ret ?_ | refine then_exit ?_ | refine block_normal ?_ | refine block_ret ?_) | ((with_reducible show blockQ _ _ _ _); first | refine block_exit ?_ | refine block_exit_ne rfl ?_) | ((with_reducible show AWP _ _ _ _ _); first | (with_reducible first | refine AWP.seq ?_ | refine AWP.block ?_ | refine AWP.region ?_ | refine AWP.ret ?_ | refine AWP.exit ?_ | refine AWP.skip ?_) | refine AWP.drawn rfl (by kernel_rfl) ?_ | refine AWP.cond rfl ?_ ?_) | with_reducible refine ev_nil ?_ | ((first | ((with_reducible show evOps _ _ _ _ _ _); (first | refine ev_step rfl ?_ | refine ev_undef rfl rfl rfl ?_); intro K hK) | ((with_reducible show EvOpen _ _ _ _ _ _ _); refine ev_open ?_; intro K hK) | ((with_reducible show SkOpen _ _ _ _ _ _ _); refine sk_open ?_; intro K hK) | ((with_reducible show callK _ _ _ _ _ _ _ _); first | fail)); simp only [evOp, evQ, binK, withS, opd, kput, putS, upd, lookup, argsK, loadOwn, sz_termss, c_terms, List.getElem?_cons_zero, List.reverse_cons, List.reverse_nil, List.nil_append, List.cons_append, Nat.reduceEqDiff, Nat.reduceLT, Nat.mul_one, Nat.add_zero, Nat.zero_add, ↓reduceIte, eq_self, true_and, Int.toNat_natCast]) | refine ev_guard rfl rfl rfl ?_ ?_ | ((with_reducible show retQ _ _ _ _); simp only [retQ, retOk, getL, lookup, Option.map_some, fitsL, fits, ND, srcs, Res.list, VE, Nat.reduceEqDiff, ↓reduceIte, and_true]) | (with_reducible refine hK _ ?_; clear hK K) | (with_reducible refine And.intro ?_ ?_) | (with_reducible intro hc; try simp only [decide_eq_true_eq, decide_eq_false_iff_not, Int.not_lt] at hc) | omega)
      all_goals first
        | (exfalso; omega)
        | trace_state

set_option maxHeartbeats 2000000 in
theorem ctGood_fn (L : List (List T3)) (hl : L.length ≤ 1099511627776) (hr : ∀ i, i < L.length → (tsAt L i).length ≤ 1099511627776) : Fn Tryz.prog 32 [termss L] (.one (.pv (vb (ctB L)))) := by
  refine Fn.of_body Tryz.call32 Tryz.func32 rfl Tryz.ntmps32 (ts := [2]) rfl (by simp) rfl (fun N => ?_)
  repeat' (first | (with_reducible first | refine then_normal ?_ | refine then_ret ?_ | refine then_exit ?_ | refine block_normal ?_ | refine block_ret ?_) | ((with_reducible show blockQ _ _ _ _); first | refine block_exit ?_ | refine block_exit_ne rfl ?_) | ((with_reducible show AWP _ _ _ _ _); first | (with_reducible first | refine AWP.seq ?_ | refine AWP.block ?_ | refine AWP.region ?_ | refine AWP.ret ?_ | refine AWP.exit ?_ | refine AWP.skip ?_) | refine AWP.drawn rfl (by kernel_rfl) ?_ | refine AWP.cond rfl ?_ ?_) | with_reducible refine ev_nil ?_ | ((first | ((with_reducible show evOps _ _ _ _ _ _); (first | refine ev_step rfl ?_ | refine ev_undef rfl rfl rfl ?_); intro K hK) | ((with_reducible show EvOpen _ _ _ _ _ _ _); refine ev_open ?_; intro K hK) | ((with_reducible show SkOpen _ _ _ _ _ _ _); refine sk_open ?_; intro K hK) | ((with_reducible show callK _ _ _ _ _ _ _ _); first | fail)); simp only [evOp, evQ, evB, withS, opd, kput, putS, upd, lookup, slotsOf, sz_termss, Nat.reduceEqDiff, Nat.reduceLT, ↓reduceIte, eq_self, true_and, Option.isSome_some]) | refine ev_guard rfl rfl rfl ?_ ?_ | ((with_reducible show retQ _ _ _ _); simp only [eq_self]) | (with_reducible refine hK _ ?_; clear hK K) | (with_reducible refine And.intro ?_ ?_) | (with_reducible intro hc; try simp only [eq_self] at hc) | omega)
  all_goals try (exfalso; omega; done)
  refine AWP.loop_entR [] (fun i : Nat => ⟨[(0, .one (.pv (termss L))), (7, .one (.pv (termss L))), (8, sc (.int .i64 L.length)), (9, sc (.int .i64 i))], [], 46⟩)
    (fun i => i ≤ L.length ∧ ∀ j, j < i → ctkB L j = true) (fun i => L.length - i) 0 ⟨by omega, fun j hj => by omega⟩ (by simp [EntR, EntSR, EntHR, SlR, VE, VE.rfl', lookup, BE, upd, sc]) ?_
  rintro i ⟨hi, hall⟩
  by_cases him : i < L.length
  · have hnp := specNormalPlane_fn (tsAt L i) (hr i him)
    have e1 : (normR (tsAt L i)).1 = nfAt L i := rfl
    have e2 : (normR (tsAt L i)).2 = okAt L i := rfl
    rw [e1, e2] at hnp
    have heq := ctSame_fn (nfAt L i) (tsAt L i) (Nat.le_trans (nfAt_le L i) (hr i him)) (hr i him)
    cases hoki : okAt L i with
    | false =>
      rw [hoki] at hnp
      rw [ctB_no him (ctkB_no1 hoki)]
      repeat' (first | (with_reducible first | refine then_normal ?_ | refine then_ret ?_ | refine then_exit ?_ | refine block_normal ?_ | refine block_ret ?_) | ((with_reducible show blockQ _ _ _ _); first | refine block_exit ?_ | refine block_exit_ne rfl ?_) | ((with_reducible show AWP _ _ _ _ _); first | (with_reducible first | refine AWP.seq ?_ | refine AWP.block ?_ | refine AWP.region ?_ | refine AWP.ret ?_ | refine AWP.exit ?_ | refine AWP.skip ?_) | refine AWP.drawn rfl (by kernel_rfl) ?_ | refine AWP.cond rfl ?_ ?_) | with_reducible refine ev_nil ?_ | ((first | ((with_reducible show evOps _ _ _ _ _ _); (first | refine ev_step rfl ?_ | refine ev_undef rfl rfl rfl ?_); intro K hK) | ((with_reducible show EvOpen _ _ _ _ _ _ _); refine ev_open ?_; intro K hK) | ((with_reducible show SkOpen _ _ _ _ _ _ _); refine sk_open ?_; intro K hK) | ((with_reducible show callK _ _ _ _ _ _ _ _); first  | (refine call_safe ( hnp) (Nat.le_of_ble_eq_true rfl) (by repeat' (first | exact trivial | refine ⟨fun _ _ => ⟨_, rfl⟩, ?_⟩)) ?_))); simp only [evOp, evQ, evB, binK, withS, opd, kput, putS, upd, lookup, skipOp, argsK, bringIn, bring, Res.list, Res.slot, bterms, sz_termss, c_terms, List.getElem?_cons_zero, List.getElem?_cons_succ, List.reverse_cons, List.reverse_nil, List.nil_append, List.length_nil, Nat.reduceEqDiff, Nat.reduceLT, Nat.mul_one, Nat.add_zero, ↓reduceIte, eq_self, true_and, and_true, Bool.not_false, Bool.true_eq_false, false_implies, forall_const, Int.toNat_natCast, Option.isSome_some]) | refine ev_guard rfl rfl rfl ?_ ?_ | ((with_reducible show retQ _ _ _ _); simp only [retQ, retOk, getL, lookup, Option.map_some, fitsL, fits, ND, srcs, Res.list, VE, Value.bool.injEq, Nat.reduceEqDiff, ↓reduceIte, and_true]) | (with_reducible refine hK _ ?_; clear hK K) | (with_reducible refine And.intro ?_ ?_) | (with_reducible intro hc; try simp only [decide_eq_true_eq, decide_eq_false_iff_not, Bool.not_false, Int.not_lt, Bool.true_eq_false] at hc) | omega)
      all_goals first
        | (exfalso; omega)
        | trace_state
    | true =>
      rw [hoki] at hnp
      cases he : eqTL (nfAt L i) (tsAt L i) with
      | false =>
        rw [he] at heq
        rw [ctB_no him (ctkB_no2 he)]
        repeat' (first | (with_reducible first | refine then_normal ?_ | refine then_ret ?_ | refine then_exit ?_ | refine block_normal ?_ | refine block_ret ?_) | ((with_reducible show blockQ _ _ _ _); first | refine block_exit ?_ | refine block_exit_ne rfl ?_) | ((with_reducible show AWP _ _ _ _ _); first | (with_reducible first | refine AWP.seq ?_ | refine AWP.block ?_ | refine AWP.region ?_ | refine AWP.ret ?_ | refine AWP.exit ?_ | refine AWP.skip ?_) | refine AWP.drawn rfl (by kernel_rfl) ?_ | refine AWP.cond rfl ?_ ?_) | with_reducible refine ev_nil ?_ | ((first | ((with_reducible show evOps _ _ _ _ _ _); (first | refine ev_step rfl ?_ | refine ev_undef rfl rfl rfl ?_); intro K hK) | ((with_reducible show EvOpen _ _ _ _ _ _ _); refine ev_open ?_; intro K hK) | ((with_reducible show SkOpen _ _ _ _ _ _ _); refine sk_open ?_; intro K hK) | ((with_reducible show callK _ _ _ _ _ _ _ _); first  | (refine call_safe ( hnp) (Nat.le_of_ble_eq_true rfl) (by repeat' (first | exact trivial | refine ⟨fun _ _ => ⟨_, rfl⟩, ?_⟩)) ?_) | (refine call_scalar (heq) (Nat.le_of_ble_eq_true rfl) rfl ?_))); simp only [evOp, evQ, evB, binK, withS, opd, kput, putS, upd, lookup, skipOp, argsK, bringIn, bring, Res.list, Res.slot, bterms, sz_termss, c_terms, List.getElem?_cons_zero, List.getElem?_cons_succ, List.reverse_cons, List.reverse_nil, List.nil_append, List.cons_append, List.length_nil, Nat.reduceEqDiff, Nat.reduceLT, Nat.mul_one, Nat.add_zero, Nat.zero_add, ↓reduceIte, eq_self, true_and, and_true, Bool.not_true, Bool.not_false, Bool.true_eq_false, Bool.false_eq_true, false_implies, forall_const, Int.toNat_natCast, Option.isSome_some]) | refine ev_guard rfl rfl rfl ?_ ?_ | ((with_reducible show retQ _ _ _ _); simp only [retQ, retOk, getL, lookup, Option.map_some, fitsL, fits, ND, srcs, Res.list, VE, Value.bool.injEq, Nat.reduceEqDiff, ↓reduceIte, and_true]) | (with_reducible refine hK _ ?_; clear hK K) | (with_reducible refine And.intro ?_ ?_) | (with_reducible intro hc; try simp only [decide_eq_true_eq, decide_eq_false_iff_not, Bool.not_false, Int.not_lt, reduceCtorEq, Bool.true_eq_false] at hc) | omega)
        all_goals first
          | (exfalso; omega)
          | trace_state
      | true =>
        rw [he] at heq
        obtain ⟨e1, hs, h12⟩ := eq_ts hoki he
        by_cases hi0 : i = 0
        · subst hi0
          repeat' (first | (with_reducible first | refine then_normal ?_ | refine then_ret ?_ | refine then_exit ?_ | refine block_normal ?_ | refine block_ret ?_) | ((with_reducible show blockQ _ _ _ _); first | refine block_exit ?_ | refine block_exit_ne rfl ?_) | ((with_reducible show AWP _ _ _ _ _); first | (with_reducible first | refine AWP.seq ?_ | refine AWP.block ?_ | refine AWP.region ?_ | refine AWP.ret ?_ | refine AWP.exit ?_ | refine AWP.skip ?_) | refine AWP.drawn rfl (by kernel_rfl) ?_ | refine AWP.cond rfl ?_ ?_) | with_reducible refine ev_nil ?_ | ((first | ((with_reducible show evOps _ _ _ _ _ _); (first | refine ev_step rfl ?_ | refine ev_undef rfl rfl rfl ?_); intro K hK) | ((with_reducible show EvOpen _ _ _ _ _ _ _); refine ev_open ?_; intro K hK) | ((with_reducible show SkOpen _ _ _ _ _ _ _); refine sk_open ?_; intro K hK) | ((with_reducible show callK _ _ _ _ _ _ _ _); first  | (refine call_safe ( hnp) (Nat.le_of_ble_eq_true rfl) (by repeat' (first | exact trivial | refine ⟨fun _ _ => ⟨_, rfl⟩, ?_⟩)) ?_) | (refine call_scalar (heq) (Nat.le_of_ble_eq_true rfl) rfl ?_))); simp only [evOp, evQ, evB, binK, withS, opd, kput, putS, upd, lookup, skipOp, argsK, bringIn, bring, Res.list, Res.slot, InK_i64, bterms, sz_termss, c_terms, List.getElem?_cons_zero, List.getElem?_cons_succ, List.reverse_cons, List.reverse_nil, List.nil_append, List.cons_append, List.length_nil, Nat.reduceEqDiff, Nat.reduceLT, Nat.mul_one, Nat.add_zero, Nat.zero_add, ↓reduceIte, eq_self, true_and, Bool.not_true, Bool.false_eq_true, false_implies, forall_const, Int.toNat_natCast, Option.isSome_some]) | refine ev_guard rfl rfl rfl ?_ ?_ | ((with_reducible show retQ _ _ _ _); simp only [retQ, retOk, getL, lookup, Option.map_some, fitsL, fits, ND, srcs, Res.list, VE, Value.bool.injEq, Nat.reduceEqDiff, ↓reduceIte, and_true]) | (with_reducible refine hK _ ?_; clear hK K) | (with_reducible refine And.intro ?_ ?_) | (with_reducible intro hc; try simp only [decide_eq_true_eq, decide_eq_false_iff_not, Bool.not_true, Bool.not_false, Int.not_lt, gt_iff_lt, reduceCtorEq, Bool.true_eq_false] at hc) | omega)
          all_goals first
            | (exfalso; omega)
            | (exact ⟨0 + 1, ⟨by omega, upto_succ hall (ctkB_yes0 hoki he rfl)⟩, by omega, [], rfl, by decide, by simp [EntSR, SlR, VE, lookup, sc, VE.rfl'], trivial⟩)
            | trace_state
        · have hp := hall (i - 1) (by omega)
          obtain ⟨hs', h12'⟩ := ctk_sml hp
          have ei : ((i : Int) - 1).toNat = i - 1 := by omega
          have ht1 : Fn Tryz.prog 41 [terms (tsAt L ((i : Int) - 1).toNat)] (.one (.pv (vs (tx (tsAt L (i - 1)))))) := by
            rw [ei]; exact plText_fn (tsAt L (i - 1)) hs' (by omega)
          have ht2 := plText_fn (tsAt L i) hs (by omega)
          have elt : Op.bytesLess (bytesOf (tx (tsAt L (i - 1)))) (bytesOf (tx (tsAt L i))) = ltB (tx (tsAt L (i - 1))) (tx (tsAt L i)) := rfl
          cases hlt : ltB (tx (tsAt L (i - 1))) (tx (tsAt L i)) with
          | true =>
            have hk := ctkB_yes hoki he hlt
            rw [hlt] at elt
            generalize tx (tsAt L (i - 1)) = t1 at *
            generalize tx (tsAt L i) = t2 at *
            repeat' (first | (with_reducible first | refine then_normal ?_ | refine then_ret ?_ | refine then_exit ?_ | refine block_normal ?_ | refine block_ret ?_) | ((with_reducible show blockQ _ _ _ _); first | refine block_exit ?_ | refine block_exit_ne rfl ?_) | ((with_reducible show AWP _ _ _ _ _); first | (with_reducible first | refine AWP.seq ?_ | refine AWP.block ?_ | refine AWP.region ?_ | refine AWP.ret ?_ | refine AWP.exit ?_ | refine AWP.skip ?_) | refine AWP.drawn rfl (by kernel_rfl) ?_ | refine AWP.cond rfl ?_ ?_) | with_reducible refine ev_nil ?_ | ((first | ((with_reducible show evOps _ _ _ _ _ _); (first | refine ev_step rfl ?_ | refine ev_undef rfl rfl rfl ?_); intro K hK) | ((with_reducible show EvOpen _ _ _ _ _ _ _); refine ev_open ?_; intro K hK) | ((with_reducible show SkOpen _ _ _ _ _ _ _); refine sk_open ?_; intro K hK) | ((with_reducible show callK _ _ _ _ _ _ _ _); first  | (refine call_safe ( hnp) (Nat.le_of_ble_eq_true rfl) (by repeat' (first | exact trivial | refine ⟨fun _ _ => ⟨_, rfl⟩, ?_⟩)) ?_) | (refine call_scalar (heq) (Nat.le_of_ble_eq_true rfl) rfl ?_) | (refine call_scalar (ht1) (Nat.le_of_ble_eq_true rfl) rfl ?_) | (refine call_scalar (ht2) (Nat.le_of_ble_eq_true rfl) rfl ?_))); simp only [evOp, evQ, evB, binK, withS, opd, kput, putS, upd, lookup, skipOp, argsK, bringIn, bring, Res.list, Res.slot, InK_i64, bterms, sz_termss, c_terms, List.getElem?_cons_zero, List.getElem?_cons_succ, List.reverse_cons, List.reverse_nil, List.nil_append, List.cons_append, List.length_nil, Nat.reduceEqDiff, Nat.reduceLT, Nat.mul_one, Nat.add_zero, Nat.zero_add, ↓reduceIte, eq_self, true_and, and_true, Bool.not_true, Bool.true_eq_false, Bool.false_eq_true, false_implies, forall_const, Int.toNat_natCast, Option.isSome_some]) | refine ev_guard rfl rfl rfl ?_ ?_ | ((with_reducible show retQ _ _ _ _); simp only [retQ, retOk, getL, lookup, Option.map_some, fitsL, fits, ND, srcs, Res.list, VE, Value.bool.injEq, Nat.reduceEqDiff, ↓reduceIte, and_true]) | (with_reducible refine hK _ ?_; clear hK K) | (with_reducible refine And.intro ?_ ?_) | (with_reducible intro hc; try simp only [decide_eq_true_eq, decide_eq_false_iff_not, Bool.not_eq_true', Bool.not_eq_false', Bool.not_true, Bool.not_false, Int.not_lt, gt_iff_lt, reduceCtorEq, Bool.true_eq_false] at hc) | omega)
            all_goals first
              | (exfalso; omega)
              | (exfalso; rw [elt] at *; simp_all; done)
              | (exact ⟨i + 1, ⟨by omega, upto_succ hall hk⟩, by omega, [], rfl, by decide, by simp [EntSR, SlR, VE, lookup, sc, VE.rfl'], trivial⟩)
              | trace_state
          | false =>
            rw [hlt] at elt
            rw [ctB_no him (ctkB_no3 hi0 hlt)]
            generalize tx (tsAt L (i - 1)) = t1 at *
            generalize tx (tsAt L i) = t2 at *
            repeat' (first | (with_reducible first | refine then_normal ?_ | refine then_ret ?_ | refine then_exit ?_ | refine block_normal ?_ | refine block_ret ?_) | ((with_reducible show blockQ _ _ _ _); first | refine block_exit ?_ | refine block_exit_ne rfl ?_) | ((with_reducible show AWP _ _ _ _ _); first | (with_reducible first | refine AWP.seq ?_ | refine AWP.block ?_ | refine AWP.region ?_ | refine AWP.ret ?_ | refine AWP.exit ?_ | refine AWP.skip ?_) | refine AWP.drawn rfl (by kernel_rfl) ?_ | refine AWP.cond rfl ?_ ?_) | with_reducible refine ev_nil ?_ | ((first | ((with_reducible show evOps _ _ _ _ _ _); (first | refine ev_step rfl ?_ | refine ev_undef rfl rfl rfl ?_); intro K hK) | ((with_reducible show EvOpen _ _ _ _ _ _ _); refine ev_open ?_; intro K hK) | ((with_reducible show SkOpen _ _ _ _ _ _ _); refine sk_open ?_; intro K hK) | ((with_reducible show callK _ _ _ _ _ _ _ _); first  | (refine call_safe ( hnp) (Nat.le_of_ble_eq_true rfl) (by repeat' (first | exact trivial | refine ⟨fun _ _ => ⟨_, rfl⟩, ?_⟩)) ?_) | (refine call_scalar (heq) (Nat.le_of_ble_eq_true rfl) rfl ?_) | (refine call_scalar (ht1) (Nat.le_of_ble_eq_true rfl) rfl ?_) | (refine call_scalar (ht2) (Nat.le_of_ble_eq_true rfl) rfl ?_))); simp only [evOp, evQ, evB, binK, withS, opd, kput, putS, upd, lookup, skipOp, argsK, bringIn, bring, Res.list, Res.slot, InK_i64, bterms, sz_termss, c_terms, List.getElem?_cons_zero, List.getElem?_cons_succ, List.reverse_cons, List.reverse_nil, List.nil_append, List.cons_append, List.length_nil, Nat.reduceEqDiff, Nat.reduceLT, Nat.mul_one, Nat.add_zero, Nat.zero_add, ↓reduceIte, eq_self, true_and, and_true, Bool.not_true, Bool.true_eq_false, Bool.false_eq_true, false_implies, forall_const, Int.toNat_natCast, Option.isSome_some]) | refine ev_guard rfl rfl rfl ?_ ?_ | ((with_reducible show retQ _ _ _ _); simp only [retQ, retOk, getL, lookup, Option.map_some, fitsL, fits, ND, srcs, Res.list, VE, Value.bool.injEq, Nat.reduceEqDiff, ↓reduceIte, and_true]) | (with_reducible refine hK _ ?_; clear hK K) | (with_reducible refine And.intro ?_ ?_) | (with_reducible intro hc; try simp only [decide_eq_true_eq, decide_eq_false_iff_not, Bool.not_eq_true', Bool.not_eq_false', Bool.not_true, Bool.not_false, Int.not_lt, gt_iff_lt, reduceCtorEq, Bool.true_eq_false] at hc) | omega)
            all_goals first
              | (exfalso; omega)
              | (exfalso; rw [elt] at *; simp_all; done)
              | trace_state
  · obtain rfl : i = L.length := by omega
    rw [ctB_yes hall]
    repeat' (first | (with_reducible first | refine then_normal ?_ | refine then_ret ?_ | refine then_exit ?_ | refine block_normal ?_ | refine block_ret ?_) | ((with_reducible show blockQ _ _ _ _); first | refine block_exit ?_ | refine block_exit_ne rfl ?_) | ((with_reducible show AWP _ _ _ _ _); first | (with_reducible first | refine AWP.seq ?_ | refine AWP.block ?_ | refine AWP.region ?_ | refine AWP.ret ?_ | refine AWP.exit ?_ | refine AWP.skip ?_) | refine AWP.drawn rfl (by kernel_rfl) ?_ | refine AWP.cond rfl ?_ ?_) | with_reducible refine ev_nil ?_ | ((first | ((with_reducible show evOps _ _ _ _ _ _); (first | refine ev_step rfl ?_ | refine ev_undef rfl rfl rfl ?_); intro K hK) | ((with_reducible show EvOpen _ _ _ _ _ _ _); refine ev_open ?_; intro K hK) | ((with_reducible show SkOpen _ _ _ _ _ _ _); refine sk_open ?_; intro K hK) | ((with_reducible show callK _ _ _ _ _ _ _ _); first | fail)); simp only [evOp, evQ, evB, binK, withS, opd, kput, putS, upd, lookup, argsK, sz_termss, c_terms, List.reverse_cons, List.reverse_nil, List.nil_append, Nat.reduceEqDiff, Nat.reduceLT, Nat.mul_one, Nat.add_zero, ↓reduceIte, eq_self, true_and, Int.toNat_natCast, Option.isSome_some]) | refine ev_guard rfl rfl rfl ?_ ?_ | ((with_reducible show retQ _ _ _ _); simp only [retQ, retOk, getL, lookup, Option.map_some, fitsL, fits, ND, srcs, Res.list, VE, Value.bool.injEq, Nat.reduceEqDiff, ↓reduceIte, and_true]) | (with_reducible refine hK _ ?_; clear hK K) | (with_reducible refine And.intro ?_ ?_) | (with_reducible intro hc; try simp only [decide_eq_true_eq, decide_eq_false_iff_not, Int.not_lt] at hc) | omega)
    all_goals first
      | (exfalso; omega)
      | (rw [decide_eq_decide.2 (show (L.length : Int) ≤ 10 ↔ L.length ≤ 10 by omega)]; done)
      | exact decide_eq_decide.2 (by omega)
      | trace_state

theorem implIsCatalogue_fn (L : List (List T3)) (hl : L.length ≤ 1099511627776) (hr : ∀ i, i < L.length → (tsAt L i).length ≤ 1099511627776) : Fn Tryz.prog 9 [termss L] (.one (.pv (vb (ctB L)))) := by
  refine Fn.of_body Tryz.call9 Tryz.func9 rfl Tryz.ntmps9 (ts := [2]) rfl (by simp) rfl (fun N => ?_)
  repeat' (first | (with_reducible first | refine then_normal ?_ | refine then_ret ?_ | refine then_exit ?_ | refine block_normal ?_ | refine block_ret ?_) | ((with_reducible show blockQ _ _ _ _); first | refine block_exit ?_ | refine block_exit_ne rfl ?_) | ((with_reducible show AWP _ _ _ _ _); first | (with_reducible first | refine AWP.seq ?_ | refine AWP.block ?_ | refine AWP.region ?_ | refine AWP.ret ?_ | refine AWP.exit ?_ | refine AWP.skip ?_) | refine AWP.drawn rfl (by kernel_rfl) ?_ | refine AWP.cond rfl ?_ ?_) | with_reducible refine ev_nil ?_ | ((first | ((with_reducible show evOps _ _ _ _ _ _); (first | refine ev_step rfl ?_ | refine ev_undef rfl rfl rfl ?_); intro K hK) | ((with_reducible show EvOpen _ _ _ _ _ _ _); refine ev_open ?_; intro K hK) | ((with_reducible show SkOpen _ _ _ _ _ _ _); refine sk_open ?_; intro K hK) | ((with_reducible show callK _ _ _ _ _ _ _ _); first  | (refine call_scalar (isCatalogue_fn L hl hr) (Nat.le_of_ble_eq_true rfl) rfl ?_))); simp only [evOp, evQ, withS, opd, kput, putS, upd, lookup, argsK, bringIn, bring, Res.list, Res.slot, slotsOf, List.reverse_cons, List.reverse_nil, List.nil_append, Nat.reduceEqDiff, Nat.reduceLT, ↓reduceIte, eq_self, true_and]) | refine ev_guard rfl rfl rfl ?_ ?_ | ((with_reducible show retQ _ _ _ _); simp only [retQ, retOk, getL, lookup, Option.map_some, fitsL, fits, ND, srcs, Res.list, VE, Nat.reduceEqDiff, ↓reduceIte, and_true]) | (with_reducible refine hK _ ?_; clear hK K) | (with_reducible refine And.intro ?_ ?_) | (with_reducible intro hc; try simp only [eq_self] at hc) | omega)
theorem implCatText_fn (L : List (List T3)) (hl : L.length ≤ 1099511627776) (hr : ∀ i, i < L.length → (tsAt L i).length ≤ 1099511627776) : Fn Tryz.prog 18 [termss L] (.many [.pv (vs (ctxR L).1), .pv (vb (ctxR L).2)]) := by
  have hct := isCatalogue_fn L hl hr
  refine Fn.of_body Tryz.call18 Tryz.func18 rfl Tryz.ntmps18 (ts := [2, 3]) rfl (by simp) rfl (fun N => ?_)
  cases hb : ctB L with
  | false =>
    rw [hb] at hct
    rw [ctx_no hb]
    repeat' (first | (with_reducible first | refine then_normal ?_ | refine then_ret ?_ | refine then_exit ?_ | refine block_normal ?_ | refine block_ret ?_) | ((with_reducible show blockQ _ _ _ _); first | refine block_exit ?_ | refine block_exit_ne rfl ?_) | ((with_reducible show AWP _ _ _ _ _); first | (with_reducible first | refine AWP.seq ?_ | refine AWP.block ?_ | refine AWP.region ?_ | refine AWP.ret ?_ | refine AWP.exit ?_ | refine AWP.skip ?_) | refine AWP.drawn rfl (by kernel_rfl) ?_ | refine AWP.cond rfl ?_ ?_) | with_reducible refine ev_nil ?_ | ((first | ((with_reducible show evOps _ _ _ _ _ _); (first | refine ev_step rfl ?_ | refine ev_undef rfl rfl rfl ?_); intro K hK) | ((with_reducible show EvOpen _ _ _ _ _ _ _); refine ev_open ?_; intro K hK) | ((with_reducible show SkOpen _ _ _ _ _ _ _); refine sk_open ?_; intro K hK) | ((with_reducible show callK _ _ _ _ _ _ _ _); first  | (refine call_scalar (hct) (Nat.le_of_ble_eq_true rfl) rfl ?_))); simp only [evOp, evQ, withS, opd, kput, putS, upd, lookup, argsK, bringIn, bring, Res.list, Res.slot, slotsOf, List.reverse_cons, List.reverse_nil, List.nil_append, Nat.reduceEqDiff, Nat.reduceLT, ↓reduceIte, eq_self, true_and, Bool.not_false]) | refine ev_guard rfl rfl rfl ?_ ?_ | ((with_reducible show retQ _ _ _ _); simp only [retQ, retOk, getL, lookup, Option.map_some, fitsL, fits, ND, srcs, Res.list, VE, Nat.reduceEqDiff, ↓reduceIte, and_true]) | (with_reducible refine hK _ ?_; clear hK K) | (with_reducible refine And.intro ?_ ?_) | (with_reducible intro hc; try simp only [Bool.true_eq_false] at hc) | omega)
    all_goals trace_state
  | true =>
    rw [hb] at hct
    rw [ctx_yes hb]
    obtain ⟨h10, hall⟩ := ctB_is hb
    repeat' (first | (with_reducible first | refine then_normal ?_ | refine then_ret ?_ | refine then_exit ?_ | refine block_normal ?_ | refine block_ret ?_) | ((with_reducible show blockQ _ _ _ _); first | refine block_exit ?_ | refine block_exit_ne rfl ?_) | ((with_reducible show AWP _ _ _ _ _); first | (with_reducible first | refine AWP.seq ?_ | refine AWP.block ?_ | refine AWP.region ?_ | refine AWP.ret ?_ | refine AWP.exit ?_ | refine AWP.skip ?_) | refine AWP.drawn rfl (by kernel_rfl) ?_ | refine AWP.cond rfl ?_ ?_) | with_reducible refine ev_nil ?_ | ((first | ((with_reducible show evOps _ _ _ _ _ _); (first | refine ev_step rfl ?_ | refine ev_undef rfl rfl rfl ?_); intro K hK) | ((with_reducible show EvOpen _ _ _ _ _ _ _); refine ev_open ?_; intro K hK) | ((with_reducible show SkOpen _ _ _ _ _ _ _); refine sk_open ?_; intro K hK) | ((with_reducible show callK _ _ _ _ _ _ _ _); first  | (refine call_scalar (hct) (Nat.le_of_ble_eq_true rfl) rfl ?_))); simp only [evOp, evQ, evB, withS, opd, kput, putS, upd, lookup, argsK, bringIn, bring, Res.list, Res.slot, slotsOf, sz_termss, List.reverse_cons, List.reverse_nil, List.nil_append, Nat.reduceEqDiff, Nat.reduceLT, ↓reduceIte, eq_self, true_and, Bool.not_true, Option.isSome_some]) | refine ev_guard rfl rfl rfl ?_ ?_ | ((with_reducible show retQ _ _ _ _); simp only [eq_self]) | (with_reducible refine hK _ ?_; clear hK K) | (with_reducible refine And.intro ?_ ?_) | (with_reducible intro hc; try simp only [reduceCtorEq] at hc) | omega)
    all_goals try (exfalso; omega; done)
    refine AWP.loop_ent (fun k : Nat => ⟨[(4, .one (.pv (vs (catK L k)))), (10, .one (.pv (termss L))), (11, sc (.int .i64 L.length)), (12, sc (.int .i64 k))], [], 23⟩)
      (fun k => k ≤ L.length) (fun k => L.length - k) 0 (by omega) (by simp [Ent, EntS, EntH, SlE, VE, VE.rfl', lookup, BE, catK]) ?_
    intro k hk
    by_cases hkl : k < L.length
    · obtain ⟨hs, h12⟩ := ctk_sml (hall k hkl)
      have ht := planeText_fn (tsAt L k) hs (by omega)
      have h1 := catK_size hb k hk
      have h2 := txK_size hs _ (Nat.le_refl _)
      have e3 : tx (tsAt L k) = txK (tsAt L k) (tsAt L k).length := rfl
      rw [← e3] at h2
      have e1 : (⟨#[10]⟩ : ByteArray).size = 1 := rfl
      have e : catK L (k + 1) = catK L k ++ (tx (tsAt L k) ++ ⟨#[10]⟩) := rfl
      repeat' (first | (with_reducible first | refine then_normal ?_ | refine then_ret ?_ | refine then_exit ?_ | refine block_normal ?_ | refine block_ret ?_) | ((with_reducible show blockQ _ _ _ _); first | refine block_exit ?_ | refine block_exit_ne rfl ?_) | ((with_reducible show AWP _ _ _ _ _); first | (with_reducible first | refine AWP.seq ?_ | refine AWP.block ?_ | refine AWP.region ?_ | refine AWP.ret ?_ | refine AWP.exit ?_ | refine AWP.skip ?_) | refine AWP.drawn rfl (by kernel_rfl) ?_ | refine AWP.cond rfl ?_ ?_) | with_reducible refine ev_nil ?_ | ((first | ((with_reducible show evOps _ _ _ _ _ _); (first | refine ev_step rfl ?_ | refine ev_undef rfl rfl rfl ?_); intro K hK) | ((with_reducible show EvOpen _ _ _ _ _ _ _); refine ev_open ?_; intro K hK) | ((with_reducible show SkOpen _ _ _ _ _ _ _); refine sk_open ?_; intro K hK) | ((with_reducible show callK _ _ _ _ _ _ _ _); first  | (refine call_scalar (ht) (Nat.le_of_ble_eq_true rfl) rfl ?_))); simp only [evOp, evQ, binK, withS, opd, kput, putS, upd, lookup, argsK, bringIn, bring, Res.list, Res.slot, InK_i64, sz_termss, c_terms, List.reverse_cons, List.reverse_nil, List.nil_append, Nat.reduceEqDiff, Nat.reduceLT, Nat.mul_one, Nat.add_zero, ↓reduceIte, eq_self, true_and, Int.toNat_natCast]) | refine ev_guard rfl rfl rfl ?_ ?_ | ((with_reducible show retQ _ _ _ _); simp only [retQ, retOk, getL, lookup, Option.map_some, fitsL, fits, ND, srcs, Res.list, VE, Nat.reduceEqDiff, ↓reduceIte, and_true]) | (with_reducible refine hK _ ?_; clear hK K) | (with_reducible refine And.intro ?_ ?_) | (with_reducible intro hc; try simp only [decide_eq_true_eq, decide_eq_false_iff_not, Int.not_lt] at hc) | omega)
      all_goals first
        | (exfalso; omega)
        | omega
        | (simp only [ByteArray.size_append, e1]; omega)
        | (exact ⟨k + 1, by omega, by omega, by simp [Ent, EntS, EntH, SlE, VE, VE.rfl', lookup, BE, e]⟩)
        | trace_state
    · obtain rfl : k = L.length := by omega
      repeat' (first | (with_reducible first | refine then_normal ?_ | refine then_ret ?_ | refine then_exit ?_ | refine block_normal ?_ | refine block_ret ?_) | ((with_reducible show blockQ _ _ _ _); first | refine block_exit ?_ | refine block_exit_ne rfl ?_) | ((with_reducible show AWP _ _ _ _ _); first | (with_reducible first | refine AWP.seq ?_ | refine AWP.block ?_ | refine AWP.region ?_ | refine AWP.ret ?_ | refine AWP.exit ?_ | refine AWP.skip ?_) | refine AWP.drawn rfl (by kernel_rfl) ?_ | refine AWP.cond rfl ?_ ?_) | with_reducible refine ev_nil ?_ | ((first | ((with_reducible show evOps _ _ _ _ _ _); (first | refine ev_step rfl ?_ | refine ev_undef rfl rfl rfl ?_); intro K hK) | ((with_reducible show EvOpen _ _ _ _ _ _ _); refine ev_open ?_; intro K hK) | ((with_reducible show SkOpen _ _ _ _ _ _ _); refine sk_open ?_; intro K hK) | ((with_reducible show callK _ _ _ _ _ _ _ _); first | fail)); simp only [evOp, evQ, binK, withS, opd, kput, putS, upd, lookup, argsK, sz_termss, c_terms, List.reverse_cons, List.reverse_nil, List.nil_append, Nat.reduceEqDiff, Nat.reduceLT, Nat.mul_one, Nat.add_zero, ↓reduceIte, eq_self, true_and, Int.toNat_natCast]) | refine ev_guard rfl rfl rfl ?_ ?_ | ((with_reducible show retQ _ _ _ _); simp only [retQ, retOk, getL, lookup, Option.map_some, fitsL, fits, ND, srcs, Res.list, VE, Nat.reduceEqDiff, ↓reduceIte, and_true]) | (with_reducible refine hK _ ?_; clear hK K) | (with_reducible refine And.intro ?_ ?_) | (with_reducible intro hc; try simp only [decide_eq_true_eq, decide_eq_false_iff_not, Int.not_lt] at hc) | omega)
      all_goals first
        | (exfalso; omega)
        | rfl
        | trace_state

theorem specCatText_fn (L : List (List T3)) (hl : L.length ≤ 1099511627776) (hr : ∀ i, i < L.length → (tsAt L i).length ≤ 1099511627776) : Fn Tryz.prog 19 [termss L] (.many [.pv (vs (ctxR L).1), .pv (vb (ctxR L).2)]) := by
  have hct := ctGood_fn L hl hr
  refine Fn.of_body Tryz.call19 Tryz.func19 rfl Tryz.ntmps19 (ts := [2, 3]) rfl (by simp) rfl (fun N => ?_)
  cases hb : ctB L with
  | false =>
    rw [hb] at hct
    rw [ctx_no hb]
    repeat' (first | (with_reducible first | refine then_normal ?_ | refine then_ret ?_ | refine then_exit ?_ | refine block_normal ?_ | refine block_ret ?_) | ((with_reducible show blockQ _ _ _ _); first | refine block_exit ?_ | refine block_exit_ne rfl ?_) | ((with_reducible show AWP _ _ _ _ _); first | (with_reducible first | refine AWP.seq ?_ | refine AWP.block ?_ | refine AWP.region ?_ | refine AWP.ret ?_ | refine AWP.exit ?_ | refine AWP.skip ?_) | refine AWP.drawn rfl (by kernel_rfl) ?_ | refine AWP.cond rfl ?_ ?_) | with_reducible refine ev_nil ?_ | ((first | ((with_reducible show evOps _ _ _ _ _ _); (first | refine ev_step rfl ?_ | refine ev_undef rfl rfl rfl ?_); intro K hK) | ((with_reducible show EvOpen _ _ _ _ _ _ _); refine ev_open ?_; intro K hK) | ((with_reducible show SkOpen _ _ _ _ _ _ _); refine sk_open ?_; intro K hK) | ((with_reducible show callK _ _ _ _ _ _ _ _); first  | (refine call_scalar (hct) (Nat.le_of_ble_eq_true rfl) rfl ?_))); simp only [evOp, evQ, withS, opd, kput, putS, upd, lookup, argsK, bringIn, bring, Res.list, Res.slot, slotsOf, List.reverse_cons, List.reverse_nil, List.nil_append, Nat.reduceEqDiff, Nat.reduceLT, ↓reduceIte, eq_self, true_and, Bool.not_false]) | refine ev_guard rfl rfl rfl ?_ ?_ | ((with_reducible show retQ _ _ _ _); simp only [retQ, retOk, getL, lookup, Option.map_some, fitsL, fits, ND, srcs, Res.list, VE, Nat.reduceEqDiff, ↓reduceIte, and_true]) | (with_reducible refine hK _ ?_; clear hK K) | (with_reducible refine And.intro ?_ ?_) | (with_reducible intro hc; try simp only [Bool.true_eq_false] at hc) | omega)
    all_goals trace_state
  | true =>
    rw [hb] at hct
    rw [ctx_yes hb]
    obtain ⟨h10, hall⟩ := ctB_is hb
    repeat' (first | (with_reducible first | refine then_normal ?_ | refine then_ret ?_ | refine then_exit ?_ | refine block_normal ?_ | refine block_ret ?_) | ((with_reducible show blockQ _ _ _ _); first | refine block_exit ?_ | refine block_exit_ne rfl ?_) | ((with_reducible show AWP _ _ _ _ _); first | (with_reducible first | refine AWP.seq ?_ | refine AWP.block ?_ | refine AWP.region ?_ | refine AWP.ret ?_ | refine AWP.exit ?_ | refine AWP.skip ?_) | refine AWP.drawn rfl (by kernel_rfl) ?_ | refine AWP.cond rfl ?_ ?_) | with_reducible refine ev_nil ?_ | ((first | ((with_reducible show evOps _ _ _ _ _ _); (first | refine ev_step rfl ?_ | refine ev_undef rfl rfl rfl ?_); intro K hK) | ((with_reducible show EvOpen _ _ _ _ _ _ _); refine ev_open ?_; intro K hK) | ((with_reducible show SkOpen _ _ _ _ _ _ _); refine sk_open ?_; intro K hK) | ((with_reducible show callK _ _ _ _ _ _ _ _); first  | (refine call_scalar (hct) (Nat.le_of_ble_eq_true rfl) rfl ?_))); simp only [evOp, evQ, evB, withS, opd, kput, putS, upd, lookup, argsK, bringIn, bring, Res.list, Res.slot, slotsOf, sz_termss, List.reverse_cons, List.reverse_nil, List.nil_append, Nat.reduceEqDiff, Nat.reduceLT, ↓reduceIte, eq_self, true_and, Bool.not_true, Option.isSome_some]) | refine ev_guard rfl rfl rfl ?_ ?_ | ((with_reducible show retQ _ _ _ _); simp only [eq_self]) | (with_reducible refine hK _ ?_; clear hK K) | (with_reducible refine And.intro ?_ ?_) | (with_reducible intro hc; try simp only [reduceCtorEq] at hc) | omega)
    all_goals try (exfalso; omega; done)
    refine AWP.loop_ent (fun k : Nat => ⟨[(4, .one (.pv (vs (catK L k)))), (10, .one (.pv (termss L))), (11, sc (.int .i64 L.length)), (12, sc (.int .i64 k))], [], 23⟩)
      (fun k => k ≤ L.length) (fun k => L.length - k) 0 (by omega) (by simp [Ent, EntS, EntH, SlE, VE, VE.rfl', lookup, BE, catK]) ?_
    intro k hk
    by_cases hkl : k < L.length
    · obtain ⟨hs, h12⟩ := ctk_sml (hall k hkl)
      have ht := plText_fn (tsAt L k) hs (by omega)
      have h1 := catK_size hb k hk
      have h2 := txK_size hs _ (Nat.le_refl _)
      have e3 : tx (tsAt L k) = txK (tsAt L k) (tsAt L k).length := rfl
      rw [← e3] at h2
      have e1 : (⟨#[10]⟩ : ByteArray).size = 1 := rfl
      have e : catK L (k + 1) = catK L k ++ (tx (tsAt L k) ++ ⟨#[10]⟩) := rfl
      repeat' (first | (with_reducible first | refine then_normal ?_ | refine then_ret ?_ | refine then_exit ?_ | refine block_normal ?_ | refine block_ret ?_) | ((with_reducible show blockQ _ _ _ _); first | refine block_exit ?_ | refine block_exit_ne rfl ?_) | ((with_reducible show AWP _ _ _ _ _); first | (with_reducible first | refine AWP.seq ?_ | refine AWP.block ?_ | refine AWP.region ?_ | refine AWP.ret ?_ | refine AWP.exit ?_ | refine AWP.skip ?_) | refine AWP.drawn rfl (by kernel_rfl) ?_ | refine AWP.cond rfl ?_ ?_) | with_reducible refine ev_nil ?_ | ((first | ((with_reducible show evOps _ _ _ _ _ _); (first | refine ev_step rfl ?_ | refine ev_undef rfl rfl rfl ?_); intro K hK) | ((with_reducible show EvOpen _ _ _ _ _ _ _); refine ev_open ?_; intro K hK) | ((with_reducible show SkOpen _ _ _ _ _ _ _); refine sk_open ?_; intro K hK) | ((with_reducible show callK _ _ _ _ _ _ _ _); first  | (refine call_scalar (ht) (Nat.le_of_ble_eq_true rfl) rfl ?_))); simp only [evOp, evQ, binK, withS, opd, kput, putS, upd, lookup, argsK, bringIn, bring, Res.list, Res.slot, InK_i64, sz_termss, c_terms, List.reverse_cons, List.reverse_nil, List.nil_append, Nat.reduceEqDiff, Nat.reduceLT, Nat.mul_one, Nat.add_zero, ↓reduceIte, eq_self, true_and, Int.toNat_natCast]) | refine ev_guard rfl rfl rfl ?_ ?_ | ((with_reducible show retQ _ _ _ _); simp only [retQ, retOk, getL, lookup, Option.map_some, fitsL, fits, ND, srcs, Res.list, VE, Nat.reduceEqDiff, ↓reduceIte, and_true]) | (with_reducible refine hK _ ?_; clear hK K) | (with_reducible refine And.intro ?_ ?_) | (with_reducible intro hc; try simp only [decide_eq_true_eq, decide_eq_false_iff_not, Int.not_lt] at hc) | omega)
      all_goals first
        | (exfalso; omega)
        | omega
        | (simp only [ByteArray.size_append, e1]; omega)
        | (exact ⟨k + 1, by omega, by omega, by simp [Ent, EntS, EntH, SlE, VE, VE.rfl', lookup, BE, e]⟩)
        | trace_state
    · obtain rfl : k = L.length := by omega
      repeat' (first | (with_reducible first | refine then_normal ?_ | refine then_ret ?_ | refine then_exit ?_ | refine block_normal ?_ | refine block_ret ?_) | ((with_reducible show blockQ _ _ _ _); first | refine block_exit ?_ | refine block_exit_ne rfl ?_) | ((with_reducible show AWP _ _ _ _ _); first | (with_reducible first | refine AWP.seq ?_ | refine AWP.block ?_ | refine AWP.region ?_ | refine AWP.ret ?_ | refine AWP.exit ?_ | refine AWP.skip ?_) | refine AWP.drawn rfl (by kernel_rfl) ?_ | refine AWP.cond rfl ?_ ?_) | with_reducible refine ev_nil ?_ | ((first | ((with_reducible show evOps _ _ _ _ _ _); (first | refine ev_step rfl ?_ | refine ev_undef rfl rfl rfl ?_); intro K hK) | ((with_reducible show EvOpen _ _ _ _ _ _ _); refine ev_open ?_; intro K hK) | ((with_reducible show SkOpen _ _ _ _ _ _ _); refine sk_open ?_; intro K hK) | ((with_reducible show callK _ _ _ _ _ _ _ _); first | fail)); simp only [evOp, evQ, binK, withS, opd, kput, putS, upd, lookup, argsK, sz_termss, c_terms, List.reverse_cons, List.reverse_nil, List.nil_append, Nat.reduceEqDiff, Nat.reduceLT, Nat.mul_one, Nat.add_zero, ↓reduceIte, eq_self, true_and, Int.toNat_natCast]) | refine ev_guard rfl rfl rfl ?_ ?_ | ((with_reducible show retQ _ _ _ _); simp only [retQ, retOk, getL, lookup, Option.map_some, fitsL, fits, ND, srcs, Res.list, VE, Nat.reduceEqDiff, ↓reduceIte, and_true]) | (with_reducible refine hK _ ?_; clear hK K) | (with_reducible refine And.intro ?_ ?_) | (with_reducible intro hc; try simp only [decide_eq_true_eq, decide_eq_false_iff_not, Int.not_lt] at hc) | omega)
      all_goals first
        | (exfalso; omega)
        | rfl
        | trace_state
end Go.Proofs.YteapdildbfimnaaGreatDoor
namespace Go.Proofs
open Go.Shelf
def Tryz.sortRow_ren : Go.Shelf.Ren := ⟨fun | 6 => 47 | 15 => 65 | 14 => 64 | 28 => 85 | 29 => 86 | 20 => 77 | 21 => 78 | 22 => 79 | 23 => 80 | 24 => 81 | 25 => 82 | 26 => 83 | 27 => 84 | 46 => 90 | 47 => 91 | 48 => 92 | 49 => 93 | 50 => 94 | 57 => 100 | n => n, fun | 22 => 23 | 24 => 32 | 25 => 72 | 3 => 3 | 39 => 83 | 0 => 0 | 53 => 98 | 55 => 45 | 4 => 4 | 46 => 92 | 45 => 91 | 50 => 33 | 5 => 5 | 9 => 9 | 66 => 101 | 70 => 105 | 76 => 111 | 77 => 112 | n => n, fun | n => n⟩
set_option maxRecDepth 100000 in
theorem Tryz.sortRow : SlLaysF.n6 Tryz.prog Tryz.sortRow_ren := {
  mixed := by kernel_rfl
  f6 := ⟨Tryz.f47.name, by decide, Tryz.func47.trans (congrArg some (by kernel_rfl))⟩
  f14 := ⟨Tryz.f64.name, by decide, Tryz.func64.trans (congrArg some (by kernel_rfl))⟩
  f15 := Tryz.func65.trans (congrArg some (by kernel_rfl))
  f20 := ⟨Tryz.f77.name, by decide, Tryz.func77.trans (congrArg some (by kernel_rfl))⟩
  f21 := ⟨Tryz.f78.name, by decide, Tryz.func78.trans (congrArg some (by kernel_rfl))⟩
  f22 := ⟨Tryz.f79.name, by decide, Tryz.func79.trans (congrArg some (by kernel_rfl))⟩
  f23 := ⟨Tryz.f80.name, by decide, Tryz.func80.trans (congrArg some (by kernel_rfl))⟩
  f24 := ⟨Tryz.f81.name, by decide, Tryz.func81.trans (congrArg some (by kernel_rfl))⟩
  f25 := ⟨Tryz.f82.name, by decide, Tryz.func82.trans (congrArg some (by kernel_rfl))⟩
  f26 := ⟨Tryz.f83.name, by decide, Tryz.func83.trans (congrArg some (by kernel_rfl))⟩
  f27 := ⟨Tryz.f84.name, by decide, Tryz.func84.trans (congrArg some (by kernel_rfl))⟩
  f28 := Tryz.func85.trans (congrArg some (by kernel_rfl))
  f29 := Tryz.func86.trans (congrArg some (by kernel_rfl))
  f46 := ⟨Tryz.f90.name, by decide, Tryz.func90.trans (congrArg some (by kernel_rfl))⟩
  f47 := Tryz.func91.trans (congrArg some (by kernel_rfl))
  f48 := Tryz.func92.trans (congrArg some (by kernel_rfl))
  f49 := ⟨Tryz.f93.name, by decide, Tryz.func93.trans (congrArg some (by kernel_rfl))⟩
  f50 := ⟨Tryz.f94.name, by decide, Tryz.func94.trans (congrArg some (by kernel_rfl))⟩
  f57 := ⟨Tryz.f100.name, by decide, Tryz.func100.trans (congrArg some (by kernel_rfl))⟩
  t0 := Tryz.underlying0
  a0 := Tryz.isAgg0
  z0 := Tryz.sizeOf0
  v0 := Tryz.zeroValue0
  t3 := Tryz.underlying3
  a3 := Tryz.isAgg3
  z3 := Tryz.sizeOf3
  v3 := Tryz.zeroValue3
  t4 := Tryz.underlying4
  a4 := Tryz.isAgg4
  z4 := Tryz.sizeOf4
  v4 := Tryz.zeroValue4
  t5 := Tryz.underlying5
  a5 := Tryz.isAgg5
  z5 := Tryz.sizeOf5
  v5 := Tryz.zeroValue5
  t9 := Tryz.underlying9
  a9 := Tryz.isAgg9
  z9 := Tryz.sizeOf9
  v9 := Tryz.zeroValue9
  t22 := Tryz.underlying23
  a22 := Tryz.isAgg23
  z22 := Tryz.sizeOf23
  v22 := Tryz.zeroValue23
  a24 := Tryz.isAgg32
  z24 := Tryz.sizeOf32
  t25 := Tryz.underlying72
  a25 := Tryz.isAgg72
  z25 := Tryz.sizeOf72
  v25 := Tryz.zeroValue72
  t39 := Tryz.underlying83
  a39 := Tryz.isAgg83
  z39 := Tryz.sizeOf83
  v39 := Tryz.zeroValue83
  t45 := Tryz.underlying91
  a45 := Tryz.isAgg91
  z45 := Tryz.sizeOf91
  v45 := Tryz.zeroValue91
  t46 := Tryz.underlying92
  a46 := Tryz.isAgg92
  z46 := Tryz.sizeOf92
  v46 := Tryz.zeroValue92
  t50 := Tryz.underlying33
  a50 := Tryz.isAgg33
  z50 := Tryz.sizeOf33
  v50 := Tryz.zeroValue33
  t53 := Tryz.underlying98
  a53 := Tryz.isAgg98
  z53 := Tryz.sizeOf98
  v53 := Tryz.zeroValue98
  t55 := Tryz.underlying45
  a55 := Tryz.isAgg45
  z55 := Tryz.sizeOf45
  v55 := Tryz.zeroValue45
  t66 := Tryz.underlying101
  a66 := Tryz.isAgg101
  z66 := Tryz.sizeOf101
  v66 := Tryz.zeroValue101
  t70 := Tryz.underlying105
  a70 := Tryz.isAgg105
  z70 := Tryz.sizeOf105
  v70 := Tryz.zeroValue105
  t76 := Tryz.underlying111
  a76 := Tryz.isAgg111
  z76 := Tryz.sizeOf111
  v76 := Tryz.zeroValue111
  t77 := Tryz.underlying112
  a77 := Tryz.isAgg112
  z77 := Tryz.sizeOf112
  v77 := Tryz.zeroValue112 }

end Go.Proofs
namespace Go.Proofs.YteapdildbfimnaaGreatDoor
open Go.RowKit Go.Proofs Go.Sort
set_option linter.unusedSimpArgs false
set_option linter.unusedVariables false

/-- A function that puts the cells of its first argument, a slice of n elements from the block's head, into another order. -/
structure FnPm (P : Program) (f : FuncId) (n : Nat) (F : Nat → V) (u : Value) (good : (Nat → Nat) → Prop) : Prop where
  entry : ∀ (args : Array Value) (w : World), (callFunc f args).run P w = .ok (.enter f args) w
  nil : n = 0 → good id ∧ ∀ w, Gl w → Calls P f #[.slice none 0 0, u] w fun e w' => e = .returned (.tuple #[]) ∧ RowKit.Below w.heap.size w w'
  runs : ∀ (w0 w : World) (b c : Nat) (cur : Array Value) (e : TypeId), Gl w0 → RowKit.Below w0.heap.size w0 w → w0.heap.size ≤ b → w.heap[b]? = some (.cells cur e (0, 0)) → n ≤ cur.size → n ≤ c → (∀ i, i < n → ∃ x, cur[i]? = some x ∧ Rd w (fun j => j ≠ b) (F i) x) →
    Calls P f #[.slice (some ⟨b, 0, none⟩) n c, u] w fun e' w' => e' = .returned (.tuple #[]) ∧ AllBut b w w' ∧ ∃ (cur' : Array Value) (π : Nat → Nat), good π ∧ (∀ i, i < n → π i < n) ∧ w'.heap[b]? = some (.cells cur' e (0, 0)) ∧ cur'.size = cur.size ∧ ∀ i, i < n → cur'[i]? = cur[π i]?

section
variable {P : Program} {N : Nat}
def permK (P : Program) (f : FuncId) (x y : Operand) (d : Nat) (s : ASt) (K : ASt → Prop) : Prop :=
  ∃ (id n : Nat) (blk : Blk) (u : Value) (good : (Nat → Nat) → Prop), opd s x = some (.one (.own id 1 0 n)) ∧ s.h[id]? = some (some blk) ∧ n ≤ blk.n ∧ opd s y = some (sc u) ∧ d < s.nt ∧ FnPm P f n (fun i => blk.f i) u good ∧
    ∀ π, good π → (∀ i, i < n → π i < n) → K ⟨upd s.σ d (sc (.tuple #[])), s.h.set id (some ⟨blk.elem, n, fun i => blk.f (π i)⟩), s.nt⟩

theorem perm_rule {f : FuncId} {x y : Operand} {d ty : Nat} {ts : Array TypeId} {pos : String} {after : Array Edge} :
    OpRule N P ⟨some d, .call ⟨.value (.func f), #[x, y], ts⟩, ty, pos, after, none⟩ (fun s K => permK P f x y d s K) := by
  refine ⟨rfl, fun w0 S0 s φ a w K next Q hN sim h hn => ?_⟩
  obtain ⟨id, n, blk, u, good, hx, hb, hle, hy, hd, hf, hK⟩ := h
  have ey : a.eval y = u := sim.opd hy
  have hrun : (execOp a.eval ⟨some d, .call ⟨.value (.func f), #[x, y], ts⟩, ty, pos, after, none⟩).run P w = .ok (.enter f #[a.eval x, u]) w := by
    have e : execOp a.eval ⟨some d, .call ⟨.value (.func f), #[x, y], ts⟩, ty, pos, after, none⟩ = callFunc f (#[] ++ #[x, y].map a.eval ++ #[]) := rfl
    rw [e, hf.entry]
    congr 2
    rw [← Array.toList_inj]
    simp [ey]
  unfold Oper.wp
  rw [hrun, Oper.upon_enter]
  rcases sim.opd hx with ⟨hφ, _, hl, ev⟩ | ⟨b, c, z, hφ, ev, hc, _, _⟩
  · rw [ev]
    subst hl
    obtain ⟨hg, hr⟩ := hf.nil rfl
    refine (hr w sim.gl).mono ?_
    rintro e w' ⟨rfl, hbel⟩
    refine hn _ _ _ (hK _root_.id hg fun i hi => hi) ⟨φ, ?_⟩
    exact ((sim.after hbel).unsaid hb hφ rfl).put hd rfl
  · rw [ev]
    obtain ⟨cur, hz, hB, hcur, hbn, hcs⟩ := sim.blkAt hb hφ
    have hcs' : ∀ i, i < n → ∃ x, cur[i]? = some x ∧ Rd w (fun j => j ≠ b) (blk.f i) x := fun i hi => by
      obtain ⟨x, h1, h2⟩ := hcs i (by omega)
      exact ⟨x, h1, Rd.mono (fun j hj _ => ⟨fun e => hj.2 ⟨id, blk, z, hb, e ▸ hφ⟩, rfl⟩) _ _ h2⟩
    refine (hf.runs w0 w b c cur blk.elem sim.defers.2 sim.heap.below hB hcur (by omega) hc hcs').mono ?_
    rintro e w' ⟨rfl, hall, cur', π, hg, hπ, hcur', hsz, hcells⟩
    refine hn _ _ _ (hK π hg hπ) ⟨φ, ?_⟩
    refine (sim.write hb hφ (blk' := ⟨blk.elem, n, fun i => blk.f (π i)⟩) hcur' (by omega) hall.os hall.tape hall.output hall.size hall.oth rfl (by show n ≤ _; omega) fun i hi => ?_).put hd rfl
    have hi : i < n := hi
    obtain ⟨x, h1, h2⟩ := hcs (π i) (by have := hπ i hi; omega)
    exact ⟨x, by rw [hcells i hi]; exact h1, h2⟩

theorem ax_perm [Cx] {K : ASt → Prop} {f : FuncId} {x y : Operand} {d ty : Nat} {ts : Array TypeId} {pos : String} {after : Array Edge} {s : ASt} {id n : Nat} {blk : Blk} {u : Value} {good : (Nat → Nat) → Prop} (hx : opd s x = some (.one (.own id 1 0 n))) (hb : s.h[id]? = some (some blk)) (hle : n ≤ blk.n) (hy : opd s y = some (sc u)) (hd : d < s.nt)
    (hf : FnPm P f n (fun i => blk.f i) u good) (h : ∀ π, good π → (∀ i, i < n → π i < n) → K ⟨upd s.σ d (sc (.tuple #[])), s.h.set id (some ⟨blk.elem, n, fun i => blk.f (π i)⟩), s.nt⟩) : Ax N P K ⟨some d, .call ⟨.value (.func f), #[x, y], ts⟩, ty, pos, after, none⟩ s :=
  ax_rule perm_rule ⟨id, n, blk, u, good, hx, hb, hle, hy, hd, hf, h⟩
end

/-! ### The sort -/
def prm (L : List (List T3)) (π : Nat → Nat) : List (List T3) := (List.range L.length).map fun i => tsAt L (π i)
@[simp] theorem prm_len (L : List (List T3)) (π : Nat → Nat) : (prm L π).length = L.length := by simp [prm]
theorem prm_at {L : List (List T3)} {π : Nat → Nat} {i : Nat} (h : i < L.length) : tsAt (prm L π) i = tsAt L (π i) := by simp [tsAt, prm, List.getD, h]

theorem cf_lt (a b : List T3) : decide (Lib.compareBytes (tx a).data.toList (tx b).data.toList < 0) = ltX a b := by
  have h := cmp_ge (a := tx a) (b := tx b)
  show _ = ltB (tx a) (tx b)
  cases e : ltB (tx a) (tx b) with
  | true => rw [e] at h; simp at h ⊢; omega
  | false => rw [e] at h; simp at h ⊢; omega

/-- How the rows compare. -/
def cfR (L : List (List T3)) (x y : Fin L.length) : Int := Lib.compareBytes (tx (tsAt L x)).data.toList (tx (tsAt L y)).data.toList
theorem cfR_lt (L : List (List T3)) (x y : Fin L.length) : ltOf (cfR L) x y = ltX (tsAt L x) (tsAt L y) := cf_lt _ _
theorem swoR (L : List (List T3)) : SWO (ltOf (cfR L)) where
  irrefl x := by rw [cfR_lt]; exact ltX_irr _
  trans x y z h1 h2 := by rw [cfR_lt] at *; exact ltX_trans h1 h2
  ntrans x y z h1 h2 := by
    rw [cfR_lt] at *
    cases e : ltX (tsAt L x) (tsAt L z) with
    | false => rfl
    | true =>
      cases e2 : ltX (tsAt L y) (tsAt L x) with
      | true => rw [ltX_trans e2 e] at h2; cases h2
      | false => rw [ltX_tot h1 e2] at e; rw [e] at h2; cases h2

theorem trow_of {w W : World} {b : Nat} {F : V} {l : List T3} {x : Value} (hF : isT l F) (hl : 1 ≤ l.length) (hr : Rd w (fun j => j ≠ b) F x) (hW : ∀ k, k ≠ b → k < w.heap.size → W.heap[k]? = w.heap[k]?) (hs : w.heap.size ≤ W.heap.size) : TRow W x l ∧ x.oneCell' = true := by
  obtain ⟨u, Z, rfl⟩ := hF
  obtain ⟨rfl, hZ, A, c, rfl, hc, h⟩ := hr
  obtain ⟨b', off, rfl, hb', hcell⟩ := h (by omega)
  have hne := (hZ b' hb').1
  obtain ⟨cu, e, hcu⟩ := (hZ b' hb').2
  have hlt := block_lt hcu
  refine ⟨⟨b', off, c, rfl, by omega, fun i hi => ?_⟩, rfl⟩
  obtain ⟨y, h1, h2⟩ := hcell i hi
  have h2 : y = .int .i64 (tf l i) := h2
  subst h2
  rw [World.cell?_of_block (w := w) (a := ⟨b', off + i, none⟩) (hW b' hne hlt)]
  exact h1

theorem extract_all {α : Type} (d : Array α) {n : Nat} (h : d.size = n) : d.extract 0 n = d := by subst h; exact Array.extract_size
theorem sortRow_pm (L : List (List T3)) (F : Nat → V) (hF : ∀ i, i < L.length → isT (tsAt L i) (F i)) (hL : ∀ i, i < L.length → 1 ≤ (tsAt L i).length ∧ (tsAt L i).length ≤ 12 ∧ Sml (tsAt L i)) (hl : L.length ≤ 1099511627776) :
    FnPm Tryz.prog 47 L.length F (.func (.func 48) #[] #[]) (fun π => SrtX (prm L π) ∧ (∀ t, t ∈ prm L π ↔ t ∈ L) ∧ ∀ i j, i < L.length → j < L.length → π i = π j → i = j) := by
  have eg : ∀ args w, (callFunc 48 args).run Tryz.prog w = .ok (.enter 48 args) w := Tryz.call48
  have nilc : ∀ (p : Option Addr) (cap : Nat) (w : World), L.length = 0 → Calls Tryz.prog 47 #[.slice p L.length cap, .func (.func 48) #[] #[]] w fun e w' => e = .returned (.tuple #[]) ∧ w' = w := fun p cap w h0 => by
    rw [h0]
    exact AnyF.slices_SortFunc_none { Tryz.sortRow with } p cap (.func (.func 48) #[] #[]) w
  have nilg : L.length = 0 → SrtX (prm L id) ∧ (∀ t, t ∈ prm L id ↔ t ∈ L) ∧ ∀ i j, i < L.length → j < L.length → id i = id j → i = j := fun h0 => by
    have : L = [] := List.length_eq_zero_iff.1 h0
    subst this
    exact ⟨fun i j _ hj => by simp at hj, fun t => by simp [prm], fun i j hi => by simp at hi⟩
  refine ⟨Tryz.call47, fun h0 => ⟨nilg h0, fun w hg => ?_⟩, fun w0 w b c cur e hg hbel hB hcur hn hc hcs => ?_⟩
  · have := nilc none 0 w h0
    rw [h0] at this
    refine this.mono ?_
    rintro e w' ⟨rfl, rfl⟩
    exact ⟨rfl, RowKit.Below.refl _ _⟩
  · rcases Nat.eq_zero_or_pos L.length with h0 | hpos
    · refine (nilc _ c w h0).mono ?_
      rintro e' w' ⟨rfl, rfl⟩
      exact ⟨rfl, ⟨rfl, rfl, rfl, Nat.le_refl _, fun _ _ _ => rfl⟩, cur, id, nilg h0, fun i hi => hi, hcur, rfl, fun i hi => rfl⟩
    have hblk : b < w.heap.size := block_lt hcur
    let inh : Inhabited (Fin L.length) := ⟨⟨0, hpos⟩⟩
    let enc : Fin L.length → Value := fun j => cur[j.val]!
    let d : Array (Fin L.length) := Array.ofFn fun j : Fin L.length => j
    have hd : d.size = L.length := Array.size_ofFn
    have hdj : ∀ j (hj : j < L.length), d[j]! = ⟨j, hj⟩ := fun j hj => by
      rw [getElem!_pos d j (by rw [hd]; exact hj)]; simp [d]
    have hcj : ∀ j, j < L.length → cur[j]? = some (cur[j]!) := fun j hj => by
      rw [getElem!_pos cur j (by omega), Array.getElem?_eq_getElem (by omega)]
    have hrow : ∀ (x : Fin L.length) (W : World), (∀ k, k ≠ b → k < w.heap.size → W.heap[k]? = w.heap[k]?) → w.heap.size ≤ W.heap.size → TRow W (enc x) (tsAt L x) ∧ (enc x).oneCell' = true := fun x W hW hs => by
      obtain ⟨v, h1, h2⟩ := hcs x x.2
      rw [hcj x x.2] at h1
      injection h1 with h1
      have := trow_of (hF x x.2) (hL x x.2).1 h2 hW hs
      rw [← h1] at this
      exact this
    have hone : OneCell enc := fun x => (hrow x w (fun _ _ _ => rfl) (Nat.le_refl _)).2
    have hH : Holds enc w b 0 d := fun j hj => by
      rw [hd] at hj
      refine ⟨?_, by simp [World.frozen?, hcur]⟩
      rw [Nat.zero_add, hdj j hj]
      exact cell_of_blk hcur (hcj j hj)
    have hput : ∀ (m : Nat) (dk : Array (Fin L.length)), (putRow enc (Sort.ahead w m) b 0 dk).heap = w.heap.modify b (onCells (putCells enc 0 dk)) := fun m dk => rfl
    have hps : ∀ (m : Nat) (dk : Array (Fin L.length)), (putRow enc (Sort.ahead w m) b 0 dk).heap.size = w.heap.size := fun m dk => by rw [hput]; simp
    have hat : ∀ (m : Nat) (dk : Array (Fin L.length)) (os : Array Obj) k, k < w.heap.size → (sortWorld enc w b 0 m dk os).heap[k]? = (w.heap.modify b (onCells (putCells enc 0 dk)))[k]? := fun m dk os k hk => by
      show ((putRow enc (Sort.ahead w m) b 0 dk).heap ++ os)[k]? = _
      rw [Array.getElem?_append_left (by rw [hps]; exact hk)]; rfl
    have hsz : ∀ (m : Nat) (dk : Array (Fin L.length)) (os : Array Obj), w.heap.size ≤ (sortWorld enc w b 0 m dk os).heap.size := fun m dk os => by
      show w.heap.size ≤ ((putRow enc (Sort.ahead w m) b 0 dk).heap ++ os).size
      rw [Array.size_append, hps]; omega
    have hoth : ∀ (m : Nat) (dk : Array (Fin L.length)) (os : Array Obj) k, k ≠ b → k < w.heap.size → (sortWorld enc w b 0 m dk os).heap[k]? = w.heap[k]? := fun m dk os k hne hk => by
      rw [hat m dk os k hk, Array.getElem?_modify, if_neg (fun e => hne e.symm)]
    have hcmp : CmpLays1 Tryz.prog 48 #[] enc (cfR L) b 0 d.size w := fun m os dk hs x y => by
      have hg' : Gl (sortWorld enc w b 0 m dk os) := hg.keep ⟨hbel.os, hbel.tape, hbel.output, Nat.le_trans hbel.size (hsz m dk os), fun k hk => by rw [hoth m dk os k (by omega) (by have := hbel.size; omega)]; exact hbel.block k hk⟩
      have := cmp_walk (hrow x _ (hoth m dk os) (hsz m dk os)).1 (hrow y _ (hoth m dk os) (hsz m dk os)).1 (hL x x.2).2.2 (hL y y.2).2.2 (hL x x.2).2.1 (hL y y.2).2.1 hg'
      have e0 : (#[enc x, enc y] ++ #[] : Array Value) = #[enc x, enc y] := by simp
      rw [e0]
      exact this
    have hcon := Any.slices_SortFunc Tryz.sortRow enc hone (cfR L) (swoR L) 48 #[] b 0 c d w eg hcmp hH hblk (by rw [hd]; omega)
    change Calls Tryz.prog 47 _ _ _ at hcon
    rw [hd] at hcon
    refine hcon.mono ?_
    rintro e' w' ⟨rfl, d', m, os, ⟨p1, _, p3⟩, hsrt, rfl⟩
    rw [hd] at p1
    have hl1 : d'.extract 0 L.length = d' := extract_all d' p1
    have hl2 : d.extract 0 L.length = d := extract_all d hd
    rw [hl1, hl2] at p3
    have hget : ∀ i (hi : i < L.length), d'[i]! = d'[i]'(by omega) := fun i hi => getElem!_pos d' i (by omega)
    refine ⟨rfl, ⟨rfl, rfl, rfl, hsz m d' os, fun k hk hne => hoth m d' os k hne hk⟩, putCells enc 0 d' cur, fun i => (d'[i]!).val, ⟨fun i j hij hj => ?_, fun t => ?_, fun i j hi hj e => ?_⟩, fun i hi => (d'[i]!).2, ?_, by simp [putCells], fun i hi => ?_⟩
    · rw [prm_len] at hj
      rw [prm_at hj, prm_at (by omega), ← cfR_lt]
      exact hsrt i j (Nat.zero_le _) hij hj
    · constructor
      · intro ht
        obtain ⟨k, hk, rfl⟩ := mem_ts ht
        rw [prm_len] at hk
        rw [prm_at hk]; exact ts_mem (d'[k]!).2
      · intro ht
        obtain ⟨k, hk, rfl⟩ := mem_ts ht
        have hm : (⟨k, hk⟩ : Fin L.length) ∈ d'.toList := by
          rw [p3.mem_iff]
          simp [d]
        obtain ⟨i, hi, he⟩ := List.getElem_of_mem hm
        have hi : i < d'.size := by simpa using hi
        have e2 : d'[i]! = ⟨k, hk⟩ := by rw [hget i (by omega)]; simpa using he
        have : tsAt L k = tsAt (prm L fun i => (d'[i]!).val) i := by rw [prm_at (by omega), e2]
        rw [this]; exact ts_mem (by rw [prm_len]; omega)
    · have hnd : d'.toList.Nodup := by
        rw [p3.nodup_iff, List.nodup_iff_pairwise_ne, List.pairwise_iff_getElem]
        intro i j hi hj hij
        simp [d]
        omega
      have e3 : d'[i]'(by omega) = d'[j]'(by omega) := by rw [← hget i hi, ← hget j hj]; exact Fin.ext e
      rw [List.nodup_iff_pairwise_ne, List.pairwise_iff_getElem] at hnd
      have hs2 : d'.toList.length = L.length := by simpa using p1
      rcases Nat.lt_trichotomy i j with h | h | h
      · exact absurd ((Array.getElem_toList (by omega)).trans (e3.trans (Array.getElem_toList (by omega)).symm)) (hnd i j (by omega) (by omega) h)
      · exact h
      · exact absurd ((Array.getElem_toList (by omega)).trans (e3.symm.trans (Array.getElem_toList (by omega)).symm)) (hnd j i (by omega) (by omega) h)
    · rw [hat m d' os b hblk, Array.getElem?_modify, if_pos rfl, hcur]; rfl
    · unfold putCells
      rw [Array.getElem?_mapIdx, Array.getElem?_eq_getElem (by omega)]
      simp only [Option.map_some, Nat.zero_le, true_and, Nat.zero_add, Nat.sub_zero]
      rw [if_pos (by omega)]
      exact (hcj _ (d'[i]!).2).symm
end Go.Proofs.YteapdildbfimnaaGreatDoor
namespace Go.Proofs.YteapdildbfimnaaGreatDoor
open Go.RowKit Go.Proofs Go.Sort
set_option linter.unusedSimpArgs false
set_option linter.unusedVariables false

/-! ### Plainly: which places stay -/
def kp (M : List (List T3)) (j : Nat) : Bool := decide (j = 0 ∨ tsAt M (j - 1) ≠ tsAt M j)
def kL (M : List (List T3)) : Nat → List Nat
  | 0 => []
  | m + 1 => if kp M m then kL M m ++ [m] else kL M m
theorem kL_lt (M : List (List T3)) : ∀ m x, x ∈ kL M m → x < m
  | 0, x, h => by simp [kL] at h
  | m + 1, x, h => by
    unfold kL at h
    split at h
    · rw [List.mem_append, List.mem_singleton] at h
      rcases h with h | rfl
      · have := kL_lt M m x h; omega
      · omega
    · have := kL_lt M m x h; omega
theorem kL_len (M : List (List T3)) : ∀ m, (kL M m).length ≤ m
  | 0 => Nat.le_refl _
  | m + 1 => by
    have := kL_len M m
    unfold kL
    split
    · simp; omega
    · omega
theorem kL_cmp (M : List (List T3)) : ∀ m, (kL M m).map (tsAt M) = cmpX M m
  | 0 => rfl
  | m + 1 => by
    have ih := kL_cmp M m
    unfold kL cmpX
    by_cases h : m = 0 ∨ tsAt M (m - 1) ≠ tsAt M m
    · have hk : kp M m = true := decide_eq_true h
      rw [hk, if_pos rfl, if_pos h, List.map_append, ih]; rfl
    · have hk : kp M m = false := decide_eq_false h
      rw [hk, if_neg h]
      simpa using ih
theorem kL_all {M : List (List T3)} : ∀ {m : Nat}, (∀ j, j < m → kp M j = true) → kL M m = List.range m
  | 0, _ => rfl
  | m + 1, h => by
    unfold kL
    rw [h m (by omega), if_pos rfl, kL_all fun j hj => h j (by omega), List.range_succ]
/-- m places have been looked at; what stays of them, k, lies at the head; from place k on all is as it was. -/
structure CoInv (M : List (List T3)) (m k : Nat) (dk : Nat → Nat) : Prop where
  len : (kL M m).length = k
  lt : k < m
  low : ∀ j, j < k → (kL M m)[j]? = some (dk j)
  high : ∀ j, k ≤ j → dk j = j
theorem CoInv.start {M : List (List T3)} {k : Nat} (h : ∀ j, j < k → kp M j = true) (h2 : kp M k = false) : CoInv M (k + 1) k id := by
  have e : kL M (k + 1) = List.range k := by unfold kL; rw [h2]; simpa using kL_all h
  exact ⟨by rw [e]; simp, by omega, fun j hj => by rw [e]; simp [hj], fun j hj => rfl⟩
theorem CoInv.skip {M : List (List T3)} {m k : Nat} {dk : Nat → Nat} (h : CoInv M m k dk) (hk : kp M m = false) : CoInv M (m + 1) k dk := by
  have e : kL M (m + 1) = kL M m := by conv => lhs; unfold kL; rw [hk]
                                       simp
  exact ⟨by rw [e]; exact h.len, by have := h.lt; omega, fun j hj => by rw [e]; exact h.low j hj, h.high⟩
theorem CoInv.keep {M : List (List T3)} {m k : Nat} {dk : Nat → Nat} (h : CoInv M m k dk) (hk : kp M m = true) : CoInv M (m + 1) (k + 1) (fun j => if j = k then m else dk j) := by
  have e : kL M (m + 1) = kL M m ++ [m] := by conv => lhs; unfold kL; rw [hk]
                                              simp
  refine ⟨by rw [e]; simp [h.len], by have := h.lt; omega, fun j hj => ?_, fun j hj => ?_⟩
  · rw [e]
    by_cases e2 : j = k
    · subst e2
      rw [List.getElem?_append_right (by rw [h.len]; exact Nat.le_refl _), h.len, Nat.sub_self, if_pos rfl]; rfl
    · rw [List.getElem?_append_left (by rw [h.len]; omega), if_neg e2]; exact h.low j (by omega)
  · rw [if_neg (by omega)]; exact h.high j (by omega)

/-! ### The test -/
theorem cmp_zero : ∀ {a b : List UInt8}, Lib.compareBytes a b = 0 → a = b
  | [], [], _ => rfl
  | [], _ :: _, h => by simp [Lib.compareBytes] at h
  | _ :: _, [], h => by simp [Lib.compareBytes] at h
  | x :: a, y :: b, h => by
    unfold Lib.compareBytes at h
    split at h
    · cases h
    · split at h
      · cases h
      · rename_i h1 h2
        have n1 : ¬ x.toNat < y.toNat := h1
        have n2 : ¬ y.toNat < x.toNat := h2
        rw [UInt8.toNat_inj.1 (show x.toNat = y.toNat by omega), cmp_zero h]
theorem cmp_self : ∀ a : List UInt8, Lib.compareBytes a a = 0
  | [] => rfl
  | x :: a => by
    unfold Lib.compareBytes
    have n1 : ¬ x < x := fun h => by have h : x.toNat < x.toNat := h; omega
    rw [if_neg n1, if_neg n1, cmp_self a]
theorem cat1_eq (u v : Value) (r : Int) (W : World) (hc : Calls Tryz.prog 48 #[u, v] W fun e w' => e = .returned (.int .i64 r) ∧ ∃ q os, w' = grow (W.drewN q) os) :
    Calls Tryz.prog 50 #[u, v] W fun e w' => e = .returned (.bool (decide (r = 0))) ∧ ∃ q os, w' = grow (W.drewN q) os := by
  have C : Aside (Calls Tryz.prog 48 #[u, v] W fun e w' => e = .returned (.int .i64 r) ∧ ∃ q os, w' = grow (W.drewN q) os) := hc
  clear hc
  go_enter Tryz.func50, Tryz.ntmps50
  go_wp2_with (go_at_call 48; refine C.out.mono ?_; rintro e w' ⟨rfl, q1, os1, rfl⟩)
  go_ret
  exact ⟨rfl, _, _, rfl⟩
theorem cat1_walk {W : World} {u v : Value} {l m : List T3} (hu : TRow W u l) (hv : TRow W v m) (hs : Sml l) (hs' : Sml m) (hl : l.length ≤ 12) (hm : m.length ≤ 12) (hg : Gl W) :
    Calls Tryz.prog 50 #[u, v] W fun e w' => e = .returned (.bool (decide (l = m))) ∧ ∃ q os, w' = grow (W.drewN q) os := by
  have h := cat1_eq u v _ W (cmp_walk hu hv hs hs' hl hm hg)
  have e : decide (Lib.compareBytes (tx l).data.toList (tx m).data.toList = 0) = decide (l = m) := decide_eq_decide.2 ⟨fun h => tx_inj (bx_ext (cmp_zero h)), fun h => by rw [h]; exact cmp_self _⟩
  rw [e] at h
  exact h

/-! ### The walk -/
theorem AllBut.refl (b : Nat) (w : World) : AllBut b w w := ⟨rfl, rfl, rfl, Nat.le_refl _, fun _ _ _ => rfl⟩
theorem AllBut.grown {b : Nat} {w wr : World} (h : AllBut b w wr) (m : Nat) (os : Array Obj) : AllBut b w (grow (wr.drewN m) os) := by
  have hb := below_grow wr m os
  exact ⟨hb.os.trans h.os, hb.tape.trans h.tape, hb.output.trans h.output, Nat.le_trans h.size hb.size, fun k hk hne => by rw [hb.block k (by have := h.size; omega)]; exact h.oth k hk hne⟩
theorem AllBut.setCell {b : Nat} {w wr : World} (h : AllBut b w wr) (j : Nat) (v : Value) : AllBut b w (wr.setCell ⟨b, j, none⟩ v) :=
  ⟨h.os, h.tape, h.output, by rw [setCell_size]; exact h.size, fun k hk hne => (Below.heap_setCell _ _ _ _ hne).trans (h.oth k hk hne)⟩
theorem blk_grown {wr : World} {b : Nat} {o : Obj} (h : wr.heap[b]? = some o) (m : Nat) (os : Array Obj) : (grow (wr.drewN m) os).heap[b]? = some o := by
  rw [(below_grow wr m os).block b (block_lt h)]; exact h
/-- The block holds the first n of cur's cells in the order dk. -/
def Laid (wr : World) (b : Nat) (e : TypeId) (cur : Array Value) (n : Nat) (dk : Nat → Nat) : Prop := ∃ cur' : Array Value, wr.heap[b]? = some (.cells cur' e (0, 0)) ∧ cur'.size = cur.size ∧ ∀ j, j < n → cur'[j]? = some (cur[dk j]!)
theorem Laid.grown {wr : World} {b : Nat} {e : TypeId} {cur : Array Value} {n : Nat} {dk : Nat → Nat} (h : Laid wr b e cur n dk) (m : Nat) (os : Array Obj) : Laid (grow (wr.drewN m) os) b e cur n dk := by
  obtain ⟨cur', h1, h2⟩ := h
  exact ⟨cur', blk_grown h1 m os, h2⟩
theorem Laid.cell {wr : World} {b : Nat} {e : TypeId} {cur : Array Value} {n : Nat} {dk : Nat → Nat} (h : Laid wr b e cur n dk) {j : Nat} (hj : j < n) : wr.cell? ⟨b, j, none⟩ = some (cur[dk j]!) := by
  obtain ⟨cur', h1, h2, h3⟩ := h
  exact cell_of_blk h1 (h3 j hj)
theorem Laid.frozen {wr : World} {b : Nat} {e : TypeId} {cur : Array Value} {n : Nat} {dk : Nat → Nat} (h : Laid wr b e cur n dk) (j : Nat) : wr.frozen? ⟨b, j, none⟩ = false := by
  obtain ⟨cur', h1, h2, h3⟩ := h
  simp [World.frozen?, h1]
theorem Laid.set {wr : World} {b : Nat} {e : TypeId} {cur : Array Value} {n : Nat} {dk : Nat → Nat} (h : Laid wr b e cur n dk) (hn : n ≤ cur.size) {k m : Nat} (hk : k < n) : Laid (wr.setCell ⟨b, k, none⟩ (cur[m]!)) b e cur n (fun j => if j = k then m else dk j) := by
  obtain ⟨cur', h1, h2, h3⟩ := h
  refine ⟨_, setCell_at h1, by simpa using h2, fun j hj => ?_⟩
  by_cases e2 : j = k
  · subst e2; show _ = some (cur[if j = j then m else dk j]!); rw [if_pos rfl]; simp [show j < cur'.size by omega]
  · show _ = some (cur[if j = k then m else dk j]!)
    rw [if_neg e2, Array.getElem?_setIfInBounds_ne (fun h => e2 h.symm)]; exact h3 j hj

set_option maxHeartbeats 8000000 in
set_option maxRecDepth 1000000 in
theorem compact_walk (M : List (List T3)) (w : World) (b c : Nat) (cur : Array Value) (e : TypeId) (hcur : w.heap[b]? = some (.cells cur e (0, 0))) (hn : M.length ≤ cur.size) (hc : M.length ≤ c) (hM : M.length ≤ 1099511627776)
    (hcat : ∀ wr, AllBut b w wr → ∀ i j, i < M.length → j < M.length → Calls Tryz.prog 50 #[cur[i]!, cur[j]!] wr fun e w' => e = .returned (.bool (decide (tsAt M i = tsAt M j))) ∧ ∃ q os, w' = grow (wr.drewN q) os)
    (hone : ∀ j, j < M.length → ∃ A m c', cur[j]! = .slice A m c') :
    Calls Tryz.prog 49 #[.slice (some ⟨b, 0, none⟩) M.length c, .func (.func 50) #[] #[]] w fun e' w' =>
      e' = .returned (.slice (some ⟨b, 0, none⟩) (kL M M.length).length c) ∧ AllBut b w w' ∧ Laid w' b e cur (kL M M.length).length (fun j => (kL M M.length).getD j 0) := by
  have mixed : Tryz.prog.follows .mixedOrders = true := rfl
  have ci : ∀ args w, (callFunc 50 args).run Tryz.prog w = .ok (.enter 50 args) w := Tryz.call50
  have start : Laid w b e cur M.length id := ⟨cur, hcur, rfl, fun j hj => by
    show cur[j]? = some (cur[j]!)
    rw [getElem!_pos cur j (by omega), Array.getElem?_eq_getElem (by omega)]⟩
  have allK : (∀ j, j < M.length → kp M j = true) → ∀ wr, Laid wr b e cur M.length id → (kL M M.length).length = M.length ∧ Laid wr b e cur (kL M M.length).length (fun j => (kL M M.length).getD j 0) := fun h wr hl => by
    have e1 := kL_all h
    have e2 : (kL M M.length).length = M.length := by rw [e1]; simp
    refine ⟨e2, ?_⟩
    rw [e2]
    obtain ⟨cur', h1, h2, h3⟩ := hl
    refine ⟨cur', h1, h2, fun j hj => ?_⟩
    rw [h3 j hj, e1]
    simp [List.getD, hj]
  have F : Aside ((∀ wr, AllBut b w wr → ∀ i j, i < M.length → j < M.length → Calls Tryz.prog 50 #[cur[i]!, cur[j]!] wr fun e w' => e = .returned (.bool (decide (tsAt M i = tsAt M j))) ∧ ∃ q os, w' = grow (wr.drewN q) os) ∧ (∀ j, j < M.length → ∃ A m c', cur[j]! = .slice A m c') ∧ M.length ≤ cur.size ∧ Laid w b e cur M.length id ∧ ((∀ j, j < M.length → kp M j = true) → ∀ wr, Laid wr b e cur M.length id → (kL M M.length).length = M.length ∧ Laid wr b e cur (kL M M.length).length (fun j => (kL M M.length).getD j 0))) := ⟨hcat, hone, hn, start, allK⟩
  clear hcat hone start allK hcur hn
  by_cases h2 : M.length < 2
  · go_enter Tryz.func49, Tryz.ntmps49
    go_wp2
    go_ret
    obtain ⟨e1, e2⟩ := F.out.2.2.2.2 (fun j hj => decide_eq_true (.inl (by omega))) _ F.out.2.2.2.1
    exact ⟨by rw [e1]; rfl, AllBut.refl _ _, e2⟩
  · go_enter Tryz.func49, Tryz.ntmps49
    go_wp2
    go_loopg [5] M.length (fun g s5 wr => ∃ k : Nat, 1 ≤ k ∧ k ≤ M.length ∧ M.length - k ≤ g ∧ s5 = .int .i64 k ∧ AllBut b w wr ∧ Laid wr b e cur M.length id ∧ ∀ j, j < k → kp M j = true)
    case atStart => exact ⟨1, Nat.le_refl _, by omega, by omega, rfl, AllBut.refl _ _, F.out.2.2.2.1, fun j hj => decide_eq_true (.inl (by omega))⟩
    case round =>
      obtain ⟨k, hk1, hk, hg, rfl, hab, hla, hall⟩ := hrel
      by_cases hlt : k < M.length
      · have c1 := fun m os => (hla.grown m os).cell hlt
        have c0 := fun m os => (hla.grown m os).cell (show k - 1 < M.length by omega)
        have T := fun m os => F.out.1 (grow (wr.drewN m) os) (hab.grown m os) k (k - 1) hlt (by omega)
        have A : Aside (AllBut b w wr ∧ Laid wr b e cur M.length id ∧ ∀ j, j < k → kp M j = true) := ⟨hab, hla, hall⟩
        clear hab hla hall
        simp only [id] at c1 c0
        have hw : IntKind.i64.wrap ((k : Int) - 1) = ((k - 1 : Nat) : Int) := by
          have : IntKind.i64.wrap ((k : Int) - 1) = (k : Int) - 1 := by simp [IntKind.wrap, IntKind.bits, IntKind.signed]; omega
          omega
        have hkm : k - 1 < M.length := by omega
        by_cases hdup : tsAt M k = tsAt M (k - 1)
        · rw [decide_eq_true hdup] at T
          have B : Aside (kp M k = false) := decide_eq_false (fun h => by rcases h with h | h; omega; exact h hdup.symm)
          clear hdup
          generalize cur[k]! = x at *
          generalize cur[k - 1]! = y at *
          have T2 : Aside (∀ m os, Calls Tryz.prog 50 #[x, y] (grow (wr.drewN m) os) fun e w' => e = .returned (.bool true) ∧ ∃ q os', w' = grow ((grow (wr.drewN m) os).drewN q) os') := T
          clear T
          go_wp2_with fail
          go_quiet_grown (first | (go_at_call 50; refine Calls.grown_of (T2.out _ _)))
          go_wp2
          clear c1 c0 hw hkm
          go_loopg [5, 7] M.length (fun g s5 s7 wr => ∃ (kk k2 : Nat) (dk : Nat → Nat), s5 = .int .i64 kk ∧ s7 = .int .i64 k2 ∧ 1 ≤ k2 ∧ k + k2 ≤ M.length ∧ M.length - (k + k2) ≤ g ∧ AllBut b w wr ∧ Laid wr b e cur M.length dk ∧ CoInv M (k + k2) kk dk)
          case atStart => exact ⟨k, 1, id, rfl, rfl, Nat.le_refl _, by omega, by omega, A.out.1.grown _ _, A.out.2.1.grown _ _, CoInv.start A.out.2.2 B.out⟩
          case round =>
            obtain ⟨kk, k2, dk, rfl, rfl, h1, hle, hg2, hab, hla, hI⟩ := hrel
            have hkk := hI.lt
            by_cases hlt2 : k + k2 < M.length
            · have cm := fun m os => (hla.grown m os).cell hlt2
              have cp := fun m os => (hla.grown m os).cell (show k + (k2 - 1) < M.length by omega)
              have ck := fun m os => (hla.grown m os).cell (show kk < M.length by omega)
              have fk := fun m os => (hla.grown m os).frozen kk
              simp only [hI.high (k + k2) (by omega)] at cm
              simp only [hI.high (k + (k2 - 1)) (by omega)] at cp
              have ox := F.out.2.1 (k + k2) hlt2
              have T := fun m os => F.out.1 (grow (wr.drewN m) os) (hab.grown m os) (k + k2) (k + (k2 - 1)) hlt2 (by omega)
              have A2 : Aside (AllBut b w wr ∧ Laid wr b e cur M.length dk ∧ CoInv M (k + k2) kk dk) := ⟨hab, hla, hI⟩
              clear hab hla hI
              have hw : IntKind.i64.wrap ((k2 : Int) - 1) = ((k2 - 1 : Nat) : Int) := by
                have : IntKind.i64.wrap ((k2 : Int) - 1) = (k2 : Int) - 1 := by simp [IntKind.wrap, IntKind.bits, IntKind.signed]; omega
                omega
              have hb1 : k2 < M.length - k := by omega
              have hb2 : k2 - 1 < M.length - k := by omega
              have hb3 : kk < M.length := by omega
              generalize cur[dk kk]! = old at ck
              by_cases hdup2 : tsAt M (k + k2) = tsAt M (k + (k2 - 1))
              · rw [decide_eq_true hdup2] at T
                have B2 : Aside (kp M (k + k2) = false) := decide_eq_false (fun h => by
                  rcases h with h | h
                  · omega
                  · exact h (by rw [show k + k2 - 1 = k + (k2 - 1) by omega]; exact hdup2.symm))
                clear hdup2
                generalize cur[k + k2]! = x at *
                generalize cur[k + (k2 - 1)]! = y at *
                have T2 : Aside (∀ m os, Calls Tryz.prog 50 #[x, y] (grow (wr.drewN m) os) fun e w' => e = .returned (.bool true) ∧ ∃ q os', w' = grow ((grow (wr.drewN m) os).drewN q) os') := T
                clear T
                go_wp2_with fail
                go_quiet_grown (first | (go_at_call 50; refine Calls.grown_of (T2.out _ _)))
                go_wp2
                go_roundg (M.length - (k + (k2 + 1)))
                case measure => omega
                case rel => exact ⟨kk, k2 + 1, dk, rfl, by congr 1, by omega, by omega, Nat.le_refl _, A2.out.1.grown _ _, A2.out.2.1.grown _ _, A2.out.2.2.skip B2.out⟩
              · rw [decide_eq_false hdup2] at T
                have B2 : Aside (kp M (k + k2) = true) := decide_eq_true (.inr fun h => hdup2 (by rw [show k + (k2 - 1) = k + k2 - 1 by omega]; exact h.symm))
                clear hdup2
                obtain ⟨xa, xm, xc, hx⟩ := ox
                rw [hx] at T
                simp only [hx] at cm
                have X : Aside (cur[k + k2]! = .slice xa xm xc) := hx
                clear hx
                generalize cur[k + (k2 - 1)]! = y at *
                have T2 : Aside (∀ m os, Calls Tryz.prog 50 #[.slice xa xm xc, y] (grow (wr.drewN m) os) fun e w' => e = .returned (.bool false) ∧ ∃ q os', w' = grow ((grow (wr.drewN m) os).drewN q) os') := T
                clear T
                go_wp2_with fail
                go_quiet_grown (first | (go_at_call 50; refine Calls.grown_of (T2.out _ _)))
                go_wp2
                go_roundg (M.length - (k + (k2 + 1)))
                case measure => omega
                case rel =>
                  refine ⟨kk + 1, k2 + 1, fun j => if j = kk then k + k2 else dk j, by congr 1, by congr 1, by omega, by omega, Nat.le_refl _, (A2.out.1.grown _ _).setCell _ _, ?_, A2.out.2.2.keep B2.out⟩
                  rw [← X.out]
                  exact (A2.out.2.1.grown _ _).set F.out.2.2.1 (by omega)
            · have hend : k + k2 = M.length := by omega
              have hcl : ∀ ty, (Builtin.clear_ #[23] ty #[.slice (some ⟨b, kk, none⟩) (M.length - kk) (c - kk)]).run Tryz.prog wr = .ok (.tuple #[]) (wr.setCells b kk (List.replicate (M.length - kk) (.slice none 0 0))) :=
                fun ty => Lib.run_clear_slice wr _ _ ty _ Tryz.underlying23 Tryz.zeroValue32 rfl rfl b kk _ _ (by omega) (fun j hj => by rw [hla.cell (show kk + j < M.length by omega)]; rfl) (fun j hj => hla.frozen _)
              have A2 : Aside (AllBut b w wr ∧ Laid wr b e cur M.length dk ∧ CoInv M (k + k2) kk dk) := ⟨hab, hla, hI⟩
              clear hab hla hI
              have hb3 : kk ≤ M.length := by omega
              have hb4 : kk ≤ c := by omega
              go_wp2
              go_ret
              obtain ⟨hab, hla, hI⟩ := A2.out
              rw [hend] at hI
              obtain ⟨cur', q1, q2, q3⟩ := hla
              obtain ⟨cur2, r1, r2, r3, _, r5, r6, r7, r8, r9⟩ := setCells_at (List.replicate (M.length - kk) (.slice none 0 0)) wr b kk cur' e (0, 0) q1
              refine ⟨by rw [hI.len]; rfl, ⟨r5.trans hab.os, r6.trans hab.tape, r7.trans hab.output, by rw [r8]; exact hab.size, fun i hi hne => (r9 i hne).trans (hab.oth i hi hne)⟩, cur2, r1, by rw [r2, q2], fun j hj => ?_⟩
              rw [hI.len] at hj
              rw [r3 j (.inl hj), q3 j (by omega)]
              have := hI.low j hj
              simp [List.getD, this]
        · rw [decide_eq_false hdup] at T
          have B : Aside (kp M k = true) := decide_eq_true (.inr fun h => hdup h.symm)
          clear hdup
          generalize cur[k]! = x at *
          generalize cur[k - 1]! = y at *
          have T2 : Aside (∀ m os, Calls Tryz.prog 50 #[x, y] (grow (wr.drewN m) os) fun e w' => e = .returned (.bool false) ∧ ∃ q os', w' = grow ((grow (wr.drewN m) os).drewN q) os') := T
          clear T
          go_wp2_with fail
          go_quiet_grown (first | (go_at_call 50; refine Calls.grown_of (T2.out _ _)))
          go_wp2
          go_roundg (M.length - (k + 1))
          case measure => omega
          case rel =>
            refine ⟨k + 1, by omega, by omega, Nat.le_refl _, by congr 1, A.out.1.grown _ _, A.out.2.1.grown _ _, fun j hj => ?_⟩
            by_cases e2 : j = k
            · subst e2; exact B.out
            · exact A.out.2.2 j (by omega)
      · have e0 : k = M.length := by omega
        have A : Aside (AllBut b w wr ∧ Laid wr b e cur M.length id ∧ ∀ j, j < k → kp M j = true) := ⟨hab, hla, hall⟩
        clear hab hla hall
        go_wp2
        go_ret
        subst e0
        obtain ⟨e1, e2⟩ := F.out.2.2.2.2 A.out.2.2 _ A.out.2.1
        exact ⟨by rw [e1]; rfl, A.out.1, e2⟩
end Go.Proofs.YteapdildbfimnaaGreatDoor
