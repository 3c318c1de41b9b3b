/- Parts of the proof of LawFnCatalogues: contracts of functions, laws of an abstract state, plain facts. No conditions. -/
import Derived.Test.YteapdildbfimnaaGreatDoorB11
import Derived.MapKept
import Derived.ChangeMaps5
namespace Go.Proofs.YteapdildbfimnaaGreatDoor
open Go.RowKit Go.Proofs
set_option linter.unusedSimpArgs false
set_option linter.unusedVariables false
theorem z_terms : zeroOf Tryz.prog 32 = some [.slice none 0 0] := by kernel_rfl

theorem eqTL_sym (a b : List T3) : eqTL a b = eqTL b a := by
  have h : ∀ a b : List T3, eqTL a b = true → eqTL b a = true := fun a b h => by
    unfold eqTL at h
    simp only [Bool.and_eq_true, beq_iff_eq] at h
    refine eqTL_yes (by omega) fun k hk => ?_
    have := allN_iff.1 h.2 k (by omega)
    unfold eqT at this ⊢
    simp only [Bool.and_eq_true, beq_iff_eq] at this ⊢
    exact ⟨⟨this.1.1.symm, this.1.2.symm⟩, this.2.symm⟩
  cases e : eqTL a b with
  | true => exact (h a b e).symm
  | false =>
    cases e2 : eqTL b a with
    | true => rw [h b a e2] at e; cases e
    | false => rfl

theorem indexFuncT_fn (n : Nat) (f : Nat → V) (c : FuncId) (k : Nat) (cs : Nat → V) (p : Nat → Bool) (hn : n ≤ 1099511627776) (hf : ∀ i, i < n → Fn Tryz.prog c (f i :: tabV k cs) (.one (.pv (vb (p i))))) :
    Fn Tryz.prog 30 [.seq 1 n f, .clo c k cs] (.one (.pv (vi (firstN p n)))) := by
  refine Fn.of_body Tryz.call30 Tryz.func30 rfl Tryz.ntmps30 (ts := [4]) rfl (by simp) rfl (fun N => ?_)
  repeat' (first | (with_reducible first | refine then_normal ?_ | refine then_ret ?_ | refine then_exit ?_ | refine block_normal ?_ | refine block_ret ?_) | ((with_reducible show blockQ _ _ _ _); first | refine block_exit ?_ | refine block_exit_ne rfl ?_) | ((with_reducible show AWP _ _ _ _ _); first | (with_reducible first | refine AWP.seq ?_ | refine AWP.block ?_ | refine AWP.region ?_ | refine AWP.ret ?_ | refine AWP.exit ?_ | refine AWP.skip ?_) | refine AWP.drawn rfl (by kernel_rfl) ?_ | refine AWP.cond rfl ?_ ?_) | with_reducible refine ev_nil ?_ | ((first | ((with_reducible show evOps _ _ _ _ _ _); (first | refine ev_step rfl ?_ | refine ev_undef rfl rfl rfl ?_); intro K hK) | ((with_reducible show EvOpen _ _ _ _ _ _ _); refine ev_open ?_; intro K hK) | ((with_reducible show SkOpen _ _ _ _ _ _ _); refine sk_open ?_; intro K hK) | ((with_reducible show callK _ _ _ _ _ _ _ _); first | fail)); simp only [evOp, evQ, evB, withS, opd, kput, putS, upd, lookup, slotsOf, sz_termss, Nat.reduceEqDiff, Nat.reduceLT, Nat.zero_add, ↓reduceIte, eq_self, true_and, Option.isSome_some]) | refine ev_guard rfl rfl rfl ?_ ?_ | ((with_reducible show retQ _ _ _ _); simp only [eq_self]) | (with_reducible refine hK _ ?_; clear hK K) | (with_reducible refine And.intro ?_ ?_) | (with_reducible intro hc; try simp only [eq_self] at hc) | omega)
  refine AWP.loop_ent (fun j : Nat => ⟨[(0, .one (.pv (.seq 1 n f))), (1, .one (.pv (.clo c k cs))), (6, .one (.pv (.seq 1 n f))), (7, sc (.int .i64 n)), (8, sc (.int .i64 j))], [], 19⟩)
    (fun j => j ≤ n ∧ ∀ i, i < j → p i = false) (fun j => n - j) 0 ⟨by omega, by simp⟩ (by simp [Ent, EntS, EntH, SlE, VE.rfl', lookup]) ?_
  rintro j ⟨hj, hall⟩
  repeat' (first | (with_reducible first | refine then_normal ?_ | refine then_ret ?_ | refine then_exit ?_ | refine block_normal ?_ | refine block_ret ?_) | ((with_reducible show blockQ _ _ _ _); first | refine block_exit ?_ | refine block_exit_ne rfl ?_) | ((with_reducible show AWP _ _ _ _ _); first | (with_reducible first | refine AWP.seq ?_ | refine AWP.block ?_ | refine AWP.region ?_ | refine AWP.ret ?_ | refine AWP.exit ?_ | refine AWP.skip ?_) | refine AWP.drawn rfl (by kernel_rfl) ?_ | refine AWP.cond rfl ?_ ?_) | with_reducible refine ev_nil ?_ | ((first | ((with_reducible show evOps _ _ _ _ _ _); (first | refine ev_step rfl ?_ | refine ev_undef rfl rfl rfl ?_); intro K hK) | ((with_reducible show EvOpen _ _ _ _ _ _ _); refine ev_open ?_; intro K hK) | ((with_reducible show SkOpen _ _ _ _ _ _ _); refine sk_open ?_; intro K hK) | ((with_reducible show callK _ _ _ _ _ _ _ _); first  | (refine call_scalar (hf j (by omega)) (Nat.le_of_ble_eq_true rfl) rfl ?_))); simp only [evOp, evQ, dynK, binK, withS, opd, kput, putS, upd, lookup, argsK, bringIn, bring, Res.list, Res.slot, InK_i64, sz_termss, c_terms, List.reverse_cons, List.reverse_nil, List.nil_append, List.cons_append, Nat.reduceEqDiff, Nat.reduceLT, Nat.mul_one, Nat.add_zero, ↓reduceIte, eq_self, true_and, Int.toNat_natCast]) | refine ev_guard rfl rfl rfl ?_ ?_ | ((with_reducible show retQ _ _ _ _); simp only [retQ, retOk, getL, lookup, Option.map_some, fitsL, fits, ND, srcs, Res.list, VE, Value.int.injEq, Nat.reduceEqDiff, ↓reduceIte, and_true, true_and]) | (with_reducible refine hK _ ?_; clear hK K) | (with_reducible refine And.intro ?_ ?_) | (with_reducible intro hc; try simp only [decide_eq_true_eq, decide_eq_false_iff_not, Int.not_lt] at hc) | omega)
  all_goals first
    | (rw [firstN_at hall ‹p j = true› (show j < n by omega)]; done)
    | exact ⟨j + 1, ⟨by omega, upto_succ hall ‹_›⟩, by omega, by simp [Ent, EntS, EntH, SlE, VE.rfl', lookup]⟩
    | (rw [firstN_none fun i hi => hall i (by omega)]; done)
    | trace_state

theorem place1_fn (m l : List T3) (hm : m.length ≤ 1099511627776) (hl : l.length ≤ 1099511627776) : Fn Tryz.prog 31 [terms m, .pin 1 fun _ => terms l] (.one (.pv (vb (eqTL m l)))) := by
  refine Fn.of_body Tryz.call31 Tryz.func31 rfl Tryz.ntmps31 (ts := [3]) rfl (by simp) rfl (fun N => ?_)
  repeat' (first | (with_reducible first | refine then_normal ?_ | refine then_ret ?_ | refine then_exit ?_ | refine block_normal ?_ | refine block_ret ?_) | ((with_reducible show blockQ _ _ _ _); first | refine block_exit ?_ | refine block_exit_ne rfl ?_) | ((with_reducible show AWP _ _ _ _ _); first | (with_reducible first | refine AWP.seq ?_ | refine AWP.block ?_ | refine AWP.region ?_ | refine AWP.ret ?_ | refine AWP.exit ?_ | refine AWP.skip ?_) | refine AWP.drawn rfl (by kernel_rfl) ?_ | refine AWP.cond rfl ?_ ?_) | with_reducible refine ev_nil ?_ | ((first | ((with_reducible show evOps _ _ _ _ _ _); (first | refine ev_step rfl ?_ | refine ev_undef rfl rfl rfl ?_); intro K hK) | ((with_reducible show EvOpen _ _ _ _ _ _ _); refine ev_open ?_; intro K hK) | ((with_reducible show SkOpen _ _ _ _ _ _ _); refine sk_open ?_; intro K hK) | ((with_reducible show callK _ _ _ _ _ _ _ _); first  | (refine call_scalar (slicesEqual_fn m l hm hl) (Nat.le_of_ble_eq_true rfl) rfl ?_))); simp only [evOp, evQ, withS, opd, kput, putS, upd, lookup, argsK, bringIn, bring, Res.list, Res.slot, slotsOf, c_terms, List.reverse_cons, List.reverse_nil, List.nil_append, List.cons_append, Nat.reduceEqDiff, Nat.reduceLT, Nat.zero_add, ↓reduceIte, eq_self, true_and]) | refine ev_guard rfl rfl rfl ?_ ?_ | ((with_reducible show retQ _ _ _ _); simp only [retQ, retOk, getL, lookup, Option.map_some, fitsL, fits, ND, srcs, Res.list, VE, Nat.reduceEqDiff, ↓reduceIte, and_true]) | (with_reducible refine hK _ ?_; clear hK K) | (with_reducible refine And.intro ?_ ?_) | (with_reducible intro hc; try simp only [eq_self] at hc) | omega)

set_option maxHeartbeats 2000000 in
set_option maxRecDepth 20000 in
theorem implPlace_fn (L : List (List T3)) (l : List T3) (hl : L.length ≤ 1099511627776) (hr : ∀ i, i < L.length → (tsAt L i).length ≤ 1099511627776) (hll : l.length ≤ 1099511627776) : Fn Tryz.prog 10 [termss L, terms l] (.many [.pv (vi (plcR L l).1), .pv (vb (plcR L l).2)]) := by
  have hct := isCatalogue_fn L hl hr
  have hnp := implNormalPlane_fn l hll
  have hle := normR_le l
  refine Fn.of_body Tryz.call10 Tryz.func10 rfl Tryz.ntmps10 (ts := [4, 5]) rfl (by simp) rfl (fun N => ?_)
  cases hn : (normR l).2 with
  | false =>
    rw [plcR_no2 hn]
    rw [hn] at hnp
    repeat' (first | (with_reducible first | refine then_normal ?_ | refine then_ret ?_ | refine then_exit ?_ | refine block_normal ?_ | refine block_ret ?_) | ((with_reducible show blockQ _ _ _ _); first | refine block_exit ?_ | refine block_exit_ne rfl ?_) | ((with_reducible show AWP _ _ _ _ _); first | (with_reducible first | refine AWP.seq ?_ | refine AWP.block ?_ | refine AWP.region ?_ | refine AWP.ret ?_ | refine AWP.exit ?_ | refine AWP.skip ?_) | refine AWP.drawn rfl (by kernel_rfl) ?_ | refine AWP.cond rfl ?_ ?_) | with_reducible refine ev_nil ?_ | ((first | ((with_reducible show evOps _ _ _ _ _ _); (first | refine ev_step rfl ?_ | refine ev_undef rfl rfl rfl ?_); intro K hK) | ((with_reducible show EvOpen _ _ _ _ _ _ _); refine ev_open ?_; intro K hK) | ((with_reducible show SkOpen _ _ _ _ _ _ _); refine sk_open ?_; intro K hK) | ((with_reducible show callK _ _ _ _ _ _ _ _); first  | (refine call_safe ( hnp) (Nat.le_of_ble_eq_true rfl) (by repeat' (first | exact trivial | refine ⟨fun _ _ => ⟨_, rfl⟩, ?_⟩)) ?_))); simp only [evOp, evQ, withS, opd, kput, putS, upd, lookup, skipOp, argsK, bringIn, bring, Res.list, Res.slot, slotsOf, storeK, frz, storeV, setBlk, newBlk, allocK, V.one, List.set_cons_zero, List.set_cons_succ, bterms, z_terms, c_terms, List.getElem?_cons_zero, List.getElem?_cons_succ, List.reverse_cons, List.reverse_nil, List.nil_append, List.cons_append, List.length_cons, List.length_nil, Nat.reduceEqDiff, Nat.reduceLT, Nat.zero_add, ↓reduceIte, eq_self, true_and, and_true, Bool.not_false, Bool.true_eq_false, false_implies, forall_const]) | refine ev_guard rfl rfl rfl ?_ ?_ | ((with_reducible show retQ _ _ _ _); simp only [retQ, retOk, getL, lookup, Option.map_some, fitsL, fits, ND, srcs, Res.list, VE, Nat.reduceEqDiff, ↓reduceIte, and_true]) | (with_reducible refine hK _ ?_; clear hK K) | (with_reducible refine And.intro ?_ ?_) | (with_reducible intro hc; try simp only [Bool.not_false, Bool.true_eq_false] at hc) | omega)
    all_goals first
      | (exfalso; omega)
      | trace_state
  | true =>
    rw [hn] at hnp
    cases hb : ctB L with
    | false =>
      rw [plcR_no1 hb]
      rw [hb] at hct
      repeat' (first | (with_reducible first | refine then_normal ?_ | refine then_ret ?_ | refine then_exit ?_ | refine block_normal ?_ | refine block_ret ?_) | ((with_reducible show blockQ _ _ _ _); first | refine block_exit ?_ | refine block_exit_ne rfl ?_) | ((with_reducible show AWP _ _ _ _ _); first | (with_reducible first | refine AWP.seq ?_ | refine AWP.block ?_ | refine AWP.region ?_ | refine AWP.ret ?_ | refine AWP.exit ?_ | refine AWP.skip ?_) | refine AWP.drawn rfl (by kernel_rfl) ?_ | refine AWP.cond rfl ?_ ?_) | with_reducible refine ev_nil ?_ | ((first | ((with_reducible show evOps _ _ _ _ _ _); (first | refine ev_step rfl ?_ | refine ev_undef rfl rfl rfl ?_); intro K hK) | ((with_reducible show EvOpen _ _ _ _ _ _ _); refine ev_open ?_; intro K hK) | ((with_reducible show SkOpen _ _ _ _ _ _ _); refine sk_open ?_; intro K hK) | ((with_reducible show callK _ _ _ _ _ _ _ _); first  | (refine call_safe ( hnp) (Nat.le_of_ble_eq_true rfl) (by repeat' (first | exact trivial | refine ⟨fun _ _ => ⟨_, rfl⟩, ?_⟩)) ?_) | (refine call_scalar (hct) (Nat.le_of_ble_eq_true rfl) rfl ?_))); simp only [evOp, evQ, withS, opd, kput, putS, upd, lookup, argsK, bringIn, bring, Res.list, Res.slot, slotsOf, storeK, frz, storeV, setBlk, newBlk, allocK, V.one, List.set_cons_zero, List.set_cons_succ, bterms, z_terms, c_terms, List.getElem?_cons_zero, List.getElem?_cons_succ, List.reverse_cons, List.reverse_nil, List.nil_append, List.cons_append, List.length_cons, List.length_nil, Nat.reduceEqDiff, Nat.reduceLT, Nat.zero_add, ↓reduceIte, eq_self, true_and, Bool.not_true, Bool.not_false, Bool.false_eq_true, false_implies, forall_const]) | refine ev_guard rfl rfl rfl ?_ ?_ | ((with_reducible show retQ _ _ _ _); simp only [retQ, retOk, getL, lookup, Option.map_some, fitsL, fits, ND, srcs, Res.list, VE, Nat.reduceEqDiff, ↓reduceIte, and_true]) | (with_reducible refine hK _ ?_; clear hK K) | (with_reducible refine And.intro ?_ ?_) | (with_reducible intro hc; try simp only [Bool.not_false, reduceCtorEq, Bool.true_eq_false] at hc) | omega)
      all_goals first
        | (exfalso; omega)
        | trace_state
    | true =>
      rw [plcR_yes hb hn]
      rw [hb] at hct
      obtain ⟨h10, hall⟩ := ctB_is hb
      have hix := indexFuncT_fn L.length (fun i => terms (tsAt L i)) 31 1 (fun i => [V.pin 1 fun _ => terms (normR l).1].getD i (.val undef)) (fun i => eqTL (tsAt L i) (normR l).1) hl (fun i hi => place1_fn (tsAt L i) (normR l).1 (hr i hi) (by omega))
      have e : firstN (fun i => eqTL (tsAt L i) (normR l).1) L.length = plcN L l := rfl
      rw [e] at hix
      generalize plcN L l = pn at *
      refine AWP.seq_cutR ⟨[(0, .one (.pv (termss L))), (1, .one (.pv (terms l)))], [], 28⟩ ?_ (AWP.seq_cutR ⟨[(0, .one (.pv (termss L))), (1, .one (.pv (terms l))), (6, .one (.ptr 0 0)), (7, sc (.bool true))], [some ⟨32, 1, fun _ => terms (normR l).1⟩], 28⟩ ?_ (AWP.freeze 6 0 rfl rfl ?_))
      · repeat' (first | (with_reducible first | refine then_normal ?_ | refine then_ret ?_ | refine then_exit ?_ | refine block_normal ?_ | refine block_ret ?_) | ((with_reducible show blockQ _ _ _ _); first | refine block_exit ?_ | refine block_exit_ne rfl ?_) | ((with_reducible show AWP _ _ _ _ _); first | (with_reducible first | refine AWP.seq ?_ | refine AWP.block ?_ | refine AWP.region ?_ | refine AWP.ret ?_ | refine AWP.exit ?_ | refine AWP.skip ?_) | refine AWP.drawn rfl (by kernel_rfl) ?_ | refine AWP.cond rfl ?_ ?_) | with_reducible refine ev_nil ?_ | ((first | ((with_reducible show evOps _ _ _ _ _ _); (first | refine ev_step rfl ?_ | refine ev_undef rfl rfl rfl ?_); intro K hK) | ((with_reducible show EvOpen _ _ _ _ _ _ _); refine ev_open ?_; intro K hK) | ((with_reducible show SkOpen _ _ _ _ _ _ _); refine sk_open ?_; intro K hK) | ((with_reducible show callK _ _ _ _ _ _ _ _); first | fail)); simp only [evOp, evQ, withS, opd, kput, putS, upd, slotsOf, Nat.reduceEqDiff, Nat.reduceLT, Nat.zero_add, ↓reduceIte, true_and]) | refine ev_guard rfl rfl rfl ?_ ?_ | ((with_reducible show retQ _ _ _ _); simp only [eq_self]) | (with_reducible refine hK _ ?_; clear hK K) | (with_reducible refine And.intro ?_ ?_) | (with_reducible intro hc; try simp only [eq_self] at hc) | omega)
        all_goals exact ⟨[], rfl, by decide, by simp [EntSR, SlR, VE, lookup, sc, VE.rfl'], trivial⟩
      · repeat' (first | (with_reducible first | refine then_normal ?_ | refine then_ret ?_ | refine then_exit ?_ | refine block_normal ?_ | refine block_ret ?_) | ((with_reducible show blockQ _ _ _ _); first | refine block_exit ?_ | refine block_exit_ne rfl ?_) | ((with_reducible show AWP _ _ _ _ _); first | (with_reducible first | refine AWP.seq ?_ | refine AWP.block ?_ | refine AWP.region ?_ | refine AWP.ret ?_ | refine AWP.exit ?_ | refine AWP.skip ?_) | refine AWP.drawn rfl (by kernel_rfl) ?_ | refine AWP.cond rfl ?_ ?_) | with_reducible refine ev_nil ?_ | ((first | ((with_reducible show evOps _ _ _ _ _ _); (first | refine ev_step rfl ?_ | refine ev_undef rfl rfl rfl ?_); intro K hK) | ((with_reducible show EvOpen _ _ _ _ _ _ _); refine ev_open ?_; intro K hK) | ((with_reducible show SkOpen _ _ _ _ _ _ _); refine sk_open ?_; intro K hK) | ((with_reducible show callK _ _ _ _ _ _ _ _); first  | (refine call_safe ( hnp) (Nat.le_of_ble_eq_true rfl) (by repeat' (first | exact trivial | refine ⟨fun _ _ => ⟨_, rfl⟩, ?_⟩)) ?_))); simp only [evOp, evQ, withS, opd, kput, putS, upd, lookup, argsK, bringIn, bring, Res.list, Res.slot, storeK, frz, storeV, setBlk, newBlk, allocK, V.one, List.set_cons_zero, List.set_cons_succ, bterms, z_terms, c_terms, List.getElem?_cons_zero, List.getElem?_cons_succ, List.reverse_cons, List.reverse_nil, List.nil_append, List.cons_append, List.length_cons, List.length_nil, Nat.reduceEqDiff, Nat.reduceLT, Nat.zero_add, ↓reduceIte, eq_self, true_and]) | refine ev_guard rfl rfl rfl ?_ ?_ | ((with_reducible show retQ _ _ _ _); simp only [eq_self]) | (with_reducible refine hK _ ?_; clear hK K) | (with_reducible refine And.intro ?_ ?_) | (with_reducible intro hc; try simp only [eq_self] at hc) | omega)
        all_goals first
          | (exfalso; omega)
          | (exact ⟨[1], rfl, by decide, by simp [EntSR, SlR, VE, lookup, sc, VE.rfl'], ⟨rfl, Nat.le_refl _, fun i hi => by
              have hi : i < 1 := hi
              obtain rfl : i = 0 := by omega
              simp [bterms, VE.rfl']⟩, trivial⟩)
          | trace_state
      · repeat' (first | (with_reducible first | refine then_normal ?_ | refine then_ret ?_ | refine then_exit ?_ | refine block_normal ?_ | refine block_ret ?_) | ((with_reducible show blockQ _ _ _ _); first | refine block_exit ?_ | refine block_exit_ne rfl ?_) | ((with_reducible show AWP _ _ _ _ _); first | (with_reducible first | refine AWP.seq ?_ | refine AWP.block ?_ | refine AWP.region ?_ | refine AWP.ret ?_ | refine AWP.exit ?_ | refine AWP.skip ?_) | refine AWP.drawn rfl (by kernel_rfl) ?_ | refine AWP.cond rfl ?_ ?_) | with_reducible refine ev_nil ?_ | ((first | ((with_reducible show evOps _ _ _ _ _ _); (first | refine ev_step rfl ?_ | refine ev_undef rfl rfl rfl ?_); intro K hK) | ((with_reducible show EvOpen _ _ _ _ _ _ _); refine ev_open ?_; intro K hK) | ((with_reducible show SkOpen _ _ _ _ _ _ _); refine sk_open ?_; intro K hK) | ((with_reducible show callK _ _ _ _ _ _ _ _); first  | (refine call_scalar (hct) (Nat.le_of_ble_eq_true rfl) rfl ?_) | (refine call_scalar (hix) (Nat.le_of_ble_eq_true rfl) rfl ?_))); simp only [evOp, evQ, evB, capsK, binK, withS, opd, kput, putS, upd, lookup, argsK, bringIn, bring, Res.list, Res.slot, List.set_cons_zero, List.reverse_cons, List.reverse_nil, List.nil_append, List.cons_append, List.length_cons, List.length_nil, Nat.reduceEqDiff, Nat.reduceLT, Nat.zero_add, ↓reduceIte, eq_self, true_and, Bool.not_true, Bool.false_eq_true, false_implies, forall_const]) | refine ev_guard rfl rfl rfl ?_ ?_ | ((with_reducible show retQ _ _ _ _); simp only [retQ, retOk, getL, lookup, Option.map_some, fitsL, fits, ND, srcs, Res.list, VE, Nat.reduceEqDiff, ↓reduceIte, and_true]) | (with_reducible refine hK _ ?_; clear hK K) | (with_reducible refine And.intro ?_ ?_) | (with_reducible intro hc; try simp only [Bool.not_false, reduceCtorEq] at hc) | omega)
        all_goals first
          | (exfalso; omega)
          | trace_state

set_option maxHeartbeats 2000000 in
set_option maxRecDepth 20000 in
theorem specPlace_fn (L : List (List T3)) (l : List T3) (hl : L.length ≤ 1099511627776) (hr : ∀ i, i < L.length → (tsAt L i).length ≤ 1099511627776) (hll : l.length ≤ 1099511627776) : Fn Tryz.prog 11 [termss L, terms l] (.many [.pv (vi (plcR L l).1), .pv (vb (plcR L l).2)]) := by
  have hct := ctGood_fn L hl hr
  have hnp := specNormalPlane_fn l hll
  have hle := normR_le l
  refine Fn.of_body Tryz.call11 Tryz.func11 rfl Tryz.ntmps11 (ts := [4, 5]) rfl (by simp) rfl (fun N => ?_)
  cases hb : ctB L with
  | false =>
    rw [plcR_no1 hb]
    rw [hb] at hct
    cases hn : (normR l).2 <;> rw [hn] at hnp
    all_goals
      repeat' (first | (with_reducible first | refine then_normal ?_ | refine then_ret ?_ | refine then_exit ?_ | refine block_normal ?_ | refine block_ret ?_) | ((with_reducible show blockQ _ _ _ _); first | refine block_exit ?_ | refine block_exit_ne rfl ?_) | ((with_reducible show AWP _ _ _ _ _); first | (with_reducible first | refine AWP.seq ?_ | refine AWP.block ?_ | refine AWP.region ?_ | refine AWP.ret ?_ | refine AWP.exit ?_ | refine AWP.skip ?_) | refine AWP.drawn rfl (by kernel_rfl) ?_ | refine AWP.cond rfl ?_ ?_) | with_reducible refine ev_nil ?_ | ((first | ((with_reducible show evOps _ _ _ _ _ _); (first | refine ev_step rfl ?_ | refine ev_undef rfl rfl rfl ?_); intro K hK) | ((with_reducible show EvOpen _ _ _ _ _ _ _); refine ev_open ?_; intro K hK) | ((with_reducible show SkOpen _ _ _ _ _ _ _); refine sk_open ?_; intro K hK) | ((with_reducible show callK _ _ _ _ _ _ _ _); first  | (refine call_safe ( hnp) (Nat.le_of_ble_eq_true rfl) (by repeat' (first | exact trivial | refine ⟨fun _ _ => ⟨_, rfl⟩, ?_⟩)) ?_) | (refine call_scalar (hct) (Nat.le_of_ble_eq_true rfl) rfl ?_))); simp only [evOp, evQ, withS, opd, kput, putS, upd, lookup, skipOp, argsK, bringIn, bring, Res.list, Res.slot, slotsOf, bterms, List.getElem?_cons_zero, List.getElem?_cons_succ, List.reverse_cons, List.reverse_nil, List.nil_append, List.length_nil, Nat.reduceEqDiff, Nat.reduceLT, Nat.zero_add, ↓reduceIte, eq_self, true_and, and_true, Bool.not_false, Bool.true_eq_false, false_implies, forall_const]) | refine ev_guard rfl rfl rfl ?_ ?_ | ((with_reducible show retQ _ _ _ _); simp only [retQ, retOk, getL, lookup, Option.map_some, fitsL, fits, ND, srcs, Res.list, VE, Nat.reduceEqDiff, ↓reduceIte, and_true]) | (with_reducible refine hK _ ?_; clear hK K) | (with_reducible refine And.intro ?_ ?_) | (with_reducible intro hc; try simp only [Bool.not_false, Bool.true_eq_false] at hc) | omega)
      all_goals first
        | (exfalso; omega)
        | trace_state
  | true =>
    rw [hb] at hct
    cases hn : (normR l).2 with
    | false =>
      rw [plcR_no2 hn]
      rw [hn] at hnp
      repeat' (first | (with_reducible first | refine then_normal ?_ | refine then_ret ?_ | refine then_exit ?_ | refine block_normal ?_ | refine block_ret ?_) | ((with_reducible show blockQ _ _ _ _); first | refine block_exit ?_ | refine block_exit_ne rfl ?_) | ((with_reducible show AWP _ _ _ _ _); first | (with_reducible first | refine AWP.seq ?_ | refine AWP.block ?_ | refine AWP.region ?_ | refine AWP.ret ?_ | refine AWP.exit ?_ | refine AWP.skip ?_) | refine AWP.drawn rfl (by kernel_rfl) ?_ | refine AWP.cond rfl ?_ ?_) | with_reducible refine ev_nil ?_ | ((first | ((with_reducible show evOps _ _ _ _ _ _); (first | refine ev_step rfl ?_ | refine ev_undef rfl rfl rfl ?_); intro K hK) | ((with_reducible show EvOpen _ _ _ _ _ _ _); refine ev_open ?_; intro K hK) | ((with_reducible show SkOpen _ _ _ _ _ _ _); refine sk_open ?_; intro K hK) | ((with_reducible show callK _ _ _ _ _ _ _ _); first  | (refine call_safe ( hnp) (Nat.le_of_ble_eq_true rfl) (by repeat' (first | exact trivial | refine ⟨fun _ _ => ⟨_, rfl⟩, ?_⟩)) ?_) | (refine call_scalar (hct) (Nat.le_of_ble_eq_true rfl) rfl ?_))); simp only [evOp, evQ, withS, opd, kput, putS, upd, lookup, argsK, bringIn, bring, Res.list, Res.slot, slotsOf, bterms, List.getElem?_cons_zero, List.getElem?_cons_succ, List.reverse_cons, List.reverse_nil, List.nil_append, List.length_nil, Nat.reduceEqDiff, Nat.reduceLT, Nat.zero_add, ↓reduceIte, eq_self, true_and, Bool.not_true, Bool.not_false, Bool.false_eq_true, false_implies, forall_const]) | refine ev_guard rfl rfl rfl ?_ ?_ | ((with_reducible show retQ _ _ _ _); simp only [retQ, retOk, getL, lookup, Option.map_some, fitsL, fits, ND, srcs, Res.list, VE, Nat.reduceEqDiff, ↓reduceIte, and_true]) | (with_reducible refine hK _ ?_; clear hK K) | (with_reducible refine And.intro ?_ ?_) | (with_reducible intro hc; try simp only [Bool.not_false, reduceCtorEq, Bool.true_eq_false] at hc) | omega)
      all_goals first
        | (exfalso; omega)
        | trace_state
    | true =>
      rw [hn] at hnp
      rw [plcR_yes hb hn]
      obtain ⟨h10, hall⟩ := ctB_is hb
      repeat' (first | (with_reducible first | refine then_normal ?_ | refine then_ret ?_ | refine then_exit ?_ | refine block_normal ?_ | refine block_ret ?_) | ((with_reducible show blockQ _ _ _ _); first | refine block_exit ?_ | refine block_exit_ne rfl ?_) | ((with_reducible show AWP _ _ _ _ _); first | (with_reducible first | refine AWP.seq ?_ | refine AWP.block ?_ | refine AWP.region ?_ | refine AWP.ret ?_ | refine AWP.exit ?_ | refine AWP.skip ?_) | refine AWP.drawn rfl (by kernel_rfl) ?_ | refine AWP.cond rfl ?_ ?_) | with_reducible refine ev_nil ?_ | ((first | ((with_reducible show evOps _ _ _ _ _ _); (first | refine ev_step rfl ?_ | refine ev_undef rfl rfl rfl ?_); intro K hK) | ((with_reducible show EvOpen _ _ _ _ _ _ _); refine ev_open ?_; intro K hK) | ((with_reducible show SkOpen _ _ _ _ _ _ _); refine sk_open ?_; intro K hK) | ((with_reducible show callK _ _ _ _ _ _ _ _); first  | (refine call_safe ( hnp) (Nat.le_of_ble_eq_true rfl) (by repeat' (first | exact trivial | refine ⟨fun _ _ => ⟨_, rfl⟩, ?_⟩)) ?_) | (refine call_scalar (hct) (Nat.le_of_ble_eq_true rfl) rfl ?_))); simp only [evOp, evQ, evB, withS, opd, kput, putS, upd, lookup, argsK, bringIn, bring, Res.list, Res.slot, slotsOf, bterms, sz_termss, List.getElem?_cons_zero, List.getElem?_cons_succ, List.reverse_cons, List.reverse_nil, List.nil_append, List.length_nil, Nat.reduceEqDiff, Nat.reduceLT, Nat.zero_add, ↓reduceIte, eq_self, true_and, Bool.not_true, Bool.false_eq_true, false_implies, forall_const, Option.isSome_some]) | refine ev_guard rfl rfl rfl ?_ ?_ | ((with_reducible show retQ _ _ _ _); simp only [eq_self]) | (with_reducible refine hK _ ?_; clear hK K) | (with_reducible refine And.intro ?_ ?_) | (with_reducible intro hc; try simp only [Bool.not_false, reduceCtorEq] at hc) | omega)
      all_goals try (exfalso; omega; done)
      refine AWP.loop_ent (fun k : Nat => ⟨[(6, .one (.own 0 3 0 (normR l).1.length)), (22, .one (.pv (termss L))), (23, sc (.int .i64 L.length)), (24, sc (.int .i64 k))], [some ⟨55, (normR l).1.length * 3, fun i => vi (tf (normR l).1 i)⟩], 34⟩)
        (fun k => k ≤ L.length ∧ ∀ j, j < k → eqTL (tsAt L j) (normR l).1 = false) (fun k => L.length - k) 0 ⟨by omega, fun j hj => by omega⟩ (by simp [Ent, EntS, EntH, SlE, VE, VE.rfl', lookup, BE, bterms]) ?_
      rintro k ⟨hk, hall⟩
      by_cases hkl : k < L.length
      · have heq := ctSame_fn (normR l).1 (tsAt L k) (by omega) (hr k hkl)
        rw [eqTL_sym] at heq
        cases he : eqTL (tsAt L k) (normR l).1 with
        | true =>
          have e : plcN L l = k := firstN_at hall he hkl
          rw [he] at heq
          rw [e]
          repeat' (first | (with_reducible first | refine then_normal ?_ | refine then_ret ?_ | refine then_exit ?_ | refine block_normal ?_ | refine block_ret ?_) | ((with_reducible show blockQ _ _ _ _); first | refine block_exit ?_ | refine block_exit_ne rfl ?_) | ((with_reducible show AWP _ _ _ _ _); first | (with_reducible first | refine AWP.seq ?_ | refine AWP.block ?_ | refine AWP.region ?_ | refine AWP.ret ?_ | refine AWP.exit ?_ | refine AWP.skip ?_) | refine AWP.drawn rfl (by kernel_rfl) ?_ | refine AWP.cond rfl ?_ ?_) | with_reducible refine ev_nil ?_ | ((first | ((with_reducible show evOps _ _ _ _ _ _); (first | refine ev_step rfl ?_ | refine ev_undef rfl rfl rfl ?_); intro K hK) | ((with_reducible show EvOpen _ _ _ _ _ _ _); refine ev_open ?_; intro K hK) | ((with_reducible show SkOpen _ _ _ _ _ _ _); refine sk_open ?_; intro K hK) | ((with_reducible show callK _ _ _ _ _ _ _ _); first  | (refine call_scalar (heq) (Nat.le_of_ble_eq_true rfl) rfl ?_))); simp only [evOp, evQ, binK, withS, opd, kput, putS, upd, lookup, argsK, bringIn, bring, Res.list, Res.slot, sz_termss, c_terms, List.getElem?_cons_zero, List.reverse_cons, List.reverse_nil, List.nil_append, List.cons_append, Nat.reduceEqDiff, Nat.reduceLT, Nat.mul_one, Nat.add_zero, Nat.zero_add, ↓reduceIte, eq_self, true_and, Int.toNat_natCast]) | refine ev_guard rfl rfl rfl ?_ ?_ | ((with_reducible show retQ _ _ _ _); simp only [retQ, retOk, getL, lookup, Option.map_some, fitsL, fits, ND, srcs, Res.list, VE, Value.bool.injEq, Value.int.injEq, Nat.reduceEqDiff, ↓reduceIte, and_true, true_and]) | (with_reducible refine hK _ ?_; clear hK K) | (with_reducible refine And.intro ?_ ?_) | (with_reducible intro hc; try simp only [decide_eq_true_eq, decide_eq_false_iff_not, Int.not_lt, Bool.true_eq_false] at hc) | omega)
          all_goals first
            | (exfalso; omega)
            | omega
            | (simp; done)
            | (rw [Int.max_eq_right (by omega)]; done)
            | trace_state
        | false =>
          rw [he] at heq
          repeat' (first | (with_reducible first | refine then_normal ?_ | refine then_ret ?_ | refine then_exit ?_ | refine block_normal ?_ | refine block_ret ?_) | ((with_reducible show blockQ _ _ _ _); first | refine block_exit ?_ | refine block_exit_ne rfl ?_) | ((with_reducible show AWP _ _ _ _ _); first | (with_reducible first | refine AWP.seq ?_ | refine AWP.block ?_ | refine AWP.region ?_ | refine AWP.ret ?_ | refine AWP.exit ?_ | refine AWP.skip ?_) | refine AWP.drawn rfl (by kernel_rfl) ?_ | refine AWP.cond rfl ?_ ?_) | with_reducible refine ev_nil ?_ | ((first | ((with_reducible show evOps _ _ _ _ _ _); (first | refine ev_step rfl ?_ | refine ev_undef rfl rfl rfl ?_); intro K hK) | ((with_reducible show EvOpen _ _ _ _ _ _ _); refine ev_open ?_; intro K hK) | ((with_reducible show SkOpen _ _ _ _ _ _ _); refine sk_open ?_; intro K hK) | ((with_reducible show callK _ _ _ _ _ _ _ _); first  | (refine call_scalar (heq) (Nat.le_of_ble_eq_true rfl) rfl ?_))); simp only [evOp, evQ, binK, withS, opd, kput, putS, upd, lookup, argsK, bringIn, bring, Res.list, Res.slot, InK_i64, sz_termss, c_terms, List.getElem?_cons_zero, List.reverse_cons, List.reverse_nil, List.nil_append, List.cons_append, Nat.reduceEqDiff, Nat.reduceLT, Nat.mul_one, Nat.add_zero, Nat.zero_add, ↓reduceIte, eq_self, true_and, Int.toNat_natCast]) | refine ev_guard rfl rfl rfl ?_ ?_ | ((with_reducible show retQ _ _ _ _); simp only [retQ, retOk, getL, lookup, Option.map_some, fitsL, fits, ND, srcs, Res.list, VE, Value.bool.injEq, Value.int.injEq, Nat.reduceEqDiff, ↓reduceIte, and_true, true_and]) | (with_reducible refine hK _ ?_; clear hK K) | (with_reducible refine And.intro ?_ ?_) | (with_reducible intro hc; try simp only [decide_eq_true_eq, decide_eq_false_iff_not, Int.not_lt, reduceCtorEq] at hc) | omega)
          all_goals first
            | (exfalso; omega)
            | omega
            | exact ⟨k + 1, ⟨by omega, upto_succ hall he⟩, by omega, by simp [Ent, EntS, EntH, SlE, VE, VE.rfl', lookup, BE]⟩
            | trace_state
      · obtain rfl : k = L.length := by omega
        have e : plcN L l = -1 := firstN_none hall
        rw [e]
        repeat' (first | (with_reducible first | refine then_normal ?_ | refine then_ret ?_ | refine then_exit ?_ | refine block_normal ?_ | refine block_ret ?_) | ((with_reducible show blockQ _ _ _ _); first | refine block_exit ?_ | refine block_exit_ne rfl ?_) | ((with_reducible show AWP _ _ _ _ _); first | (with_reducible first | refine AWP.seq ?_ | refine AWP.block ?_ | refine AWP.region ?_ | refine AWP.ret ?_ | refine AWP.exit ?_ | refine AWP.skip ?_) | refine AWP.drawn rfl (by kernel_rfl) ?_ | refine AWP.cond rfl ?_ ?_) | with_reducible refine ev_nil ?_ | ((first | ((with_reducible show evOps _ _ _ _ _ _); (first | refine ev_step rfl ?_ | refine ev_undef rfl rfl rfl ?_); intro K hK) | ((with_reducible show EvOpen _ _ _ _ _ _ _); refine ev_open ?_; intro K hK) | ((with_reducible show SkOpen _ _ _ _ _ _ _); refine sk_open ?_; intro K hK) | ((with_reducible show callK _ _ _ _ _ _ _ _); first | fail)); simp only [evOp, evQ, binK, withS, opd, kput, putS, upd, lookup, argsK, sz_termss, c_terms, List.getElem?_cons_zero, List.reverse_cons, List.reverse_nil, List.nil_append, List.cons_append, Nat.reduceEqDiff, Nat.reduceLT, Nat.mul_one, Nat.add_zero, Nat.zero_add, ↓reduceIte, eq_self, true_and, Int.toNat_natCast]) | refine ev_guard rfl rfl rfl ?_ ?_ | ((with_reducible show retQ _ _ _ _); simp only [retQ, retOk, getL, lookup, Option.map_some, fitsL, fits, ND, srcs, Res.list, VE, Value.bool.injEq, Value.int.injEq, Nat.reduceEqDiff, ↓reduceIte, and_true, true_and]) | (with_reducible refine hK _ ?_; clear hK K) | (with_reducible refine And.intro ?_ ?_) | (with_reducible intro hc; try simp only [decide_eq_true_eq, decide_eq_false_iff_not, Int.not_lt] at hc) | omega)
        all_goals first
          | (exfalso; omega)
          | rfl
          | trace_state
end Go.Proofs.YteapdildbfimnaaGreatDoor
namespace Go.Proofs.YteapdildbfimnaaGreatDoor
set_option linter.unusedSimpArgs false
set_option linter.unusedVariables false
open Go.Proofs

/-- The exponents of a term, with a byte between them. -/
def itx (c : UInt8) (t : T3) : ByteArray := itoaB t.1 ++ ⟨#[c]⟩ ++ itoaB t.2.1 ++ ⟨#[59]⟩
def shK (c : UInt8) (l : List T3) : Nat → ByteArray
  | 0 => ⟨#[]⟩
  | k + 1 => shK c l k ++ itx c (tAt l k)
def shp (c : UInt8) (l : List T3) : ByteArray := shK c l l.length

theorem ofNat_ne {v : Nat} (h : v < 10) {c : UInt8} (hc : c = 44 ∨ c = 32) : UInt8.ofNat (48 + v) ≠ c := by
  rcases (show v = 0 ∨ v = 1 ∨ v = 2 ∨ v = 3 ∨ v = 4 ∨ v = 5 ∨ v = 6 ∨ v = 7 ∨ v = 8 ∨ v = 9 by omega) with rfl | rfl | rfl | rfl | rfl | rfl | rfl | rfl | rfl | rfl <;> rcases hc with rfl | rfl <;> decide
theorem dec_ne (u : Nat) {c : UInt8} (hc : c = 44 ∨ c = 32) : ∀ x ∈ Lib.decDigits u, x ≠ c := by
  induction u using Nat.strongRecOn with
  | _ u ih =>
    rw [Lib.decDigits]
    split
    · intro x hx
      rw [List.mem_singleton] at hx
      subst hx
      exact ofNat_ne (by omega) hc
    · intro x hx
      rw [List.mem_append, List.mem_singleton] at hx
      rcases hx with hx | rfl
      · exact ih (u / 10) (by omega) x hx
      · exact ofNat_ne (by omega) hc

/-- Each byte c turned into d. -/
def swB (c d : UInt8) (b : ByteArray) : ByteArray := ⟨((bytesOf b).map fun x => if x = c then d else x).toArray⟩
theorem swB_app (c d : UInt8) (a b : ByteArray) : swB c d (a ++ b) = swB c d a ++ swB c d b := by
  apply bx_ext
  rw [bx_app]
  unfold swB
  rw [bx_app, List.map_append]
  rfl
theorem swB_itoa {c d : UInt8} (hc : c = 44 ∨ c = 32) {n : Int} (h : 0 ≤ n) : swB c d (itoaB n) = itoaB n := by
  apply bx_ext
  rw [itoaB_nonneg h]
  show (Lib.decDigits n.toNat).map _ = Lib.decDigits n.toNat
  have := dec_ne n.toNat hc
  generalize Lib.decDigits n.toNat = l at *
  induction l with
  | nil => rfl
  | cons x l ih =>
    rw [List.map_cons, if_neg (this x (by simp)), ih fun y hy => this y (by simp [hy])]
theorem swB_itx {c d : UInt8} (hc : c = 44 ∨ c = 32) {t : T3} (h1 : 0 ≤ t.1) (h2 : 0 ≤ t.2.1) : swB c d (itx c t) = itx d t := by
  unfold itx
  rw [swB_app, swB_app, swB_app, swB_itoa hc h1, swB_itoa hc h2]
  have e1 : swB c d ⟨#[c]⟩ = ⟨#[d]⟩ := by
    apply bx_ext; show (if c = c then d else c) :: [] = [d]; rw [if_pos rfl]
  have e2 : swB c d ⟨#[59]⟩ = ⟨#[59]⟩ := by
    apply bx_ext; show (if (59 : UInt8) = c then d else 59) :: [] = [59]; rw [if_neg (by rcases hc with rfl | rfl <;> decide)]
  rw [e1, e2]
theorem swB_shK {c d : UInt8} (hc : c = 44 ∨ c = 32) {l : List T3} (h : Sml l) : ∀ k, k ≤ l.length → swB c d (shK c l k) = shK d l k
  | 0, _ => rfl
  | k + 1, hk => by
    show swB c d (shK c l k ++ itx c (tAt l k)) = shK d l k ++ itx d (tAt l k)
    rw [swB_app, swB_shK hc h k (by omega), swB_itx hc (h k (by omega)).1 (h k (by omega)).2.2.1]
theorem shp_sw {c d : UInt8} (hc : c = 44 ∨ c = 32) {l : List T3} (h : Sml l) : swB c d (shp c l) = shp d l := swB_shK hc h _ (Nat.le_refl _)
/-- Both texts tell the same shapes apart. -/
theorem shp_iff {l m : List T3} (hl : Sml l) (hm : Sml m) : shp 44 l = shp 44 m ↔ shp 32 l = shp 32 m := by
  constructor
  · intro h; rw [← shp_sw (c := 44) (.inl rfl) hl, ← shp_sw (c := 44) (.inl rfl) hm, h]
  · intro h; rw [← shp_sw (c := 32) (.inr rfl) hl, ← shp_sw (c := 32) (.inr rfl) hm, h]
theorem itx_size {c : UInt8} {t : T3} (h : 0 ≤ t.1 ∧ t.1 ≤ 1000000 ∧ 0 ≤ t.2.1 ∧ t.2.1 ≤ 1000000) : (itx c t).size ≤ 4000000 := by
  unfold itx
  simp only [ByteArray.size_append]
  have h1 := itoaB_size t.1
  have h2 := itoaB_size t.2.1
  have e1 : (⟨#[c]⟩ : ByteArray).size = 1 := rfl
  have e2 : (⟨#[59]⟩ : ByteArray).size = 1 := rfl
  omega
theorem shK_size {c : UInt8} {l : List T3} (h : Sml l) : ∀ k, k ≤ l.length → (shK c l k).size ≤ 4000000 * k
  | 0, _ => by show 0 ≤ _; omega
  | k + 1, hk => by
    show (shK c l k ++ itx c (tAt l k)).size ≤ _
    rw [ByteArray.size_append]
    have h1 := shK_size (c := c) h k (by omega)
    have h2 := h k (by omega)
    have := itx_size (c := c) (t := tAt l k) ⟨h2.1, h2.2.1, h2.2.2.1, h2.2.2.2.1⟩
    omega

def hasB (x : ByteArray) : List ByteArray → Bool
  | [] => false
  | y :: l => if y = x then true else hasB x l
theorem hasB_iff (x : ByteArray) : ∀ l : List ByteArray, hasB x l = true ↔ x ∈ l
  | [] => ⟨fun h => (nomatch h), fun h => (nomatch h)⟩
  | y :: l => by
    show (if y = x then true else hasB x l) = true ↔ _
    split
    · rename_i h; exact ⟨fun _ => by rw [h]; exact List.mem_cons_self, fun _ => rfl⟩
    · rename_i h
      rw [hasB_iff x l, List.mem_cons]
      exact ⟨.inr, fun h2 => h2.resolve_left fun h3 => h h3.symm⟩
/-- The texts met so far, each once. -/
def metL (f : Nat → ByteArray) : Nat → List ByteArray
  | 0 => []
  | k + 1 => if hasB (f k) (metL f k) = true then metL f k else metL f k ++ [f k]
theorem metL_le (f : Nat → ByteArray) : ∀ k, (metL f k).length ≤ k
  | 0 => Nat.le_refl _
  | k + 1 => by
    show (if hasB (f k) (metL f k) = true then metL f k else metL f k ++ [f k]).length ≤ _
    have := metL_le f k
    split
    · omega
    · rw [List.length_append, List.length_singleton]; omega
theorem metL_mem (f : Nat → ByteArray) : ∀ k x, x ∈ metL f k ↔ ∃ i, i < k ∧ x = f i
  | 0, x => ⟨fun h => (nomatch h), fun ⟨i, hi, _⟩ => by omega⟩
  | k + 1, x => by
    show x ∈ (if hasB (f k) (metL f k) = true then metL f k else metL f k ++ [f k]) ↔ _
    have ih := metL_mem f k
    split
    · rename_i h
      rw [ih x]
      constructor
      · rintro ⟨i, hi, e⟩; exact ⟨i, by omega, e⟩
      · rintro ⟨i, hi, e⟩
        by_cases e2 : i = k
        · subst e2; exact (ih x).1 (by rw [e]; exact (hasB_iff _ _).1 h)
        · exact ⟨i, by omega, e⟩
    · rw [List.mem_append, ih x, List.mem_singleton]
      constructor
      · rintro (⟨i, hi, e⟩ | e)
        · exact ⟨i, by omega, e⟩
        · exact ⟨k, by omega, e⟩
      · rintro ⟨i, hi, e⟩
        by_cases e2 : i = k
        · subst e2; exact .inr e
        · exact .inl ⟨i, by omega, e⟩
theorem metL_same {f g : Nat → ByteArray} {n : Nat} (h : ∀ i j, i < n → j < n → (f i = f j ↔ g i = g j)) : ∀ k, k ≤ n → (metL f k).length = (metL g k).length
  | 0, _ => rfl
  | k + 1, hk => by
    have ih := metL_same h k (by omega)
    have e : hasB (f k) (metL f k) = true ↔ hasB (g k) (metL g k) = true := by
      rw [hasB_iff, hasB_iff, metL_mem, metL_mem]
      constructor
      · rintro ⟨i, hi, e⟩; exact ⟨i, hi, (h k i (by omega) (by omega)).1 e⟩
      · rintro ⟨i, hi, e⟩; exact ⟨i, hi, (h k i (by omega) (by omega)).2 e⟩
    show (if hasB (f k) (metL f k) = true then metL f k else metL f k ++ [f k]).length = (if hasB (g k) (metL g k) = true then metL g k else metL g k ++ [g k]).length
    by_cases h2 : hasB (f k) (metL f k) = true
    · rw [if_pos h2, if_pos (e.1 h2), ih]
    · rw [if_neg h2, if_neg (fun h => h2 (e.2 h)), List.length_append, List.length_append, ih]; rfl

/-- What ShapesIn returns. -/
def shpN (L : List (List T3)) : Nat := (metL (fun i => shp 44 (tsAt L i)) L.length).length
def shpR (L : List (List T3)) : Int × Bool := if ctB L then (((shpN L : Nat) : Int), true) else (0, false)
theorem shp_no {L : List (List T3)} (h : ctB L = false) : shpR L = (0, false) := by unfold shpR; rw [h]; rfl
theorem shp_yes {L : List (List T3)} (h : ctB L = true) : shpR L = (((shpN L : Nat) : Int), true) := by unfold shpR; rw [h]; rfl
theorem shp_32 {L : List (List T3)} (h : ctB L = true) : shpN L = (metL (fun i => shp 32 (tsAt L i)) L.length).length := by
  obtain ⟨h10, hall⟩ := ctB_is h
  exact metL_same (n := L.length) (fun i j hi hj => shp_iff (ctk_sml (hall i hi)).1 (ctk_sml (hall j hj)).1) _ (Nat.le_refl _)
end Go.Proofs.YteapdildbfimnaaGreatDoor
namespace Go.Proofs.YteapdildbfimnaaGreatDoor
set_option linter.unusedSimpArgs false
set_option linter.unusedVariables false
open Go.RowKit Go.ChangeMaps

/-! ### A map's block turned -/
/-- w' differs from w in block b, a map. -/
structure MapB (b : Nat) (w w' : World) : Prop where
  os : w'.os = w.os
  tape : w'.tape = w.tape
  output : w'.output = w.output
  size : w'.heap.size = w.heap.size
  oth : ∀ j, j ≠ b → w'.heap[j]? = w.heap[j]?
  was : ∃ es c, w.heap[b]? = some (.map es c)
theorem MapB.cells {b : Nat} {w w' : World} (h : MapB b w w') {j : Nat} {cur : Array Value} {e : TypeId} {q : Nat × Nat} (hc : w.heap[j]? = some (.cells cur e q)) : w'.heap[j]? = some (.cells cur e q) := by
  have hne : j ≠ b := by
    rintro rfl
    obtain ⟨es, c, hb⟩ := h.was
    rw [hb] at hc; cases hc
  rw [h.oth _ hne]; exact hc
theorem MapB.cell {b : Nat} {w w' : World} (h : MapB b w w') {a : Addr} {x : Value} (hc : w.cell? a = some x) : w'.cell? a = some x := by
  have hne : a.block ≠ b := by
    intro e
    obtain ⟨es, c, hb⟩ := h.was
    unfold World.cell? at hc
    rw [e, hb] at hc; cases hc
  rw [World.cell?_of_block (w := w) (h.oth _ hne)]; exact hc
theorem MapB.wr {b : Nat} {w w' : World} (h : MapB b w w') {j : Nat} (hw : Wr w j) : Wr w' j := by
  obtain ⟨cur, e, hc⟩ := hw
  exact ⟨cur, e, h.cells hc⟩
theorem Rd.mapped {b : Nat} {w w' : World} (h : MapB b w w') : ∀ {S : Nat → Prop} (v : V) (u : Value), Rd w S v u → Rd w' S v u
  | S, .val _, _, h' => h'
  | S, .seq sz n f, u, h' => by
    obtain ⟨A, c, rfl, hc, h'⟩ := h'
    refine ⟨A, c, rfl, hc, fun hp => ?_⟩
    obtain ⟨g, off, rfl, hS, h'⟩ := h' hp
    refine ⟨g, off, rfl, hS, fun i hi => ?_⟩
    obtain ⟨x, hx, hr⟩ := h' i hi
    exact ⟨x, h.cell hx, Rd.mapped h (f i) x hr⟩
  | S, .agg n f, u, h' => by
    obtain ⟨cs, rfl, hn, h'⟩ := h'
    refine ⟨cs, rfl, hn, fun i hi => ?_⟩
    obtain ⟨x, hx, hr⟩ := h' i hi
    exact ⟨x, hx, Rd.mapped h (f i) x hr⟩
  | S, .pin n f, u, h' => by
    obtain ⟨g, off, rfl, h'⟩ := h'
    refine ⟨g, off, rfl, fun i hi => ?_⟩
    obtain ⟨hS, x, hx, hr⟩ := h' i hi
    exact ⟨hS, x, h.cell hx, Rd.mapped h (f i) x hr⟩
  | S, .clo g n f, u, h' => by
    obtain ⟨cs, rfl, hn, h'⟩ := h'
    refine ⟨cs, rfl, hn, fun i hi => ?_⟩
    obtain ⟨x, hx, hr⟩ := h' i hi
    exact ⟨x, hx, Rd.mapped h (f i) x hr⟩
  | S, .old Z v, u, h' => ⟨fun j hj => ⟨(h'.1 j hj).1, by rw [h.size]; exact (h'.1 j hj).2⟩, Rd.mapped h v u h'.2⟩
  | S, .row u0 Z sz n f, u, h' => by
    obtain ⟨e, hz, A, c, hu, hc, h'⟩ := h'
    refine ⟨e, fun j hj => ⟨(hz j hj).1, h.wr (hz j hj).2⟩, A, c, hu, hc, fun hp => ?_⟩
    obtain ⟨g, off, hA, hZ, h'⟩ := h' hp
    refine ⟨g, off, hA, hZ, fun i hi => ?_⟩
    obtain ⟨x, hx, hr⟩ := h' i hi
    exact ⟨x, h.cell hx, Rd.mapped h (f i) x hr⟩
  | S, .grow u0 Z e sz n f, u, h' => by
    obtain ⟨hu, hz, h'⟩ := h'
    refine ⟨hu, fun j hj => ⟨(hz j hj).1, h.wr (hz j hj).2⟩, ?_⟩
    rcases h' with h' | ⟨g, c, cur, h1, h2, h3, h4, h5, h6, h7⟩
    · exact .inl h'
    · refine .inr ⟨g, c, cur, h1, h2, h3, h4, h.cells h5, h6, fun i hi => ?_⟩
      obtain ⟨x, hx, hr⟩ := h7 i hi
      exact ⟨x, hx, Rd.mapped h (f i) x hr⟩
  | S, .cur g k Z c, u, h' => by
    obtain ⟨hu, hb, hz, cur, cv, p, q, e, hc, h3, hp, hq, hr⟩ := h'
    exact ⟨hu, hb, fun j hj => ⟨(hz j hj).1, by rw [h.size]; exact (hz j hj).2.1, (hz j hj).2.2⟩, cur, cv, p, q, e, h.cells hc, h3, hp, hq, Rd.mapped h c cv hr⟩

/-- What the slots hold behind a store into map b. -/
def swSV (b : Nat) (L : List (Value × Value)) : SV → SV
  | .mp b0 L0 => if b0 = b then .mp b0 L else .mp b0 L0
  | v => v
def swSM (b : Nat) (L : List (Value × Value)) : Slot → Slot
  | .one v => .one (swSV b L v)
  | .many vs => .many (vs.map (swSV b L))
def swM (b : Nat) (L : List (Value × Value)) : List (Nat × Slot) → List (Nat × Slot)
  | [] => []
  | (t, v) :: r => (t, swSM b L v) :: swM b L r
theorem swM_get {b : Nat} {L : List (Value × Value)} {t : Nat} {v : Slot} : ∀ {σ : List (Nat × Slot)}, lookup (swM b L σ) t = some v → ∃ v0, lookup σ t = some v0 ∧ v = swSM b L v0
  | [], h => by cases h
  | (i, x) :: r, h => by
    simp only [swM, lookup] at h ⊢
    by_cases e : i = t
    · rw [if_pos e] at h ⊢; injection h with h; exact ⟨x, rfl, h.symm⟩
    · rw [if_neg e] at h ⊢; exact swM_get h

section
variable {P : Program} {N : Nat} {w0 : World} {S0 : Nat → Prop} {s : ASt} {φ : List (Option (Nat × Nat))} {a : Act} {w : World}

theorem RdS.mapped {b : Nat} {w' : World} {L : List (Value × Value)} {S : Nat → Prop} (h : MapB b w w') {es : Array MapEntry} {c : Nat} (hm : w'.heap[b]? = some (.map es c)) (hL : es.toList.map kvOf = L) : ∀ (v : SV) (u : Value), RdS w S φ v u → RdS w' S φ (swSV b L v) u
  | .pv v, u, h' => Rd.mapped h v u h'
  | .own id sz off len, u, h' => h'
  | .ptr id off, u, h' => h'
  | .pin n f, u, h' => by
    obtain ⟨g, off, rfl, h'⟩ := h'
    refine ⟨g, off, rfl, fun i hi => ?_⟩
    obtain ⟨hS, x, hx, hr⟩ := h' i hi
    exact ⟨hS, x, h.cell hx, Rd.mapped h (f i) x hr⟩
  | .mp b0 L0, u, h' => by
    obtain ⟨h1, h2, es0, c0, h3, h4⟩ := h'
    show RdS w' S φ (if b0 = b then .mp b0 L else .mp b0 L0) u
    by_cases e : b0 = b
    · subst e; rw [if_pos rfl]; exact ⟨h1, h2, es, c, hm, hL⟩
    · rw [if_neg e]; exact ⟨h1, h2, es0, c0, by rw [h.oth _ e]; exact h3, h4⟩
theorem RdSs.mapped {b : Nat} {w' : World} {L : List (Value × Value)} {S : Nat → Prop} (h : MapB b w w') {es : Array MapEntry} {c : Nat} (hm : w'.heap[b]? = some (.map es c)) (hL : es.toList.map kvOf = L) : ∀ (vs : List SV) (us : List Value), RdSs w S φ vs us → RdSs w' S φ (vs.map (swSV b L)) us
  | [], [], _ => trivial
  | [], _ :: _, h' => h'.elim
  | _ :: _, [], h' => h'.elim
  | v :: vs, u :: us, h' => ⟨RdS.mapped h hm hL v u h'.1, RdSs.mapped h hm hL vs us h'.2⟩

theorem SimAt.mapped (sim : SimAt w0 S0 s φ a w) {b : Nat} (hb : w0.heap.size ≤ b) {w' : World} (h : MapB b w w') {es : Array MapEntry} {c : Nat} {L : List (Value × Value)} (hm : w'.heap[b]? = some (.map es c)) (hL : es.toList.map kvOf = L) : SimAt w0 S0 ⟨swM b L s.σ, s.h, s.nt⟩ φ a w' := by
  refine ⟨⟨sim.heap.len, ⟨?_, ?_, ?_, ?_, fun j hj => ?_⟩, fun id blk hi => ?_, sim.heap.inj⟩, fun t v ht => ?_, sim.defers, sim.size⟩
  · rw [h.os, sim.heap.below.os]
  · rw [h.tape, sim.heap.below.tape]
  · rw [h.output, sim.heap.below.output]
  · rw [h.size]; exact sim.heap.below.size
  · rw [h.oth j (by omega)]; exact sim.heap.below.block j hj
  · rcases sim.heap.blk id blk hi with h1 | ⟨g, cu, h1, h2, h4, h5, h6⟩
    · exact .inl h1
    · refine .inr ⟨g, cu, h1, h2, h.cells h4, h5, fun i hi' => ?_⟩
      obtain ⟨x, hx, hrx⟩ := h6 i hi'
      exact ⟨x, hx, Rd.mapped h _ _ hrx⟩
  · obtain ⟨v0, h1, rfl⟩ := swM_get ht
    obtain ⟨x, hx, hrx⟩ := sim.slots t v0 h1
    refine ⟨x, hx, ?_⟩
    cases v0 with
    | one v0 => exact RdS.mapped h hm hL v0 x hrx
    | many vs =>
      obtain ⟨us, rfl, hrx⟩ := hrx
      exact ⟨us, rfl, RdSs.mapped h hm hL vs us hrx⟩

/-! ### The operations -/
theorem ax_makeMap [Cx] {K : ASt → Prop} {t : TypeId} {d ty : Nat} {pos : String} {after : Array Edge} (hd : Nat.ble (d + 1) s.nt = true) (h : ∀ b, N ≤ b → K (putS s d (.one (.mp b [])))) : Ax N P K ⟨some d, .makeMap t none, ty, pos, after, none⟩ s := by
  refine ⟨rfl, fun w0 S0 φ a w hN sim next Q hnx => ?_⟩
  have hsz := sim.heap.below.size
  have hr : (execOp a.eval ⟨some d, .makeMap t none, ty, pos, after, none⟩).run P w = .ok (.value (.map (some w.heap.size))) (w.alloc (.map #[] 0)) := rfl
  unfold Oper.wp
  rw [hr, Oper.upon_value]
  have sim' := sim.after (below_alloc w (.map #[] 0))
  refine hnx _ _ _ (h w.heap.size (by omega)) ⟨w0, Reb.refl _, φ, sim'.put (d := d) (Nat.le_of_ble_eq_true hd) (v := .one (.mp w.heap.size [])) ⟨rfl, ⟨.inr (by omega), ?_⟩, #[], 0, heap_alloc_new w _, rfl⟩⟩
  rintro ⟨id, blk, z, h1, h2⟩
  rcases sim.heap.blk id blk h1 with ⟨h3, _⟩ | ⟨g, cu, h3, h4, h5, _⟩
  · rw [h3] at h2; cases h2
  · rw [h3] at h2
    injection h2 with h2; injection h2 with h2; injection h2 with h2 _
    have := block_lt h5
    omega

theorem ax_mapUpdate [Cx] {K : ASt → Prop} {t kt e : TypeId} {κ : Type} [DecidableEq κ] {enc : κ → Value} {m x y : Operand} {ty : Nat} {pos : String} {after : Array Edge} {b : Nat} {l : List (κ × Value)} {kv : V} {v : Value} (k : κ)
    (hm : opd s m = some (.one (.mp b (encA enc l)))) (hx : opd s x = some (.one (.pv kv))) (hkv : IsV kv (enc k)) (hy : opd s y = some (sc v)) (hk : KeyT P kt enc) (ht : P.underlying t = some (.map kt e)) (hb : N ≤ b)
    (h : K ⟨swM b (encA enc (putA l k v)) s.σ, s.h, s.nt⟩) : Ax N P K ⟨none, .mapUpdate t m x y, ty, pos, after, none⟩ s := by
  refine ⟨rfl, fun w0 S0 φ a w hN sim next Q hnx => ?_⟩
  obtain ⟨h1, h2, es, c, h3, h4⟩ := sim.opd hm
  have hkx : a.eval x = enc k := hkv _ _ _ (sim.opd hx)
  have hvy : a.eval y = v := val_of sim hy
  have hkeys : es.toList.map (·.key) = (l.map (·.1)).map enc := by
    have := congrArg (List.map Prod.fst) h4
    simpa [encA, kvOf, List.map_map, Function.comp_def] using this
  have hf := hk.find k es.toList (l.map (·.1)) w hkeys
  obtain ⟨es', c', hr, hes⟩ : ∃ es' c', (execOp a.eval ⟨none, .mapUpdate t m x y, ty, pos, after, none⟩).run P w = .ok .skip (setBlock w b (.map es' c')) ∧ es'.toList.map kvOf = encA enc (putA l k v) := by
    rcases findP_is (enc := enc) k l es.toList 0 h4 with ⟨g1, g2, g3⟩ | ⟨j, e', g1, g2, g3, g4, g5⟩
    · refine ⟨es.push { key := enc k, val := v, born := c }, c + 1, ?_, by rw [Array.toList_push]; exact g3 v c⟩
      rw [g1] at hf
      simp [execOp, h1, hkx, hvy, Instr.mapUpdate, Sem.run_bind, run_underlying ht, MapKept.run_getObj_map h3, hk.chk, hf, MapKept.run_setObj_map _ h3, Result.andThen, setBlock]
    · refine ⟨es.modify j fun e => { e with key := enc k, val := v }, c, ?_, by rw [Array.toList_modify]; exact g5 v⟩
      rw [g1, Nat.zero_add] at hf
      have hj : es[j]? = some e' := by simpa using g2
      have hstay : (Instr.keyThatStays (enc k) (enc k)).run P w = .ok (enc k) w := by unfold Instr.keyThatStays; rw [if_pos (hk.bits k)]; rfl
      simp [execOp, h1, hkx, hvy, Instr.mapUpdate, Sem.run_bind, run_underlying ht, MapKept.run_getObj_map h3, hk.chk, hf, hj, g3, hstay, MapKept.run_setObj_map _ h3, Result.andThen, setBlock]
  unfold Oper.wp
  rw [hr, Oper.upon_skip]
  have hB : MapB b w (setBlock w b (.map es' c')) := ⟨rfl, rfl, rfl, by simp [setBlock], fun j hj => heap_setBlock_other h3 _ hj, es, c, h3⟩
  exact hnx _ _ _ h ⟨w0, Reb.refl _, φ, sim.mapped (by omega) hB (heap_setBlock_same h3 _) hes⟩

theorem ax_lenMap [Cx] {K : ASt → Prop} {t kt e : TypeId} {m : Operand} {d ty : Nat} {pos : String} {after : Array Edge} {b : Nat} {L : List (Value × Value)}
    (hm : opd s m = some (.one (.mp b L))) (ht : P.underlying t = some (.map kt e)) (hd : Nat.ble (d + 1) s.nt = true)
    (h : K (putS s d (sc (.int .i64 L.length)))) : Ax N P K ⟨some d, .call ⟨.builtin .len, #[m], #[t]⟩, ty, pos, after, none⟩ s := by
  refine ⟨rfl, fun w0 S0 φ a w hN sim next Q hnx => ?_⟩
  obtain ⟨h1, h2, es, c, h3, h4⟩ := sim.opd hm
  have hl : es.size = L.length := by rw [← h4]; simp
  have hr : (execOp a.eval ⟨some d, .call ⟨.builtin .len, #[m], #[t]⟩, ty, pos, after, none⟩).run P w = .ok (.value (.int .i64 L.length)) w := by
    have h0 : (Builtin.len_ #[t] ty #[.map (some b)]).run P w = .ok (.int .i64 L.length) w := by
      simp [Builtin.len_, Sem.run_bind, run_underlying ht, MapKept.run_getObj_map h3, Result.andThen, hl, goInt]
    rw [← h1] at h0
    unfold execOp
    simp only [resolve, invoke, builtin, Sem.run_bind, Sem.run_pure, Result.andThen_ok, List.map_toArray, List.map_cons, List.map_nil, h0]
  unfold Oper.wp
  rw [hr, Oper.upon_value]
  exact hnx _ _ _ h ⟨w0, Reb.refl _, φ, sim.put (d := d) (Nat.le_of_ble_eq_true hd) (v := sc _) rfl⟩
end
end Go.Proofs.YteapdildbfimnaaGreatDoor
namespace Go.Proofs.YteapdildbfimnaaGreatDoor
open Go.RowKit Go.Proofs
set_option linter.unusedSimpArgs false
set_option linter.unusedVariables false
theorem z_pt : zeroOf Tryz.prog 76 = some [.int .i64 0, .int .i64 0] := by kernel_rfl
theorem pl_pt : placesOf Tryz.prog 76 = some [(0, 1), (1, 1)] := by kernel_rfl
theorem c_pt : cellsIn Tryz.prog 76 = some (some 2) := by kernel_rfl
theorem fq0 : fieldIn Tryz.prog 76 0 = some (0, none) := by kernel_rfl
theorem fq1 : fieldIn Tryz.prog 76 1 = some (1, none) := by kernel_rfl
theorem sz_pts : elemSz Tryz.prog 62 = some 2 := by kernel_rfl
theorem ei_pts : elemInfo Tryz.prog 62 = some (76, [.int .i64 0, .int .i64 0]) := by kernel_rfl
theorem ea_pts : elemAgg Tryz.prog 62 = some true := by kernel_rfl
theorem swSM_pv (b : Nat) (L : List (Value × Value)) (v : V) : swSM b L (.one (.pv v)) = .one (.pv v) := rfl
theorem swSM_own (b : Nat) (L : List (Value × Value)) (i sz off n : Nat) : swSM b L (.one (.own i sz off n)) = .one (.own i sz off n) := rfl
theorem swSM_pin (b : Nat) (L : List (Value × Value)) (n : Nat) (f : Nat → V) : swSM b L (.one (.pin n f)) = .one (.pin n f) := rfl
theorem swSM_mp (b : Nat) (L L0 : List (Value × Value)) : swSM b L (.one (.mp b L0)) = .one (.mp b L) := by
  show Slot.one (if b = b then _ else _) = _
  rw [if_pos rfl]
theorem u_mstr : Tryz.prog.underlying 60 = some (.map 9 4) := by kernel_rfl
def ptF (l : List T3) (j : Nat) : V := vi (if j % 2 = 0 then (tAt l (j / 2)).1 else (tAt l (j / 2)).2.1)
theorem ptF_0 (l : List T3) (k : Nat) : ptF l (k * 2) = vi (tAt l k).1 := by unfold ptF; rw [if_pos (by omega), show k * 2 / 2 = k by omega]
theorem ptF_1 (l : List T3) (k : Nat) : ptF l (k * 2 + 1) = vi (tAt l k).2.1 := by unfold ptF; rw [if_neg (by omega), show (k * 2 + 1) / 2 = k by omega]
def bpts (l : List T3) (n : Nat) : Blk := ⟨76, n * 2, ptF l⟩

theorem pts_be {l : List T3} {k n : Nat} {f : Nat → V} (hn : k * 2 + 2 ≤ n) (h : ∀ i, i < k * 2 → f i = ptF l i) (h0 : f (k * 2) = vi (tAt l k).1) (h1 : f (k * 2 + 1) = vi (tAt l k).2.1) : BE ⟨76, n, f⟩ (bpts l (k + 1)) := by
  refine ⟨rfl, by show (k + 1) * 2 ≤ n; omega, fun i hi => VE.of_eq ?_⟩
  have hi : i < (k + 1) * 2 := hi
  show f i = ptF l i
  by_cases e : i < k * 2
  · exact h i e
  · rcases (show i = k * 2 ∨ i = k * 2 + 1 by omega) with rfl | rfl
    · rw [h0, ptF_0]
    · rw [h1, ptF_1]

theorem safe_pts (l : List T3) : Safe (Res.one (.fr 2 l.length (bpts l l.length))).list := ⟨fun i _ => ⟨_, rfl⟩, trivial⟩

set_option maxHeartbeats 1000000 in
theorem pointsOf_fn (l : List T3) (hl : l.length ≤ 1099511627776) : Fn Tryz.prog 37 [terms l] (.one (.fr 2 l.length (bpts l l.length))) := by
  refine Fn.of_body Tryz.call37 Tryz.func37 rfl Tryz.ntmps37 (ts := [2]) rfl (by simp) rfl (fun N => ?_)
  repeat' (first | (with_reducible first | refine then_normal ?_ | refine then_ret ?_ | refine then_exit ?_ | refine block_normal ?_ | refine block_ret ?_) | ((with_reducible show blockQ _ _ _ _); first | refine block_exit ?_ | refine block_exit_ne rfl ?_) | ((with_reducible show AWP _ _ _ _ _); first | (with_reducible first | refine AWP.seq ?_ | refine AWP.block ?_ | refine AWP.region ?_ | refine AWP.ret ?_ | refine AWP.exit ?_ | refine AWP.skip ?_) | refine AWP.drawn rfl (by kernel_rfl) ?_ | refine AWP.cond rfl ?_ ?_) | with_reducible refine ev_nil ?_ | ((first | ((with_reducible show evOps _ _ _ _ _ _); (first | refine ev_step rfl ?_ | refine ev_undef rfl rfl rfl ?_); intro K hK) | ((with_reducible show EvOpen _ _ _ _ _ _ _); refine ev_open ?_; intro K hK) | ((with_reducible show SkOpen _ _ _ _ _ _ _); refine sk_open ?_; intro K hK) | ((with_reducible show callK _ _ _ _ _ _ _ _); first | fail)); simp only [evOp, evQ, evB, withS, opd, kput, putS, upd, lookup, slotsOf, newBlk, partsK, buildSliceK, sz_terms, Nat.zero_le, ei_pts, ea_pts, List.nil_append, List.length_cons, List.length_nil, Nat.reduceEqDiff, Nat.reduceAdd, Nat.reduceLT, Nat.reduceLeDiff, Nat.zero_mul, Nat.zero_add, ↓reduceIte, eq_self, true_and, Option.isSome_some]) | refine ev_guard rfl rfl rfl ?_ ?_ | ((with_reducible show retQ _ _ _ _); simp only [eq_self]) | (with_reducible refine hK _ ?_; clear hK K) | (with_reducible refine And.intro ?_ ?_) | (with_reducible intro hc; try simp only [eq_self] at hc) | omega)
  refine AWP.loop_entR [0] (fun k : Nat => ⟨[(3, .one (.own 0 2 0 k)), (7, .one (.pv (terms l))), (8, sc (.int .i64 l.length)), (9, sc (.int .i64 k))], [some (bpts l k)], 23⟩)
    (fun k => k ≤ l.length) (fun k => l.length - k) 0 (by omega) ?_ ?_
  · exact ⟨rfl, by decide, ⟨⟨rfl, rfl, rfl, rfl⟩, VE.rfl' _, rfl, rfl, trivial⟩, ⟨rfl, Nat.le_refl _, fun i hi => by have hi : i < 0 * 2 := hi; omega⟩, trivial⟩
  intro k hk
  by_cases hkl : k < l.length
  · repeat' (first | (with_reducible first | refine then_normal ?_ | refine then_ret ?_ | refine then_exit ?_ | refine block_normal ?_ | refine block_ret ?_) | ((with_reducible show blockQ _ _ _ _); first | refine block_exit ?_ | refine block_exit_ne rfl ?_) | ((with_reducible show AWP _ _ _ _ _); first | (with_reducible first | refine AWP.seq ?_ | refine AWP.block ?_ | refine AWP.region ?_ | refine AWP.ret ?_ | refine AWP.exit ?_ | refine AWP.skip ?_) | refine AWP.drawn rfl (by kernel_rfl) ?_ | refine AWP.cond rfl ?_ ?_) | with_reducible refine ev_nil ?_ | ((first | ((with_reducible show evOps _ _ _ _ _ _); (first | refine ev_step rfl ?_ | refine ev_undef rfl rfl rfl ?_); intro K hK) | ((with_reducible show EvOpen _ _ _ _ _ _ _); refine ev_open ?_; intro K hK) | ((with_reducible show SkOpen _ _ _ _ _ _ _); refine sk_open ?_; intro K hK) | ((with_reducible show callK _ _ _ _ _ _ _ _); first | fail)); simp only [evOp, evQ, binK, withS, opd, kput, putS, upd, lookup, loadOwn, InK_i64, appendK, srcK, growK, storeK, frz, storeV, setBlk, newBlk, allocK, buildK, partsK, buildSliceK, plSlice, V.one, Value.oneCell', List.set_cons_zero, List.set_cons_succ, c_int, sz_terms, c_term, fi0, fi1, z_term, tf_0, tf_1, Nat.zero_le, z_pt, pl_pt, fq0, fq1, ei_pts, ea_pts, bpts, List.getElem?_cons_zero, List.getElem?_cons_succ, List.nil_append, List.cons_append, List.length_cons, List.length_nil, Nat.reduceEqDiff, Nat.reduceAdd, Nat.reduceLT, Nat.reduceLeDiff, Nat.one_mul, Nat.zero_mul, Nat.add_zero, Nat.zero_add, Nat.sub_zero, ↓reduceIte, eq_self, true_and, forall_const, implies_true, Int.toNat_natCast, Option.isSome_some]) | refine ev_guard rfl rfl rfl ?_ ?_ | ((with_reducible show retQ _ _ _ _); simp only [retQ, retOk, getL, lookup, Option.map_some, fitsL, fits, ND, srcs, Res.list, List.getElem?_cons_zero, Nat.reduceEqDiff, ↓reduceIte, and_true, true_and]) | (with_reducible refine hK _ ?_; clear hK K) | (with_reducible refine And.intro ?_ ?_) | (with_reducible intro hc; try simp only [decide_eq_true_eq, decide_eq_false_iff_not, Int.not_lt] at hc) | omega)
    all_goals first
      | (exfalso; omega)
      | omega
      | (refine ⟨k + 1, by omega, by omega, [3], rfl, by decide, ⟨⟨rfl, rfl, rfl, rfl⟩, VE.rfl' _, rfl, rfl, trivial⟩, pts_be (by omega) (fun i hi => if_pos hi) (by rw [if_neg (Nat.lt_irrefl _), Nat.sub_self]; rfl) (by rw [if_neg (by omega), show k * 2 + 1 - k * 2 = 1 by omega]; rfl), trivial⟩)
      | (unfold ptF; rfl)
      | (rename_i i hi; rcases (show i = 0 ∨ i = 1 by omega) with rfl | rfl <;> rfl)
      | (rename_i i; rcases (show i = 0 ∨ i = 1 by omega) with rfl | rfl <;> rfl)
      | trace_state
  · obtain rfl : k = l.length := by omega
    repeat' (first | (with_reducible first | refine then_normal ?_ | refine then_ret ?_ | refine then_exit ?_ | refine block_normal ?_ | refine block_ret ?_) | ((with_reducible show blockQ _ _ _ _); first | refine block_exit ?_ | refine block_exit_ne rfl ?_) | ((with_reducible show AWP _ _ _ _ _); first | (with_reducible first | refine AWP.seq ?_ | refine AWP.block ?_ | refine AWP.region ?_ | refine AWP.ret ?_ | refine AWP.exit ?_ | refine AWP.skip ?_) | refine AWP.drawn rfl (by kernel_rfl) ?_ | refine AWP.cond rfl ?_ ?_) | with_reducible refine ev_nil ?_ | ((first | ((with_reducible show evOps _ _ _ _ _ _); (first | refine ev_step rfl ?_ | refine ev_undef rfl rfl rfl ?_); intro K hK) | ((with_reducible show EvOpen _ _ _ _ _ _ _); refine ev_open ?_; intro K hK) | ((with_reducible show SkOpen _ _ _ _ _ _ _); refine sk_open ?_; intro K hK) | ((with_reducible show callK _ _ _ _ _ _ _ _); first | fail)); simp only [evOp, evQ, binK, withS, opd, kput, putS, upd, lookup, loadOwn, InK_i64, appendK, srcK, growK, storeK, frz, storeV, setBlk, newBlk, allocK, buildK, partsK, buildSliceK, plSlice, V.one, Value.oneCell', List.set_cons_zero, List.set_cons_succ, c_int, sz_terms, c_term, fi0, fi1, z_term, tf_0, tf_1, Nat.zero_le, z_pt, pl_pt, fq0, fq1, ei_pts, ea_pts, bpts, List.getElem?_cons_zero, List.getElem?_cons_succ, List.nil_append, List.cons_append, List.length_cons, List.length_nil, Nat.reduceEqDiff, Nat.reduceAdd, Nat.reduceLT, Nat.reduceLeDiff, Nat.one_mul, Nat.zero_mul, Nat.add_zero, Nat.zero_add, Nat.sub_zero, ↓reduceIte, eq_self, true_and, forall_const, implies_true, Int.toNat_natCast, Option.isSome_some]) | refine ev_guard rfl rfl rfl ?_ ?_ | ((with_reducible show retQ _ _ _ _); simp only [retQ, retOk, getL, lookup, Option.map_some, fitsL, fits, ND, srcs, Res.list, List.getElem?_cons_zero, Nat.reduceEqDiff, ↓reduceIte, and_true, true_and]) | (with_reducible refine hK _ ?_; clear hK K) | (with_reducible refine And.intro ?_ ?_) | (with_reducible intro hc; try simp only [decide_eq_true_eq, decide_eq_false_iff_not, Int.not_lt] at hc) | omega)
    all_goals first
      | (exfalso; omega)
      | exact ⟨_, rfl, BE.rfl' _⟩
      | simp
      | trace_state

theorem polygonText_fn (l : List T3) (hs : Sml l) (hl : l.length ≤ 1099511627776) : Fn Tryz.prog 36 [.seq 2 l.length (ptF l)] (.one (.pv (vs (shp 44 l)))) := by
  refine Fn.of_body Tryz.call36 Tryz.func36 rfl Tryz.ntmps36 (ts := [2]) rfl (by simp) rfl (fun N => ?_)
  repeat' (first | (with_reducible first | refine then_normal ?_ | refine then_ret ?_ | refine then_exit ?_ | refine block_normal ?_ | refine block_ret ?_) | ((with_reducible show blockQ _ _ _ _); first | refine block_exit ?_ | refine block_exit_ne rfl ?_) | ((with_reducible show AWP _ _ _ _ _); first | (with_reducible first | refine AWP.seq ?_ | refine AWP.block ?_ | refine AWP.region ?_ | refine AWP.ret ?_ | refine AWP.exit ?_ | refine AWP.skip ?_) | refine AWP.drawn rfl (by kernel_rfl) ?_ | refine AWP.cond rfl ?_ ?_) | with_reducible refine ev_nil ?_ | ((first | ((with_reducible show evOps _ _ _ _ _ _); (first | refine ev_step rfl ?_ | refine ev_undef rfl rfl rfl ?_); intro K hK) | ((with_reducible show EvOpen _ _ _ _ _ _ _); refine ev_open ?_; intro K hK) | ((with_reducible show SkOpen _ _ _ _ _ _ _); refine sk_open ?_; intro K hK) | ((with_reducible show callK _ _ _ _ _ _ _ _); first | fail)); simp only [evOp, evQ, evB, withS, opd, kput, putS, upd, lookup, slotsOf, sz_pts, Nat.reduceEqDiff, Nat.reduceLT, ↓reduceIte, eq_self, true_and, Option.isSome_some]) | refine ev_guard rfl rfl rfl ?_ ?_ | ((with_reducible show retQ _ _ _ _); simp only [eq_self]) | (with_reducible refine hK _ ?_; clear hK K) | (with_reducible refine And.intro ?_ ?_) | (with_reducible intro hc; try simp only [eq_self] at hc) | omega)
  refine AWP.loop_entR [] (fun k : Nat => ⟨[(3, .one (.pv (vs (shK 44 l k)))), (6, .one (.pv (.seq 2 l.length (ptF l)))), (7, sc (.int .i64 l.length)), (8, sc (.int .i64 k))], [], 25⟩)
    (fun k => k ≤ l.length) (fun k => l.length - k) 0 (by omega) (by simp [EntR, EntSR, EntHR, SlR, VE, VE.rfl', lookup, BE, shK, upd, sc]) ?_
  intro k hk
  by_cases hkl : k < l.length
  · have h1 := hs k hkl
    have h2 := shK_size (c := 44) hs k hk
    have h3 := itx_size (c := 44) (t := tAt l k) ⟨h1.1, h1.2.1, h1.2.2.1, h1.2.2.2.1⟩
    have e : shK 44 l (k + 1) = shK 44 l k ++ itx 44 (tAt l k) := rfl
    unfold itx at h3 e
    simp only [ByteArray.size_append] at h3
    have e2 : (⟨#[44]⟩ : ByteArray).size = 1 := rfl
    have e3 : (⟨#[59]⟩ : ByteArray).size = 1 := rfl
    repeat' (first | (with_reducible first | refine then_normal ?_ | refine then_ret ?_ | refine then_exit ?_ | refine block_normal ?_ | refine block_ret ?_) | ((with_reducible show blockQ _ _ _ _); first | refine block_exit ?_ | refine block_exit_ne rfl ?_) | ((with_reducible show AWP _ _ _ _ _); first | (with_reducible first | refine AWP.seq ?_ | refine AWP.block ?_ | refine AWP.region ?_ | refine AWP.ret ?_ | refine AWP.exit ?_ | refine AWP.skip ?_) | refine AWP.drawn rfl (by kernel_rfl) ?_ | refine AWP.cond rfl ?_ ?_) | with_reducible refine ev_nil ?_ | ((first | ((with_reducible show evOps _ _ _ _ _ _); (first | refine ev_step rfl ?_ | refine ev_undef rfl rfl rfl ?_); intro K hK) | ((with_reducible show EvOpen _ _ _ _ _ _ _); refine ev_open ?_; intro K hK) | ((with_reducible show SkOpen _ _ _ _ _ _ _); refine sk_open ?_; intro K hK) | ((with_reducible show callK _ _ _ _ _ _ _ _); first  | (refine call_scalar (itoa_fn (tAt l k).1 (by omega)) (Nat.le_of_ble_eq_true rfl) rfl ?_) | (refine call_scalar (itoa_fn (tAt l k).2.1 (by omega)) (Nat.le_of_ble_eq_true rfl) rfl ?_))); simp only [evOp, evQ, binK, withS, opd, kput, putS, upd, lookup, argsK, loadOwn, bringIn, bring, Res.list, Res.slot, InK_i64, storeK, frz, storeV, setBlk, newBlk, allocK, List.set_cons_zero, c_int, Nat.zero_le, z_pt, c_pt, fq0, fq1, sz_pts, ptF_0, ptF_1, List.getElem?_cons_zero, List.reverse_cons, List.reverse_nil, List.nil_append, List.length_cons, List.length_nil, Nat.reduceEqDiff, Nat.reduceAdd, Nat.reduceLT, Nat.reduceLeDiff, Nat.add_zero, Nat.zero_add, Nat.sub_zero, ↓reduceIte, eq_self, true_and, Int.toNat_natCast]) | refine ev_guard rfl rfl rfl ?_ ?_ | ((with_reducible show retQ _ _ _ _); simp only [retQ, retOk, getL, lookup, Option.map_some, fitsL, fits, ND, srcs, Res.list, VE, Nat.reduceEqDiff, ↓reduceIte, and_true]) | (with_reducible refine hK _ ?_; clear hK K) | (with_reducible refine And.intro ?_ ?_) | (with_reducible intro hc; try simp only [decide_eq_true_eq, decide_eq_false_iff_not, Int.not_lt] at hc) | omega)
    all_goals first
      | (exfalso; omega)
      | omega
      | (simp only [ByteArray.size_append, e2, e3]; omega)
      | (unfold ptF; rfl)
      | (exact ⟨k + 1, by omega, by omega, [], rfl, by decide, by simp [EntSR, SlR, VE, lookup, sc, VE.rfl', e], trivial⟩)
      | trace_state
  · obtain rfl : k = l.length := by omega
    repeat' (first | (with_reducible first | refine then_normal ?_ | refine then_ret ?_ | refine then_exit ?_ | refine block_normal ?_ | refine block_ret ?_) | ((with_reducible show blockQ _ _ _ _); first | refine block_exit ?_ | refine block_exit_ne rfl ?_) | ((with_reducible show AWP _ _ _ _ _); first | (with_reducible first | refine AWP.seq ?_ | refine AWP.block ?_ | refine AWP.region ?_ | refine AWP.ret ?_ | refine AWP.exit ?_ | refine AWP.skip ?_) | refine AWP.drawn rfl (by kernel_rfl) ?_ | refine AWP.cond rfl ?_ ?_) | with_reducible refine ev_nil ?_ | ((first | ((with_reducible show evOps _ _ _ _ _ _); (first | refine ev_step rfl ?_ | refine ev_undef rfl rfl rfl ?_); intro K hK) | ((with_reducible show EvOpen _ _ _ _ _ _ _); refine ev_open ?_; intro K hK) | ((with_reducible show SkOpen _ _ _ _ _ _ _); refine sk_open ?_; intro K hK) | ((with_reducible show callK _ _ _ _ _ _ _ _); first | fail)); simp only [evOp, evQ, binK, withS, opd, kput, putS, upd, lookup, argsK, loadOwn, storeK, frz, storeV, setBlk, newBlk, allocK, List.set_cons_zero, c_int, Nat.zero_le, z_pt, c_pt, fq0, sz_pts, ptF_0, List.getElem?_cons_zero, List.reverse_cons, List.reverse_nil, List.nil_append, List.length_cons, List.length_nil, Nat.reduceEqDiff, Nat.reduceAdd, Nat.reduceLT, Nat.reduceLeDiff, Nat.add_zero, Nat.zero_add, Nat.sub_zero, ↓reduceIte, eq_self, true_and, Int.toNat_natCast]) | refine ev_guard rfl rfl rfl ?_ ?_ | ((with_reducible show retQ _ _ _ _); simp only [retQ, retOk, getL, lookup, Option.map_some, fitsL, fits, ND, srcs, Res.list, VE, Nat.reduceEqDiff, ↓reduceIte, and_true]) | (with_reducible refine hK _ ?_; clear hK K) | (with_reducible refine And.intro ?_ ?_) | (with_reducible intro hc; try simp only [decide_eq_true_eq, decide_eq_false_iff_not, Int.not_lt] at hc) | omega)
    all_goals first
      | (exfalso; omega)
      | rfl
      | trace_state

theorem ctShape_fn (l : List T3) (hs : Sml l) (hl : l.length ≤ 1099511627776) : Fn Tryz.prog 39 [terms l] (.one (.pv (vs (shp 32 l)))) := by
  refine Fn.of_body Tryz.call39 Tryz.func39 rfl Tryz.ntmps39 (ts := [2]) rfl (by simp) rfl (fun N => ?_)
  repeat' (first | (with_reducible first | refine then_normal ?_ | refine then_ret ?_ | refine then_exit ?_ | refine block_normal ?_ | refine block_ret ?_) | ((with_reducible show blockQ _ _ _ _); first | refine block_exit ?_ | refine block_exit_ne rfl ?_) | ((with_reducible show AWP _ _ _ _ _); first | (with_reducible first | refine AWP.seq ?_ | refine AWP.block ?_ | refine AWP.region ?_ | refine AWP.ret ?_ | refine AWP.exit ?_ | refine AWP.skip ?_) | refine AWP.drawn rfl (by kernel_rfl) ?_ | refine AWP.cond rfl ?_ ?_) | with_reducible refine ev_nil ?_ | ((first | ((with_reducible show evOps _ _ _ _ _ _); (first | refine ev_step rfl ?_ | refine ev_undef rfl rfl rfl ?_); intro K hK) | ((with_reducible show EvOpen _ _ _ _ _ _ _); refine ev_open ?_; intro K hK) | ((with_reducible show SkOpen _ _ _ _ _ _ _); refine sk_open ?_; intro K hK) | ((with_reducible show callK _ _ _ _ _ _ _ _); first | fail)); simp only [evOp, evQ, evB, withS, opd, kput, putS, upd, lookup, slotsOf, sz_terms, Nat.reduceEqDiff, Nat.reduceLT, ↓reduceIte, eq_self, true_and, Option.isSome_some]) | refine ev_guard rfl rfl rfl ?_ ?_ | ((with_reducible show retQ _ _ _ _); simp only [eq_self]) | (with_reducible refine hK _ ?_; clear hK K) | (with_reducible refine And.intro ?_ ?_) | (with_reducible intro hc; try simp only [eq_self] at hc) | omega)
  refine AWP.loop_entR [] (fun k : Nat => ⟨[(3, .one (.pv (vs (shK 32 l k)))), (6, .one (.pv (terms l))), (7, sc (.int .i64 l.length)), (8, sc (.int .i64 k))], [], 25⟩)
    (fun k => k ≤ l.length) (fun k => l.length - k) 0 (by omega) (by simp [EntR, EntSR, EntHR, SlR, VE, VE.rfl', lookup, BE, shK, upd, sc]) ?_
  intro k hk
  by_cases hkl : k < l.length
  · have h1 := hs k hkl
    have h2 := shK_size (c := 32) hs k hk
    have h3 := itx_size (c := 32) (t := tAt l k) ⟨h1.1, h1.2.1, h1.2.2.1, h1.2.2.2.1⟩
    have e : shK 32 l (k + 1) = shK 32 l k ++ itx 32 (tAt l k) := rfl
    unfold itx at h3 e
    simp only [ByteArray.size_append] at h3
    have e2 : (⟨#[32]⟩ : ByteArray).size = 1 := rfl
    have e3 : (⟨#[59]⟩ : ByteArray).size = 1 := rfl
    repeat' (first | (with_reducible first | refine then_normal ?_ | refine then_ret ?_ | refine then_exit ?_ | refine block_normal ?_ | refine block_ret ?_) | ((with_reducible show blockQ _ _ _ _); first | refine block_exit ?_ | refine block_exit_ne rfl ?_) | ((with_reducible show AWP _ _ _ _ _); first | (with_reducible first | refine AWP.seq ?_ | refine AWP.block ?_ | refine AWP.region ?_ | refine AWP.ret ?_ | refine AWP.exit ?_ | refine AWP.skip ?_) | refine AWP.drawn rfl (by kernel_rfl) ?_ | refine AWP.cond rfl ?_ ?_) | with_reducible refine ev_nil ?_ | ((first | ((with_reducible show evOps _ _ _ _ _ _); (first | refine ev_step rfl ?_ | refine ev_undef rfl rfl rfl ?_); intro K hK) | ((with_reducible show EvOpen _ _ _ _ _ _ _); refine ev_open ?_; intro K hK) | ((with_reducible show SkOpen _ _ _ _ _ _ _); refine sk_open ?_; intro K hK) | ((with_reducible show callK _ _ _ _ _ _ _ _); first  | (refine call_scalar (l1NumI_fn (tAt l k).1 (by omega)) (Nat.le_of_ble_eq_true rfl) rfl ?_) | (refine call_scalar (l1NumI_fn (tAt l k).2.1 (by omega)) (Nat.le_of_ble_eq_true rfl) rfl ?_))); simp only [evOp, evQ, binK, withS, opd, kput, putS, upd, lookup, argsK, loadOwn, bringIn, bring, Res.list, Res.slot, InK_i64, storeK, frz, storeV, setBlk, newBlk, allocK, V.one, Value.oneCell', List.set_cons_zero, c_int, sz_terms, c_term, fi0, fi1, z_term, tf_0, tf_1, Nat.zero_le, List.getElem?_cons_zero, List.reverse_cons, List.reverse_nil, List.nil_append, List.length_cons, List.length_nil, Nat.reduceEqDiff, Nat.reduceAdd, Nat.reduceLT, Nat.reduceLeDiff, Nat.add_zero, Nat.zero_add, Nat.sub_zero, ↓reduceIte, eq_self, true_and, forall_const, implies_true, Int.toNat_natCast]) | refine ev_guard rfl rfl rfl ?_ ?_ | ((with_reducible show retQ _ _ _ _); simp only [retQ, retOk, getL, lookup, Option.map_some, fitsL, fits, ND, srcs, Res.list, VE, Nat.reduceEqDiff, ↓reduceIte, and_true]) | (with_reducible refine hK _ ?_; clear hK K) | (with_reducible refine And.intro ?_ ?_) | (with_reducible intro hc; try simp only [decide_eq_true_eq, decide_eq_false_iff_not, Int.not_lt] at hc) | omega)
    all_goals first
      | (exfalso; omega)
      | omega
      | (simp only [ByteArray.size_append, e2, e3]; omega)
      | (exact ⟨k + 1, by omega, by omega, [], rfl, by decide, by simp [EntSR, SlR, VE, lookup, sc, VE.rfl', e], trivial⟩)
      | trace_state
  · obtain rfl : k = l.length := by omega
    repeat' (first | (with_reducible first | refine then_normal ?_ | refine then_ret ?_ | refine then_exit ?_ | refine block_normal ?_ | refine block_ret ?_) | ((with_reducible show blockQ _ _ _ _); first | refine block_exit ?_ | refine block_exit_ne rfl ?_) | ((with_reducible show AWP _ _ _ _ _); first | (with_reducible first | refine AWP.seq ?_ | refine AWP.block ?_ | refine AWP.region ?_ | refine AWP.ret ?_ | refine AWP.exit ?_ | refine AWP.skip ?_) | refine AWP.drawn rfl (by kernel_rfl) ?_ | refine AWP.cond rfl ?_ ?_) | with_reducible refine ev_nil ?_ | ((first | ((with_reducible show evOps _ _ _ _ _ _); (first | refine ev_step rfl ?_ | refine ev_undef rfl rfl rfl ?_); intro K hK) | ((with_reducible show EvOpen _ _ _ _ _ _ _); refine ev_open ?_; intro K hK) | ((with_reducible show SkOpen _ _ _ _ _ _ _); refine sk_open ?_; intro K hK) | ((with_reducible show callK _ _ _ _ _ _ _ _); first | fail)); simp only [evOp, evQ, binK, withS, opd, kput, putS, upd, lookup, argsK, loadOwn, storeK, frz, storeV, setBlk, newBlk, allocK, V.one, Value.oneCell', List.set_cons_zero, c_int, sz_terms, c_term, fi0, z_term, tf_0, Nat.zero_le, List.getElem?_cons_zero, List.reverse_cons, List.reverse_nil, List.nil_append, List.length_cons, List.length_nil, Nat.reduceEqDiff, Nat.reduceAdd, Nat.reduceLT, Nat.reduceLeDiff, Nat.add_zero, Nat.zero_add, Nat.sub_zero, ↓reduceIte, eq_self, true_and, forall_const, implies_true, Int.toNat_natCast]) | refine ev_guard rfl rfl rfl ?_ ?_ | ((with_reducible show retQ _ _ _ _); simp only [retQ, retOk, getL, lookup, Option.map_some, fitsL, fits, ND, srcs, Res.list, VE, Nat.reduceEqDiff, ↓reduceIte, and_true]) | (with_reducible refine hK _ ?_; clear hK K) | (with_reducible refine And.intro ?_ ?_) | (with_reducible intro hc; try simp only [decide_eq_true_eq, decide_eq_false_iff_not, Int.not_lt] at hc) | omega)
    all_goals first
      | (exfalso; omega)
      | rfl
      | trace_state

theorem l1HasS_fn (l : List ByteArray) (x : ByteArray) (hl : l.length ≤ 1099511627776) : Fn Tryz.prog 38 [strs l, vs x] (.one (.pv (vb (hasB x l)))) := by
  have hin : ∀ k, k < l.length → stAt l k ∈ l := fun k hk => by unfold stAt; simp [List.getD, hk]
  have hno : (∀ j, j < l.length → stAt l j ≠ x) → hasB x l = false := fun h => by
    cases e : hasB x l with
    | false => rfl
    | true =>
      obtain ⟨j, hj, e2⟩ := List.mem_iff_getElem.1 ((hasB_iff x l).1 e)
      exact absurd (by unfold stAt; simp [List.getD, hj, e2]) (h j hj)
  refine Fn.of_body Tryz.call38 Tryz.func38 rfl Tryz.ntmps38 (ts := [4]) rfl (by simp) rfl (fun N => ?_)
  repeat' (first | (with_reducible first | refine then_normal ?_ | refine then_ret ?_ | refine then_exit ?_ | refine block_normal ?_ | refine block_ret ?_) | ((with_reducible show blockQ _ _ _ _); first | refine block_exit ?_ | refine block_exit_ne rfl ?_) | ((with_reducible show AWP _ _ _ _ _); first | (with_reducible first | refine AWP.seq ?_ | refine AWP.block ?_ | refine AWP.region ?_ | refine AWP.ret ?_ | refine AWP.exit ?_ | refine AWP.skip ?_) | refine AWP.drawn rfl (by kernel_rfl) ?_ | refine AWP.cond rfl ?_ ?_) | with_reducible refine ev_nil ?_ | ((first | ((with_reducible show evOps _ _ _ _ _ _); (first | refine ev_step rfl ?_ | refine ev_undef rfl rfl rfl ?_); intro K hK) | ((with_reducible show EvOpen _ _ _ _ _ _ _); refine ev_open ?_; intro K hK) | ((with_reducible show SkOpen _ _ _ _ _ _ _); refine sk_open ?_; intro K hK) | ((with_reducible show callK _ _ _ _ _ _ _ _); first | fail)); simp only [evOp, evQ, evB, withS, opd, kput, putS, upd, lookup, slotsOf, sz_strs, Nat.reduceEqDiff, Nat.reduceLT, Nat.zero_add, ↓reduceIte, eq_self, true_and, Option.isSome_some]) | refine ev_guard rfl rfl rfl ?_ ?_ | ((with_reducible show retQ _ _ _ _); simp only [eq_self]) | (with_reducible refine hK _ ?_; clear hK K) | (with_reducible refine And.intro ?_ ?_) | (with_reducible intro hc; try simp only [eq_self] at hc) | omega)
  refine AWP.loop_ent (fun k : Nat => ⟨[(1, .one (.pv (vs x))), (7, .one (.pv (strs l))), (8, sc (.int .i64 l.length)), (9, sc (.int .i64 k))], [], 17⟩)
    (fun k => k ≤ l.length ∧ ∀ j, j < k → stAt l j ≠ x) (fun k => l.length - k) 0 ⟨by omega, by simp⟩ (by (simp [Ent, EntS, EntH, SlE, VE, lookup, BE])) ?_
  rintro k ⟨hk, hall⟩
  by_cases hkl : k < l.length
  · repeat' (first | (with_reducible first | refine then_normal ?_ | refine then_ret ?_ | refine then_exit ?_ | refine block_normal ?_ | refine block_ret ?_) | ((with_reducible show blockQ _ _ _ _); first | refine block_exit ?_ | refine block_exit_ne rfl ?_) | ((with_reducible show AWP _ _ _ _ _); first | (with_reducible first | refine AWP.seq ?_ | refine AWP.block ?_ | refine AWP.region ?_ | refine AWP.ret ?_ | refine AWP.exit ?_ | refine AWP.skip ?_) | refine AWP.drawn rfl (by kernel_rfl) ?_ | refine AWP.cond rfl ?_ ?_) | with_reducible refine ev_nil ?_ | ((first | ((with_reducible show evOps _ _ _ _ _ _); (first | refine ev_step rfl ?_ | refine ev_undef rfl rfl rfl ?_); intro K hK) | ((with_reducible show EvOpen _ _ _ _ _ _ _); refine ev_open ?_; intro K hK) | ((with_reducible show SkOpen _ _ _ _ _ _ _); refine sk_open ?_; intro K hK) | ((with_reducible show callK _ _ _ _ _ _ _ _); first | fail)); simp only [evOp, evQ, binK, withS, opd, kput, putS, upd, lookup, InK_i64, sz_strs, c_string, Nat.reduceEqDiff, Nat.reduceLT, Nat.mul_one, Nat.add_zero, ↓reduceIte, eq_self, true_and, Int.toNat_natCast]) | refine ev_guard rfl rfl rfl ?_ ?_ | ((with_reducible show retQ _ _ _ _); simp only [retQ, retOk, getL, lookup, Option.map_some, fitsL, fits, ND, srcs, Res.list, VE, Value.bool.injEq, Nat.reduceEqDiff, ↓reduceIte, and_true]) | (with_reducible refine hK _ ?_; clear hK K) | (with_reducible refine And.intro ?_ ?_) | (with_reducible intro hc; try simp only [decide_eq_true_eq, decide_eq_false_iff_not, beq_iff_eq, beq_eq_false_iff_ne, Int.not_lt, ne_eq] at hc) | omega)
    all_goals first
      | (exfalso; omega)
      | (have e := bx_ext ‹bytesOf (stAt l k) = bytesOf x›
         rw [(hasB_iff x l).2 (by rw [← e]; exact hin k hkl)]; done)
      | (have e : stAt l k ≠ x := fun h => ‹¬ bytesOf (stAt l k) = bytesOf x› (by rw [h])
         exact ⟨k + 1, ⟨by omega, fun j hj => if hjk : j = k then by rw [hjk]; exact e else hall j (by omega)⟩, by omega, by (simp [Ent, EntS, EntH, SlE, VE, lookup, BE])⟩)
      | trace_state
  · obtain rfl : k = l.length := by omega
    rw [hno hall]
    repeat' (first | (with_reducible first | refine then_normal ?_ | refine then_ret ?_ | refine then_exit ?_ | refine block_normal ?_ | refine block_ret ?_) | ((with_reducible show blockQ _ _ _ _); first | refine block_exit ?_ | refine block_exit_ne rfl ?_) | ((with_reducible show AWP _ _ _ _ _); first | (with_reducible first | refine AWP.seq ?_ | refine AWP.block ?_ | refine AWP.region ?_ | refine AWP.ret ?_ | refine AWP.exit ?_ | refine AWP.skip ?_) | refine AWP.drawn rfl (by kernel_rfl) ?_ | refine AWP.cond rfl ?_ ?_) | with_reducible refine ev_nil ?_ | ((first | ((with_reducible show evOps _ _ _ _ _ _); (first | refine ev_step rfl ?_ | refine ev_undef rfl rfl rfl ?_); intro K hK) | ((with_reducible show EvOpen _ _ _ _ _ _ _); refine ev_open ?_; intro K hK) | ((with_reducible show SkOpen _ _ _ _ _ _ _); refine sk_open ?_; intro K hK) | ((with_reducible show callK _ _ _ _ _ _ _ _); first | fail)); simp only [evOp, evQ, binK, withS, opd, kput, putS, upd, lookup, InK_i64, sz_strs, c_string, Nat.reduceEqDiff, Nat.reduceLT, Nat.mul_one, Nat.add_zero, ↓reduceIte, eq_self, true_and, Int.toNat_natCast]) | refine ev_guard rfl rfl rfl ?_ ?_ | ((with_reducible show retQ _ _ _ _); simp only [retQ, retOk, getL, lookup, Option.map_some, fitsL, fits, ND, srcs, Res.list, VE, Value.bool.injEq, Nat.reduceEqDiff, ↓reduceIte, and_true]) | (with_reducible refine hK _ ?_; clear hK K) | (with_reducible refine And.intro ?_ ?_) | (with_reducible intro hc; try simp only [decide_eq_true_eq, decide_eq_false_iff_not, beq_iff_eq, beq_eq_false_iff_ne, Int.not_lt, ne_eq] at hc) | omega)
    all_goals first
      | (exfalso; omega)
      | rfl
      | trace_state

/-- Maps with texts as keys. -/
theorem now_str (k : ByteArray) : ∀ (es : List MapEntry) (ks : List ByteArray) (i : Nat), es.map (·.key) = ks.map Value.string → Instr.findNow .string (.string k) es i = some (findP k ks es i)
  | [], ks, i, h => by cases ks <;> rfl
  | e :: es, [], i, h => by simp at h
  | e :: es, p :: ks, i, h => by
    simp only [List.map_cons, List.cons.injEq] at h
    unfold Instr.findNow
    rw [h.1]
    show (match some (k == p) with | some true => _ | some false => _ | none => _) = some (if p = k then _ else _)
    by_cases e : p = k
    · rw [if_pos e, (MapKept.bytes_beq k p).2 e.symm]
    · rw [if_neg e]
      have : (k == p) = false := by
        cases h2 : k == p with
        | false => rfl
        | true => exact absurd ((MapKept.bytes_beq k p).1 h2).symm e
      rw [this]
      exact now_str k es ks (i + 1) h.2
theorem key_str : KeyT Tryz.prog 9 Value.string where
  find k es ks w h := MapKept.run_findKey u_string (now_str k es ks 0 h)
  chk b k w := by kernel_rfl
  bits k := by simp [Instr.sameBits, (MapKept.bytes_beq k k).2 rfl]

def sM (S : List ByteArray) : List (ByteArray × Value) := S.map fun q => (q, Value.bool true)
theorem putA_in {q : ByteArray} : ∀ {S : List ByteArray}, hasB q S = true → putA (sM S) q (.bool true) = sM S
  | [], h => (nomatch h)
  | y :: S, h => by
    show (if y = q then _ else _) = _
    have h : (if y = q then true else hasB q S) = true := h
    by_cases e : y = q
    · rw [if_pos e, e]; rfl
    · rw [if_neg e] at h ⊢
      exact congrArg _ (putA_in h)
theorem putA_out {q : ByteArray} : ∀ {S : List ByteArray}, hasB q S = false → putA (sM S) q (.bool true) = sM (S ++ [q])
  | [], h => rfl
  | y :: S, h => by
    have h : (if y = q then true else hasB q S) = false := h
    show (if y = q then _ else _) = _
    by_cases e : y = q
    · rw [if_pos e] at h; cases h
    · rw [if_neg e] at h ⊢
      exact congrArg _ (putA_out h)
theorem putA_met (f : Nat → ByteArray) (k : Nat) : putA (sM (metL f k)) (f k) (.bool true) = sM (metL f (k + 1)) := by
  show _ = sM (if hasB (f k) (metL f k) = true then metL f k else metL f k ++ [f k])
  cases h : hasB (f k) (metL f k) with
  | true => rw [putA_in h]; rfl
  | false => rw [putA_out h]; rfl

set_option maxHeartbeats 1000000 in
theorem implShapesIn_fn (L : List (List T3)) (hl : L.length ≤ 1099511627776) (hr : ∀ i, i < L.length → (tsAt L i).length ≤ 1099511627776) : Fn Tryz.prog 16 [termss L] (.many [.pv (vi (shpR L).1), .pv (vb (shpR L).2)]) := by
  have hct := isCatalogue_fn L hl hr
  refine Fn.of_body Tryz.call16 Tryz.func16 rfl Tryz.ntmps16 (ts := [2, 3]) rfl (by simp) rfl (fun N => ?_)
  cases hb : ctB L with
  | false =>
    rw [hb] at hct
    rw [shp_no hb]
    repeat' (first | (with_reducible first | refine then_normal ?_ | refine then_ret ?_ | refine then_exit ?_ | refine block_normal ?_ | refine block_ret ?_) | ((with_reducible show blockQ _ _ _ _); first | refine block_exit ?_ | refine block_exit_ne rfl ?_) | ((with_reducible show AWP _ _ _ _ _); first | (with_reducible first | refine AWP.seq ?_ | refine AWP.block ?_ | refine AWP.region ?_ | refine AWP.ret ?_ | refine AWP.exit ?_ | refine AWP.skip ?_) | refine AWP.drawn rfl (by kernel_rfl) ?_ | refine AWP.cond rfl ?_ ?_) | with_reducible refine ev_nil ?_ | ((first | ((with_reducible show evOps _ _ _ _ _ _); (first | refine ev_step rfl ?_ | refine ev_undef rfl rfl rfl ?_); intro K hK) | ((with_reducible show EvOpen _ _ _ _ _ _ _); refine ev_open ?_; intro K hK) | ((with_reducible show SkOpen _ _ _ _ _ _ _); refine sk_open ?_; intro K hK) | ((with_reducible show callK _ _ _ _ _ _ _ _); first  | (refine call_scalar (hct) (Nat.le_of_ble_eq_true rfl) rfl ?_))); simp only [evOp, evQ, withS, opd, kput, putS, upd, lookup, argsK, bringIn, bring, Res.list, Res.slot, slotsOf, List.reverse_cons, List.reverse_nil, List.nil_append, Nat.reduceEqDiff, Nat.reduceLT, ↓reduceIte, eq_self, true_and, Bool.not_false]) | refine ev_guard rfl rfl rfl ?_ ?_ | ((with_reducible show retQ _ _ _ _); simp only [retQ, retOk, getL, lookup, Option.map_some, fitsL, fits, ND, srcs, Res.list, VE, Nat.reduceEqDiff, ↓reduceIte, and_true]) | (with_reducible refine hK _ ?_; clear hK K) | (with_reducible refine And.intro ?_ ?_) | (with_reducible intro hc; try simp only [Bool.true_eq_false] at hc) | omega)
    all_goals trace_state
  | true =>
    rw [hb] at hct
    rw [shp_yes hb]
    unfold shpN
    obtain ⟨h10, hall⟩ := ctB_is hb
    generalize hF : (fun i => shp 44 (tsAt L i)) = F at *
    have hput := putA_met F
    repeat' (first | ((with_reducible show Ax _ _ _ _ _); (refine ax_makeMap rfl ?_ ; intro b hbN ; simp only [putS, upd, Nat.reduceEqDiff, ↓reduceIte])) | ((with_reducible show evNx _ _ _ _ _ _); first | (with_reducible refine nx_done ?_) | (refine nx_one rfl ?_) | (refine nx_alt rfl ?_ ?_) | (with_reducible refine nx_st ?_)) | ((with_reducible show evSx _ _ _ _ _ _); first | (with_reducible refine sx_done ?_) | (with_reducible refine sx_st ?_) | (with_reducible refine sx_op ?_)) | ((with_reducible show evTake _ _ _ _ _); with_reducible refine take_nil ?_) | ((with_reducible show evSy _ _ _ _ _ _ _); first | (with_reducible refine sy_done ?_) | (refine sy_last rfl ?_) | (refine sy_one (by decide) rfl ?_) | (refine sy_alt (by decide) rfl ?_ ?_) | (with_reducible refine sy_st ?_)) | ((with_reducible show StK _ _ _); first | fail) | (with_reducible first | refine then_normal ?_ | refine then_ret ?_ | refine then_exit ?_ | refine block_normal ?_ | refine block_ret ?_) | ((with_reducible show blockQ _ _ _ _); first | refine block_exit ?_ | refine block_exit_ne rfl ?_) | ((with_reducible show AWP _ _ _ _ _); first | (refine AWP.region_sx (id := 3) [.op, .op] ?_) | (with_reducible first | refine AWP.seq ?_ | refine AWP.block ?_ | refine AWP.region ?_ | refine AWP.ret ?_ | refine AWP.exit ?_ | refine AWP.skip ?_) | refine AWP.drawn rfl (by kernel_rfl) ?_ | refine AWP.cond rfl ?_ ?_) | with_reducible refine ev_nil ?_ | ((first | ((with_reducible show evNx _ _ _ _ _ _); refine nx_take rfl ?_; intro K hK) | ((with_reducible show Ax _ _ _ _ _); first | (refine ax_op rfl ?_; intro K hK)) | ((with_reducible show evTake _ _ _ _ _); refine take_step rfl ?_; intro K hK) | ((with_reducible show evSy _ _ _ _ _ _ _); refine sy_take rfl ?_; intro K hK) | ((with_reducible show AxB _ _ _ _ _); first | (refine axb_op rfl rfl ?_; intro K hK)) | ((with_reducible show evOps _ _ _ _ _ _); (first | refine ev_step rfl ?_ | refine ev_undef rfl rfl rfl ?_); intro K hK) | ((with_reducible show EvOpen _ _ _ _ _ _ _); refine ev_open ?_; intro K hK) | ((with_reducible show SkOpen _ _ _ _ _ _ _); refine sk_open ?_; intro K hK) | ((with_reducible show callK _ _ _ _ _ _ _ _); first  | (refine call_scalar (hct) (Nat.le_of_ble_eq_true rfl) rfl ?_))); simp only [evOp, evQ, evB, withS, opd, kput, putS, upd, lookup, argsK, bringIn, bring, Res.list, Res.slot, slotsOf, sz_termss, List.reverse_cons, List.reverse_nil, List.nil_append, Nat.reduceEqDiff, Nat.reduceLT, ↓reduceIte, eq_self, true_and, Bool.not_true, Option.isSome_some]) | refine ev_guard rfl rfl rfl ?_ ?_ | ((with_reducible show retQ _ _ _ _); simp only [eq_self]) | (with_reducible refine hK _ ?_; clear hK K) | (with_reducible refine And.intro ?_ ?_) | (with_reducible intro hc; try simp only [reduceCtorEq] at hc) | omega)
    all_goals try (exfalso; omega; done)
    refine AWP.loop_entR [] (fun k : Nat => ⟨[(4, .one (.mp b (encA Value.string (sM (metL F k))))), (11, .one (.pv (termss L))), (12, sc (.int .i64 L.length)), (13, sc (.int .i64 k))], [], 24⟩)
      (fun k => k ≤ L.length) (fun k => L.length - k) 0 (by omega) ?_ ?_
    · exact ⟨rfl, by decide, ⟨⟨rfl, rfl⟩, VE.rfl' _, rfl, rfl, trivial⟩, trivial⟩
    intro k hk
    by_cases hkl : k < L.length
    · obtain ⟨hs, h12⟩ := ctk_sml (hall k hkl)
      have hpt := pointsOf_fn (tsAt L k) (by omega)
      have htx := polygonText_fn (tsAt L k) hs (by omega)
      have e : shp 44 (tsAt L k) = F k := by rw [← hF]
      rw [e] at htx
      have hp := hput k
      repeat' (first | ((with_reducible show Ax _ _ _ _ _); ((with_reducible show Ax _ _ _ (Oper.mk _ (Op.mapUpdate _ _ _ _) _ _ _ _) _) ; refine ax_mapUpdate (l := sM (metL F k)) (F k) rfl rfl (fun _ _ _ h => h) rfl key_str u_mstr hbN ?_ ; rw [hp] ; simp only [swM, swSM_pv, swSM_own, swSM_pin, swSM_mp])) | ((with_reducible show evNx _ _ _ _ _ _); first | (with_reducible refine nx_done ?_) | (refine nx_one rfl ?_) | (refine nx_alt rfl ?_ ?_) | (with_reducible refine nx_st ?_)) | ((with_reducible show evSx _ _ _ _ _ _); first | (with_reducible refine sx_done ?_) | (with_reducible refine sx_st ?_) | (with_reducible refine sx_op ?_)) | ((with_reducible show evTake _ _ _ _ _); with_reducible refine take_nil ?_) | ((with_reducible show evSy _ _ _ _ _ _ _); first | (with_reducible refine sy_done ?_) | (refine sy_last rfl ?_) | (refine sy_one (by decide) rfl ?_) | (refine sy_alt (by decide) rfl ?_ ?_) | (with_reducible refine sy_st ?_)) | ((with_reducible show StK _ _ _); first | fail) | (with_reducible first | refine then_normal ?_ | refine then_ret ?_ | refine then_exit ?_ | refine block_normal ?_ | refine block_ret ?_) | ((with_reducible show blockQ _ _ _ _); first | refine block_exit ?_ | refine block_exit_ne rfl ?_) | ((with_reducible show AWP _ _ _ _ _); first | (refine AWP.region_sx (id := 7) [.op, .op, .op, .op, .op] ?_) | (with_reducible first | refine AWP.seq ?_ | refine AWP.block ?_ | refine AWP.region ?_ | refine AWP.ret ?_ | refine AWP.exit ?_ | refine AWP.skip ?_) | refine AWP.drawn rfl (by kernel_rfl) ?_ | refine AWP.cond rfl ?_ ?_) | with_reducible refine ev_nil ?_ | ((first | ((with_reducible show evNx _ _ _ _ _ _); refine nx_take rfl ?_; intro K hK) | ((with_reducible show Ax _ _ _ _ _); first | (refine ax_op rfl ?_; intro K hK)) | ((with_reducible show evTake _ _ _ _ _); refine take_step rfl ?_; intro K hK) | ((with_reducible show evSy _ _ _ _ _ _ _); refine sy_take rfl ?_; intro K hK) | ((with_reducible show AxB _ _ _ _ _); first | (refine axb_op rfl rfl ?_; intro K hK)) | ((with_reducible show evOps _ _ _ _ _ _); (first | refine ev_step rfl ?_ | refine ev_undef rfl rfl rfl ?_); intro K hK) | ((with_reducible show EvOpen _ _ _ _ _ _ _); refine ev_open ?_; intro K hK) | ((with_reducible show SkOpen _ _ _ _ _ _ _); refine sk_open ?_; intro K hK) | ((with_reducible show callK _ _ _ _ _ _ _ _); first  | (refine call_safe (hpt) (Nat.le_of_ble_eq_true rfl) (safe_pts _) ?_) | (refine call_scalar (htx) (Nat.le_of_ble_eq_true rfl) rfl ?_))); simp only [evOp, evQ, evB, binK, withS, opd, kput, putS, upd, lookup, argsK, bringIn, bring, Res.list, Res.slot, InK_i64, sz_termss, c_terms, bpts, List.getElem?_cons_zero, List.reverse_cons, List.reverse_nil, List.nil_append, List.length_nil, Nat.reduceEqDiff, Nat.reduceLT, Nat.mul_one, Nat.add_zero, Nat.zero_add, ↓reduceIte, eq_self, true_and, Int.toNat_natCast]) | refine ev_guard rfl rfl rfl ?_ ?_ | ((with_reducible show retQ _ _ _ _); simp only [eq_self]) | (with_reducible refine hK _ ?_; clear hK K) | (with_reducible refine And.intro ?_ ?_) | (with_reducible intro hc; try simp only [decide_eq_true_eq, decide_eq_false_iff_not, Int.not_lt] at hc) | omega)
      all_goals first
        | (exfalso; omega)
        | exact ⟨k + 1, by omega, by omega, [], rfl, by decide, ⟨⟨rfl, rfl⟩, VE.rfl' _, rfl, rfl, trivial⟩, trivial⟩
        | trace_state
    · obtain rfl : k = L.length := by omega
      have e : (encA Value.string (sM (metL F L.length))).length = (metL F L.length).length := by simp [encA, sM]
      repeat' (first | ((with_reducible show Ax _ _ _ _ _); (refine ax_lenMap rfl u_mstr rfl ?_ ; simp only [putS, upd, Nat.reduceEqDiff, ↓reduceIte])) | ((with_reducible show evNx _ _ _ _ _ _); first | (with_reducible refine nx_done ?_) | (refine nx_one rfl ?_) | (refine nx_alt rfl ?_ ?_) | (with_reducible refine nx_st ?_)) | ((with_reducible show evSx _ _ _ _ _ _); first | (with_reducible refine sx_done ?_) | (with_reducible refine sx_st ?_) | (with_reducible refine sx_op ?_)) | ((with_reducible show evTake _ _ _ _ _); with_reducible refine take_nil ?_) | ((with_reducible show evSy _ _ _ _ _ _ _); first | (with_reducible refine sy_done ?_) | (refine sy_last rfl ?_) | (refine sy_one (by decide) rfl ?_) | (refine sy_alt (by decide) rfl ?_ ?_) | (with_reducible refine sy_st ?_)) | ((with_reducible show StK _ _ _); first | fail) | (with_reducible first | refine then_normal ?_ | refine then_ret ?_ | refine then_exit ?_ | refine block_normal ?_ | refine block_ret ?_) | ((with_reducible show blockQ _ _ _ _); first | refine block_exit ?_ | refine block_exit_ne rfl ?_) | ((with_reducible show AWP _ _ _ _ _); first | (refine AWP.region_sx (id := 9) [.op, .op, .op, .op] ?_) | (with_reducible first | refine AWP.seq ?_ | refine AWP.block ?_ | refine AWP.region ?_ | refine AWP.ret ?_ | refine AWP.exit ?_ | refine AWP.skip ?_) | refine AWP.drawn rfl (by kernel_rfl) ?_ | refine AWP.cond rfl ?_ ?_) | with_reducible refine ev_nil ?_ | ((first | ((with_reducible show evNx _ _ _ _ _ _); refine nx_take rfl ?_; intro K hK) | ((with_reducible show Ax _ _ _ _ _); first | (refine ax_op rfl ?_; intro K hK)) | ((with_reducible show evTake _ _ _ _ _); refine take_step rfl ?_; intro K hK) | ((with_reducible show evSy _ _ _ _ _ _ _); refine sy_take rfl ?_; intro K hK) | ((with_reducible show AxB _ _ _ _ _); first | (refine axb_op rfl rfl ?_; intro K hK)) | ((with_reducible show evOps _ _ _ _ _ _); (first | refine ev_step rfl ?_ | refine ev_undef rfl rfl rfl ?_); intro K hK) | ((with_reducible show EvOpen _ _ _ _ _ _ _); refine ev_open ?_; intro K hK) | ((with_reducible show SkOpen _ _ _ _ _ _ _); refine sk_open ?_; intro K hK) | ((with_reducible show callK _ _ _ _ _ _ _ _); first  | fail)); simp only [evOp, evQ, binK, withS, opd, kput, putS, upd, lookup, argsK, sz_termss, c_terms, List.reverse_cons, List.reverse_nil, List.nil_append, Nat.reduceEqDiff, Nat.reduceLT, Nat.mul_one, Nat.add_zero, ↓reduceIte, eq_self, true_and, Int.toNat_natCast]) | refine ev_guard rfl rfl rfl ?_ ?_ | ((with_reducible show retQ _ _ _ _); simp only [retQ, retOk, getL, lookup, Option.map_some, fitsL, fits, ND, srcs, Res.list, VE, Value.int.injEq, Nat.reduceEqDiff, ↓reduceIte, and_true, true_and]) | (with_reducible refine hK _ ?_; clear hK K) | (with_reducible refine And.intro ?_ ?_) | (with_reducible intro hc; try simp only [decide_eq_true_eq, decide_eq_false_iff_not, Int.not_lt] at hc) | omega)
      all_goals first
        | (exfalso; omega)
        | (rw [e]; done)
        | trace_state

theorem grow_strsL {l : List ByteArray} {x : ByteArray} {v z : V} (h : v = vs x) : BE ⟨9, l.length + 1, fun j => if j < l.length then vs (stAt l j) else if j - l.length = 0 then v else z⟩ (bstrs (l ++ [x])) := by
  refine ⟨rfl, by simp [bstrs], fun j hj => VE.of_eq ?_⟩
  have hj : j < (l ++ [x]).length := hj
  simp only [List.length_append, List.length_cons, List.length_nil, Nat.zero_add] at hj
  show (if j < l.length then vs (stAt l j) else if j - l.length = 0 then v else z) = vs (stAt (l ++ [x]) j)
  by_cases h1 : j < l.length
  · simp [h1, stAt, List.getD, List.getElem?_append_left h1]
  · have e : j = l.length := by omega
    subst e
    simp [h, stAt, List.getD]

set_option maxHeartbeats 1000000 in
theorem specShapesIn_fn (L : List (List T3)) (hl : L.length ≤ 1099511627776) (hr : ∀ i, i < L.length → (tsAt L i).length ≤ 1099511627776) : Fn Tryz.prog 17 [termss L] (.many [.pv (vi (shpR L).1), .pv (vb (shpR L).2)]) := by
  have hct := ctGood_fn L hl hr
  refine Fn.of_body Tryz.call17 Tryz.func17 rfl Tryz.ntmps17 (ts := [2, 3]) rfl (by simp) rfl (fun N => ?_)
  cases hb : ctB L with
  | false =>
    rw [hb] at hct
    rw [shp_no hb]
    repeat' (first | (with_reducible first | refine then_normal ?_ | refine then_ret ?_ | refine then_exit ?_ | refine block_normal ?_ | refine block_ret ?_) | ((with_reducible show blockQ _ _ _ _); first | refine block_exit ?_ | refine block_exit_ne rfl ?_) | ((with_reducible show AWP _ _ _ _ _); first | (with_reducible first | refine AWP.seq ?_ | refine AWP.block ?_ | refine AWP.region ?_ | refine AWP.ret ?_ | refine AWP.exit ?_ | refine AWP.skip ?_) | refine AWP.drawn rfl (by kernel_rfl) ?_ | refine AWP.cond rfl ?_ ?_) | with_reducible refine ev_nil ?_ | ((first | ((with_reducible show evOps _ _ _ _ _ _); (first | refine ev_step rfl ?_ | refine ev_undef rfl rfl rfl ?_); intro K hK) | ((with_reducible show EvOpen _ _ _ _ _ _ _); refine ev_open ?_; intro K hK) | ((with_reducible show SkOpen _ _ _ _ _ _ _); refine sk_open ?_; intro K hK) | ((with_reducible show callK _ _ _ _ _ _ _ _); first  | (refine call_scalar (hct) (Nat.le_of_ble_eq_true rfl) rfl ?_))); simp only [evOp, evQ, withS, opd, kput, putS, upd, lookup, argsK, bringIn, bring, Res.list, Res.slot, slotsOf, List.reverse_cons, List.reverse_nil, List.nil_append, Nat.reduceEqDiff, Nat.reduceLT, ↓reduceIte, eq_self, true_and, Bool.not_false]) | refine ev_guard rfl rfl rfl ?_ ?_ | ((with_reducible show retQ _ _ _ _); simp only [retQ, retOk, getL, lookup, Option.map_some, fitsL, fits, ND, srcs, Res.list, VE, Nat.reduceEqDiff, ↓reduceIte, and_true]) | (with_reducible refine hK _ ?_; clear hK K) | (with_reducible refine And.intro ?_ ?_) | (with_reducible intro hc; try simp only [Bool.true_eq_false] at hc) | omega)
    all_goals trace_state
  | true =>
    rw [hb] at hct
    rw [shp_yes hb, shp_32 hb]
    obtain ⟨h10, hall⟩ := ctB_is hb
    generalize hF : (fun i => shp 32 (tsAt L i)) = F at *
    repeat' (first | (with_reducible first | refine then_normal ?_ | refine then_ret ?_ | refine then_exit ?_ | refine block_normal ?_ | refine block_ret ?_) | ((with_reducible show blockQ _ _ _ _); first | refine block_exit ?_ | refine block_exit_ne rfl ?_) | ((with_reducible show AWP _ _ _ _ _); first | (with_reducible first | refine AWP.seq ?_ | refine AWP.block ?_ | refine AWP.region ?_ | refine AWP.ret ?_ | refine AWP.exit ?_ | refine AWP.skip ?_) | refine AWP.drawn rfl (by kernel_rfl) ?_ | refine AWP.cond rfl ?_ ?_) | with_reducible refine ev_nil ?_ | ((first | ((with_reducible show evOps _ _ _ _ _ _); (first | refine ev_step rfl ?_ | refine ev_undef rfl rfl rfl ?_); intro K hK) | ((with_reducible show EvOpen _ _ _ _ _ _ _); refine ev_open ?_; intro K hK) | ((with_reducible show SkOpen _ _ _ _ _ _ _); refine sk_open ?_; intro K hK) | ((with_reducible show callK _ _ _ _ _ _ _ _); first  | (refine call_scalar (hct) (Nat.le_of_ble_eq_true rfl) rfl ?_))); simp only [evOp, evQ, evB, withS, opd, kput, putS, upd, lookup, argsK, bringIn, bring, Res.list, Res.slot, slotsOf, sz_termss, List.reverse_cons, List.reverse_nil, List.nil_append, Nat.reduceEqDiff, Nat.reduceLT, ↓reduceIte, eq_self, true_and, Bool.not_true, Option.isSome_some]) | refine ev_guard rfl rfl rfl ?_ ?_ | ((with_reducible show retQ _ _ _ _); simp only [eq_self]) | (with_reducible refine hK _ ?_; clear hK K) | (with_reducible refine And.intro ?_ ?_) | (with_reducible intro hc; try simp only [reduceCtorEq] at hc) | omega)
    all_goals try (exfalso; omega; done)
    refine AWP.virtual 4 9 1 rfl ?_
    refine AWP.loop_entR [0] (fun k : Nat => ⟨[(4, .one (.own 0 1 0 (metL F k).length)), (10, .one (.pv (termss L))), (11, sc (.int .i64 L.length)), (12, sc (.int .i64 k))], [some (bstrs (metL F k))], 29⟩)
      (fun k => k ≤ L.length) (fun k => L.length - k) 0 (by omega) ?_ ?_
    · simp [EntR, EntSR, EntHR, SlR, VE, VE.rfl', lookup, BE, upd, sc, bstrs, metL]
    intro k hk
    have hml := metL_le F k
    by_cases hkl : k < L.length
    · obtain ⟨hs, h12⟩ := ctk_sml (hall k hkl)
      have htx := ctShape_fn (tsAt L k) hs (by omega)
      have e : shp 32 (tsAt L k) = F k := by rw [← hF]
      rw [e] at htx
      have hh := l1HasS_fn (metL F k) (F k) (by omega)
      cases hb2 : hasB (F k) (metL F k) with
      | true =>
        rw [hb2] at hh
        have e2 : metL F (k + 1) = metL F k := by show (if _ then _ else _ : List ByteArray) = _; rw [if_pos hb2]
        repeat' (first | (with_reducible first | refine then_normal ?_ | refine then_ret ?_ | refine then_exit ?_ | refine block_normal ?_ | refine block_ret ?_) | ((with_reducible show blockQ _ _ _ _); first | refine block_exit ?_ | refine block_exit_ne rfl ?_) | ((with_reducible show AWP _ _ _ _ _); first | (with_reducible first | refine AWP.seq ?_ | refine AWP.block ?_ | refine AWP.region ?_ | refine AWP.ret ?_ | refine AWP.exit ?_ | refine AWP.skip ?_) | refine AWP.drawn rfl (by kernel_rfl) ?_ | refine AWP.cond rfl ?_ ?_) | with_reducible refine ev_nil ?_ | ((first | ((with_reducible show evOps _ _ _ _ _ _); (first | refine ev_step rfl ?_ | refine ev_undef rfl rfl rfl ?_); intro K hK) | ((with_reducible show EvOpen _ _ _ _ _ _ _); refine ev_open ?_; intro K hK) | ((with_reducible show SkOpen _ _ _ _ _ _ _); refine sk_open ?_; intro K hK) | ((with_reducible show callK _ _ _ _ _ _ _ _); first  | (refine call_scalar (htx) (Nat.le_of_ble_eq_true rfl) rfl ?_) | (refine call_scalar (hh) (Nat.le_of_ble_eq_true rfl) rfl ?_))); simp only [evOp, evQ, evB, binK, withS, opd, kput, putS, upd, lookup, argsK, bringIn, bring, Res.list, Res.slot, InK_i64, sz_strs, bstrs, sz_termss, c_terms, List.getElem?_cons_zero, List.reverse_cons, List.reverse_nil, List.nil_append, List.cons_append, Nat.reduceEqDiff, Nat.reduceLT, Nat.mul_one, Nat.add_zero, Nat.zero_add, ↓reduceIte, eq_self, true_and, Bool.not_true, Int.toNat_natCast, Option.isSome_some]) | refine ev_guard rfl rfl rfl ?_ ?_ | ((with_reducible show retQ _ _ _ _); simp only [retQ, retOk, getL, lookup, Option.map_some, fitsL, fits, ND, srcs, Res.list, VE, Value.int.injEq, Nat.reduceEqDiff, ↓reduceIte, and_true, true_and]) | (with_reducible refine hK _ ?_; clear hK K) | (with_reducible refine And.intro ?_ ?_) | (with_reducible intro hc; try simp only [decide_eq_true_eq, decide_eq_false_iff_not, Int.not_lt, reduceCtorEq] at hc) | omega)
        all_goals first
          | (exfalso; omega)
          | (refine ⟨k + 1, by omega, by omega, [0], rfl, by decide, ⟨?_, VE.rfl' _, rfl, rfl, trivial⟩, ?_, trivial⟩
             · rw [e2]; exact ⟨rfl, rfl, rfl, rfl⟩
             · rw [e2]; exact BE.rfl' _)
          | trace_state
      | false =>
        rw [hb2] at hh
        have e2 : metL F (k + 1) = metL F k ++ [F k] := by show (if _ then _ else _ : List ByteArray) = _; rw [if_neg (by rw [hb2]; exact Bool.false_ne_true)]
        repeat' (first | (with_reducible first | refine then_normal ?_ | refine then_ret ?_ | refine then_exit ?_ | refine block_normal ?_ | refine block_ret ?_) | ((with_reducible show blockQ _ _ _ _); first | refine block_exit ?_ | refine block_exit_ne rfl ?_) | ((with_reducible show AWP _ _ _ _ _); first | (with_reducible first | refine AWP.seq ?_ | refine AWP.block ?_ | refine AWP.region ?_ | refine AWP.ret ?_ | refine AWP.exit ?_ | refine AWP.skip ?_) | refine AWP.drawn rfl (by kernel_rfl) ?_ | refine AWP.cond rfl ?_ ?_) | with_reducible refine ev_nil ?_ | ((first | ((with_reducible show evOps _ _ _ _ _ _); (first | refine ev_step rfl ?_ | refine ev_undef rfl rfl rfl ?_); intro K hK) | ((with_reducible show EvOpen _ _ _ _ _ _ _); refine ev_open ?_; intro K hK) | ((with_reducible show SkOpen _ _ _ _ _ _ _); refine sk_open ?_; intro K hK) | ((with_reducible show callK _ _ _ _ _ _ _ _); first  | (refine call_scalar (htx) (Nat.le_of_ble_eq_true rfl) rfl ?_) | (refine call_scalar (hh) (Nat.le_of_ble_eq_true rfl) rfl ?_))); simp only [evOp, evQ, evB, binK, withS, opd, kput, putS, upd, lookup, argsK, bringIn, bring, Res.list, Res.slot, InK_i64, appendK, srcK, growK, frz, newBlk, partsK, buildSliceK, plSlice, V.one, Value.oneCell', List.set_cons_zero, sz_strs, ei_strs, ea_strs, bstrs, sz_termss, c_terms, List.getElem?_cons_zero, List.getElem?_cons_succ, List.reverse_cons, List.reverse_nil, List.nil_append, List.cons_append, List.length_cons, List.length_nil, Nat.reduceEqDiff, Nat.reduceAdd, Nat.reduceLT, Nat.reduceLeDiff, Nat.mul_one, Nat.add_zero, Nat.zero_add, Nat.mod_one, List.getD_cons_zero, ↓reduceIte, eq_self, true_and, Bool.not_false, Bool.false_eq_true, forall_const, implies_true, Int.toNat_natCast, Option.isSome_some]) | refine ev_guard rfl rfl rfl ?_ ?_ | ((with_reducible show retQ _ _ _ _); simp only [retQ, retOk, getL, lookup, Option.map_some, fitsL, fits, ND, srcs, Res.list, VE, Value.int.injEq, Nat.reduceEqDiff, ↓reduceIte, and_true, true_and]) | (with_reducible refine hK _ ?_; clear hK K) | (with_reducible refine And.intro ?_ ?_) | (with_reducible intro hc; try simp only [decide_eq_true_eq, decide_eq_false_iff_not, Int.not_lt, Bool.true_eq_false] at hc) | omega)
        all_goals first
          | (exfalso; omega)
          | (rename_i i; obtain rfl : i = 0 := (by omega); rfl)
          | (refine ⟨k + 1, by omega, by omega, [2], rfl, by decide, ⟨?_, VE.rfl' _, rfl, rfl, trivial⟩, ?_, trivial⟩
             · rw [e2]; exact ⟨rfl, rfl, rfl, by simp⟩
             · rw [e2]; exact grow_strsL rfl)
          | trace_state
    · obtain rfl : k = L.length := by omega
      repeat' (first | (with_reducible first | refine then_normal ?_ | refine then_ret ?_ | refine then_exit ?_ | refine block_normal ?_ | refine block_ret ?_) | ((with_reducible show blockQ _ _ _ _); first | refine block_exit ?_ | refine block_exit_ne rfl ?_) | ((with_reducible show AWP _ _ _ _ _); first | (with_reducible first | refine AWP.seq ?_ | refine AWP.block ?_ | refine AWP.region ?_ | refine AWP.ret ?_ | refine AWP.exit ?_ | refine AWP.skip ?_) | refine AWP.drawn rfl (by kernel_rfl) ?_ | refine AWP.cond rfl ?_ ?_) | with_reducible refine ev_nil ?_ | ((first | ((with_reducible show evOps _ _ _ _ _ _); (first | refine ev_step rfl ?_ | refine ev_undef rfl rfl rfl ?_); intro K hK) | ((with_reducible show EvOpen _ _ _ _ _ _ _); refine ev_open ?_; intro K hK) | ((with_reducible show SkOpen _ _ _ _ _ _ _); refine sk_open ?_; intro K hK) | ((with_reducible show callK _ _ _ _ _ _ _ _); first | fail)); simp only [evOp, evQ, evB, binK, withS, opd, kput, putS, upd, lookup, argsK, sz_strs, bstrs, sz_termss, c_terms, List.reverse_cons, List.reverse_nil, List.nil_append, Nat.reduceEqDiff, Nat.reduceLT, Nat.mul_one, Nat.add_zero, ↓reduceIte, eq_self, true_and, Int.toNat_natCast, Option.isSome_some]) | refine ev_guard rfl rfl rfl ?_ ?_ | ((with_reducible show retQ _ _ _ _); simp only [retQ, retOk, getL, lookup, Option.map_some, fitsL, fits, ND, srcs, Res.list, VE, Nat.reduceEqDiff, ↓reduceIte, and_true]) | (with_reducible refine hK _ ?_; clear hK K) | (with_reducible refine And.intro ?_ ?_) | (with_reducible intro hc; try simp only [decide_eq_true_eq, decide_eq_false_iff_not, Int.not_lt] at hc) | omega)
      all_goals first
        | (exfalso; omega)
        | rfl
        | (simp; done)
        | trace_state
end Go.Proofs.YteapdildbfimnaaGreatDoor
