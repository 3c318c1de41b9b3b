/- What NeedlessStates returns. Conditions: lists no longer than 2^40. -/
import Derived.Test.YtpimjkhfookipaaPureNd2
import Derived.Test.YtpimjkhfookipaaFnRevA
import Derived.Test.YtpimjkhfookipaaFnZ
import Derived.Test.YtpimjkhfookipaaEngS
namespace Go.Proofs.Ytpimjkhfookipaa
open Go.RowKit Go.Proofs
set_option linter.unusedSimpArgs false
set_option linter.unusedVariables false

/-- A slice of its own and a scalar, arguments that may be read as old. -/
theorem Fn.of_oldF {P : Program} {f : FuncId} {vs : List V} {sz n : Nat} {b : Blk} {v : Value} (hs : ∀ i, i < b.n → ∃ x, b.f i = .val x) (h : FnE P f vs (fun r => r = .many [.fr sz n b, .pv (.val v)])) : Fn P f vs (.many [.fr sz n b, .pv (.val v)]) := by
  refine ⟨h.entry, fun w S us hus => (h.runs w us (RdL.mono (fun b _ _ => ⟨trivial, rfl⟩) _ _ hus)).mono ?_⟩
  rintro e w' ⟨r, u, φ, rfl, _, he, hh, us', hu, hr⟩
  refine ⟨u, φ, he, ⟨hh.len, hh.below, fun id blk hi => ?_, hh.inj⟩, us', hu, ?_⟩
  · have hb : blk = b := by
      have hi : ([some b] : List (Option Blk))[id]? = some (some blk) := hi
      match id, hi with
      | 0, hi => injection hi with hi; injection hi with hi; exact hi.symm
      | k + 1, hi => simp at hi
    rcases hh.blk id blk hi with h1 | ⟨c, cur, h1, h2, h3, h4, h5⟩
    · exact .inl h1
    · refine .inr ⟨c, cur, h1, h2, h3, h4, fun i hi2 => ?_⟩
      obtain ⟨x, hx, hrx⟩ := h5 i hi2
      refine ⟨x, hx, ?_⟩
      subst hb
      obtain ⟨y, hy⟩ := hs i hi2
      rw [hy] at hrx ⊢
      exact hrx
  · match us', hr with
    | [u1, u2], ⟨r1, r2, _⟩ => exact ⟨r1, r2, trivial⟩

set_option maxHeartbeats 4000000 in
set_option maxRecDepth 20000 in
theorem implNeedless_yes (a e : List Int) (s : List (List (List Int))) (h : autB a e s = true) :
    FnE Try.prog 44 [autV a e s] (fun r => r = .many [.fr 1 (ndR a e s).1.length (bints (ndR a e s).1), .pv (vb (ndR a e s).2)]) := by
  have hg := autB_get h
  have hel := hg.2.2.2.1
  obtain ⟨ha, he, hs, hm⟩ := autB_len h
  have hsq := autB_sq h
  have hl1 := leading_fn a e s (by rw [hel]; exact hsq)
  have hl2 := leading_fn e a (s.map turnM) (SqA.turn (by omega) hsq)
  rw [hel] at hl1
  rw [rnd_turnB hsq] at hl2
  rw [ndR_yes h]
  generalize rnd (edB s) a.length s.length a.length (mkE e) = f at hl1 ⊢
  generalize rnd (edF s) a.length s.length a.length (mkE a) = g at hl2 ⊢
  refine FnE.of_body (fun N => [oldA N a e s]) (fun _ us h => oldL_rd _ us h) Try.call44 Try.func44 rfl Try.ntmps44 (ts := [2, 3]) rfl (fun _ => by simp) (by rintro r rfl; rfl) (fun N => ?_)
  have hgood := (isAutomaton_fn a e s ha he hs hm).bare (vs' := [oldA N a e s]) ⟨oldA_bare N a e s, trivial⟩
  have hrev := (reversed_E a e s h).bare (vs' := [oldA N a e s]) ⟨oldA_bare N a e s, trivial⟩
  have hld1 := hl1.bare (vs' := [oldA N a e s]) ⟨oldA_bare N a e s, trivial⟩
  repeat' (first | ((with_reducible show False) ; trivial) | ((with_reducible show evNx _ _ _ _ _ _); first | (with_reducible refine nx_done ?_) | (refine nx_one rfl ?_) | (refine nx_alt rfl ?_ ?_) | (with_reducible refine nx_st ?_)) | ((with_reducible show evSx _ _ _ _ _ _); first | (with_reducible refine sx_done ?_) | (with_reducible refine sx_st ?_) | (with_reducible refine sx_op ?_)) | ((with_reducible show evTake _ _ _ _ _); with_reducible refine take_nil ?_) | ((with_reducible show evSy _ _ _ _ _ _ _); first | (with_reducible refine sy_done ?_) | (refine sy_last rfl ?_) | (refine sy_one (by decide) rfl ?_) | (refine sy_alt (by decide) rfl ?_ ?_) | (with_reducible refine sy_st ?_)) | ((with_reducible show StK _ _ _); first | fail) | (with_reducible first | refine then_normal ?_ | refine then_ret ?_ | refine then_exit ?_ | refine block_normal ?_ | refine block_ret ?_) | ((with_reducible show blockQ _ _ _ _); first | refine block_exit ?_ | refine block_exit_ne rfl ?_) | ((with_reducible show AWP _ _ _ _ _); first | (refine AWP.seq_cutXr (id := 3) (fun _ : Unit => ⟨[(4, .one (.own 0 1 0 a.length)), (5, .one (.own 1 1 0 a.length))], [some (bbools a.length f), some (bbools a.length g)], 40⟩) (fun _ => True) ?_ ?_) | (refine AWP.drawn_nx (id := 3) (.alt 0 (.alt 1 (.one 2 (.one 3 (.one 4 (.take 5 (.take 6 .done))))) (.one 2 (.one 1 (.one 3 (.one 4 (.take 5 (.take 6 .done))))))) (.one 2 (.one 0 (.one 1 (.one 3 (.one 4 (.take 5 (.take 6 .done)))))))) rfl (by kernel_rfl) ?_) | (with_reducible first | refine AWP.seq ?_ | refine AWP.block ?_ | refine AWP.region ?_ | refine AWP.ret ?_ | refine AWP.exit ?_ | refine AWP.skip ?_) | refine AWP.drawn rfl (by kernel_rfl) ?_ | refine AWP.cond rfl ?_ ?_) | with_reducible refine ev_nil ?_ | ((first | ((with_reducible show evNx _ _ _ _ _ _); refine nx_take rfl ?_; intro K hK) | ((with_reducible show Ax _ _ _ _ _); first | (refine ax_callE (f := 131) ?_) | (refine ax_op rfl ?_; intro K hK)) | ((with_reducible show evTake _ _ _ _ _); refine take_step rfl ?_; intro K hK) | ((with_reducible show evSy _ _ _ _ _ _ _); refine sy_take rfl ?_; intro K hK) | ((with_reducible show AxB _ _ _ _ _); first | (refine axb_callE (f := 131) ?_) | (refine axb_op rfl rfl ?_; intro K hK)) | (refine ⟨_, hrev, ?_⟩; rintro _ ⟨F, hF, rfl⟩ hnw; simp only [Res.list, NewL, and_true, true_and] at hnw) | ((with_reducible show evOps _ _ _ _ _ _); (first | refine ev_step rfl ?_ | refine ev_undef rfl rfl rfl ?_); intro K hK) | ((with_reducible show EvOpen _ _ _ _ _ _ _); refine ev_open ?_; intro K hK) | ((with_reducible show SkOpen _ _ _ _ _ _ _); refine sk_open ?_; intro K hK) | ((with_reducible show callK _ _ _ _ _ _ _ _); first  | (refine call_scalar (hgood) (Nat.le_of_ble_eq_true rfl) rfl ?_) | (refine call_safe ( hld1) (Nat.le_of_ble_eq_true rfl) (by repeat' (first | ((with_reducible show False) ; trivial) | ((with_reducible show evNx _ _ _ _ _ _); first | (with_reducible refine nx_done ?_) | (refine nx_one rfl ?_) | (refine nx_alt rfl ?_ ?_) | (with_reducible refine nx_st ?_)) | ((with_reducible show evSx _ _ _ _ _ _); first | (with_reducible refine sx_done ?_) | (with_reducible refine sx_st ?_) | (with_reducible refine sx_op ?_)) | ((with_reducible show evTake _ _ _ _ _); with_reducible refine take_nil ?_) | ((with_reducible show evSy _ _ _ _ _ _ _); first | (with_reducible refine sy_done ?_) | (refine sy_last rfl ?_) | (refine sy_one (by decide) rfl ?_) | (refine sy_alt (by decide) rfl ?_ ?_) | (with_reducible refine sy_st ?_)) | ((with_reducible show StK _ _ _); first | fail) | exact trivial | refine ⟨fun _ _ => ⟨_, rfl⟩, ?_⟩)) ?_) | (refine call_safe ( hl2.bare (vs' := [.agg 3 F]) ⟨hF.bare, trivial⟩) (Nat.le_of_ble_eq_true rfl) (by repeat' (first | ((with_reducible show False) ; trivial) | ((with_reducible show evNx _ _ _ _ _ _); first | (with_reducible refine nx_done ?_) | (refine nx_one rfl ?_) | (refine nx_alt rfl ?_ ?_) | (with_reducible refine nx_st ?_)) | ((with_reducible show evSx _ _ _ _ _ _); first | (with_reducible refine sx_done ?_) | (with_reducible refine sx_st ?_) | (with_reducible refine sx_op ?_)) | ((with_reducible show evTake _ _ _ _ _); with_reducible refine take_nil ?_) | ((with_reducible show evSy _ _ _ _ _ _ _); first | (with_reducible refine sy_done ?_) | (refine sy_last rfl ?_) | (refine sy_one (by decide) rfl ?_) | (refine sy_alt (by decide) rfl ?_ ?_) | (with_reducible refine sy_st ?_)) | ((with_reducible show StK _ _ _); first | fail) | exact trivial | refine ⟨fun _ _ => ⟨_, rfl⟩, ?_⟩)) ?_))); simp only [callEK, evOp, evQ, withS, opd, kput, putS, upd, lookup, argsK, loadOwn, bringIn, bring, Res.list, Res.slot, slotsOf, frz, newBlk, boxV, bints, c_aut, List.getElem?_cons_zero, List.reverse_cons, List.reverse_nil, List.nil_append, List.cons_append, List.length_cons, List.length_nil, Nat.reduceEqDiff, Nat.reduceAdd, Nat.reduceLT, Nat.reduceLeDiff, Nat.zero_add, ↓reduceIte, eq_self, true_and]) | refine ev_guard rfl rfl rfl ?_ ?_ | ((with_reducible show retQ _ _ _ _); simp only [eq_self]) | (with_reducible refine hK _ ?_; clear hK K) | (with_reducible refine And.intro ?_ ?_) | (with_reducible intro hc; try simp only [Bool.not_eq_true', Bool.not_eq_false'] at hc) | omega)
  all_goals first
    | (exfalso; omega)
    | (exfalso; simp_all; done)
    | exact oldA_one N a e s _ (by assumption)
    | exact ⟨(), [1, 2], rfl, by decide, by simp [EntSR, SlR, VE, lookup, sc, VE.rfl'], BE.rfl' _, BE.rfl' _, trivial⟩
    | skip
  unfold Later
  intro _
  dsimp only
  repeat' (first | (with_reducible first | refine then_normal ?_ | refine then_ret ?_ | refine then_exit ?_ | refine block_normal ?_ | refine block_ret ?_) | ((with_reducible show blockQ _ _ _ _); first | refine block_exit ?_ | refine block_exit_ne rfl ?_) | ((with_reducible show AWP _ _ _ _ _); first | (with_reducible first | refine AWP.seq ?_ | refine AWP.block ?_ | refine AWP.region ?_ | refine AWP.ret ?_ | refine AWP.exit ?_ | refine AWP.skip ?_) | refine AWP.drawn rfl (by kernel_rfl) ?_ | refine AWP.cond rfl ?_ ?_) | with_reducible refine ev_nil ?_ | ((first | ((with_reducible show evOps _ _ _ _ _ _); (first | refine ev_step rfl ?_ | refine ev_undef rfl rfl rfl ?_); intro K hK) | ((with_reducible show EvOpen _ _ _ _ _ _ _); refine ev_open ?_; intro K hK) | ((with_reducible show SkOpen _ _ _ _ _ _ _); refine sk_open ?_; intro K hK) | ((with_reducible show callK _ _ _ _ _ _ _ _); first | fail)); simp only [evOp, evQ, evB, withS, opd, kput, putS, upd, lookup, newBlk, partsK, buildSliceK, ei_ints, ea_ints, Nat.zero_le, sz_bools, List.nil_append, List.cons_append, List.length_cons, List.length_nil, Nat.reduceEqDiff, Nat.reduceAdd, Nat.reduceLT, Nat.reduceLeDiff, Nat.mul_one, Nat.zero_add, Nat.mod_one, List.getD_cons_zero, ↓reduceIte, eq_self, true_and, Option.isSome_some]) | refine ev_guard rfl rfl rfl ?_ ?_ | ((with_reducible show retQ _ _ _ _); simp only [eq_self]) | (with_reducible refine hK _ ?_; clear hK K) | (with_reducible refine And.intro ?_ ?_) | (with_reducible intro hc; try simp only [eq_self] at hc) | omega)
  all_goals try (exfalso; omega; done)
  refine AWP.loop_entR [0, 1, 2] (fun k : Nat => ⟨[(4, .one (.own 0 1 0 a.length)), (5, .one (.own 1 1 0 a.length)), (6, .one (.own 2 1 0 (ndL f g k).length)), (18, sc (.int .i64 a.length)), (19, sc (.int .i64 k))], [some (bbools a.length f), some (bbools a.length g), some (bints (ndL f g k))], 40⟩)
    (fun k => k ≤ a.length) (fun k => a.length - k) 0 (by omega) ?_ ?_
  · exact ⟨rfl, by decide, by simp [EntSR, SlR, VE, lookup, sc, VE.rfl', ndL], BE.rfl' _, BE.rfl' _, ⟨rfl, Nat.le_refl _, fun i hi => by simp [bints, ndL] at hi⟩, trivial⟩
  intro k hk
  have hle := ndL_le f g k
  by_cases hkl : k < a.length
  · by_cases hc : (!f k || !g k) = true
    · have e1 := ndL_yes hc
      repeat' (first | (with_reducible first | refine then_normal ?_ | refine then_ret ?_ | refine then_exit ?_ | refine block_normal ?_ | refine block_ret ?_) | ((with_reducible show blockQ _ _ _ _); first | refine block_exit ?_ | refine block_exit_ne rfl ?_) | ((with_reducible show AWP _ _ _ _ _); first | (with_reducible first | refine AWP.seq ?_ | refine AWP.block ?_ | refine AWP.region ?_ | refine AWP.ret ?_ | refine AWP.exit ?_ | refine AWP.skip ?_) | refine AWP.drawn rfl (by kernel_rfl) ?_ | refine AWP.cond rfl ?_ ?_) | with_reducible refine ev_nil ?_ | ((first | ((with_reducible show evOps _ _ _ _ _ _); (first | refine ev_step rfl ?_ | refine ev_undef rfl rfl rfl ?_); intro K hK) | ((with_reducible show EvOpen _ _ _ _ _ _ _); refine ev_open ?_; intro K hK) | ((with_reducible show SkOpen _ _ _ _ _ _ _); refine sk_open ?_; intro K hK) | ((with_reducible show callK _ _ _ _ _ _ _ _); first | fail)); simp only [evOp, evQ, binK, withS, opd, kput, putS, upd, lookup, skipOp, loadOwn, InK_i64, appendK, srcK, growK, frz, newBlk, partsK, buildSliceK, plSlice, V.one, Value.oneCell', List.set_cons_zero, List.set_cons_succ, ei_ints, ea_ints, bints, sz_bools, c_bool, List.getElem?_cons_zero, List.getElem?_cons_succ, List.nil_append, List.cons_append, List.length_cons, List.length_nil, Nat.reduceEqDiff, Nat.reduceAdd, Nat.reduceLT, Nat.reduceLeDiff, Nat.mul_one, Nat.zero_add, Nat.mod_one, List.getD_cons_zero, ↓reduceIte, eq_self, true_and, and_true, Bool.not_false, Bool.true_eq_false, Bool.false_eq_true, false_implies, forall_const, implies_true, Int.toNat_natCast]) | refine ev_guard rfl rfl rfl ?_ ?_ | ((with_reducible show retQ _ _ _ _); simp only [eq_self]) | (with_reducible refine hK _ ?_; clear hK K) | (with_reducible refine And.intro ?_ ?_) | (with_reducible intro hc; try simp only [decide_eq_true_eq, decide_eq_false_iff_not, Bool.not_eq_true', Bool.not_eq_false', Bool.not_false, Int.not_lt, reduceCtorEq, Bool.true_eq_false] at hc) | omega)
      all_goals first
        | (exfalso; omega)
        | (exfalso; simp_all; done)
        | (rename_i q; obtain rfl : q = 0 := (by omega); rfl)
        | (refine ⟨k + 1, by omega, by omega, [0, 1, 4], rfl, by decide, ?_, ?_⟩
           · simp [EntSR, SlR, VE, lookup, sc, VE.rfl', e1]
           · rw [e1]; exact ⟨BE.rfl' _, BE.rfl' _, app_be, trivial⟩)
        | trace_state
    · have e1 := ndL_no hc
      repeat' (first | (with_reducible first | refine then_normal ?_ | refine then_ret ?_ | refine then_exit ?_ | refine block_normal ?_ | refine block_ret ?_) | ((with_reducible show blockQ _ _ _ _); first | refine block_exit ?_ | refine block_exit_ne rfl ?_) | ((with_reducible show AWP _ _ _ _ _); first | (with_reducible first | refine AWP.seq ?_ | refine AWP.block ?_ | refine AWP.region ?_ | refine AWP.ret ?_ | refine AWP.exit ?_ | refine AWP.skip ?_) | refine AWP.drawn rfl (by kernel_rfl) ?_ | refine AWP.cond rfl ?_ ?_) | with_reducible refine ev_nil ?_ | ((first | ((with_reducible show evOps _ _ _ _ _ _); (first | refine ev_step rfl ?_ | refine ev_undef rfl rfl rfl ?_); intro K hK) | ((with_reducible show EvOpen _ _ _ _ _ _ _); refine ev_open ?_; intro K hK) | ((with_reducible show SkOpen _ _ _ _ _ _ _); refine sk_open ?_; intro K hK) | ((with_reducible show callK _ _ _ _ _ _ _ _); first | fail)); simp only [evOp, evQ, binK, withS, opd, kput, putS, upd, lookup, skipOp, loadOwn, InK_i64, appendK, srcK, growK, frz, newBlk, partsK, buildSliceK, plSlice, V.one, Value.oneCell', List.set_cons_zero, List.set_cons_succ, ei_ints, ea_ints, bints, sz_bools, c_bool, List.getElem?_cons_zero, List.getElem?_cons_succ, List.nil_append, List.cons_append, List.length_cons, List.length_nil, Nat.reduceEqDiff, Nat.reduceAdd, Nat.reduceLT, Nat.reduceLeDiff, Nat.mul_one, Nat.zero_add, Nat.mod_one, List.getD_cons_zero, ↓reduceIte, eq_self, true_and, and_true, Bool.not_false, Bool.true_eq_false, Bool.false_eq_true, false_implies, forall_const, implies_true, Int.toNat_natCast]) | refine ev_guard rfl rfl rfl ?_ ?_ | ((with_reducible show retQ _ _ _ _); simp only [eq_self]) | (with_reducible refine hK _ ?_; clear hK K) | (with_reducible refine And.intro ?_ ?_) | (with_reducible intro hc; try simp only [decide_eq_true_eq, decide_eq_false_iff_not, Bool.not_eq_true', Bool.not_eq_false', Bool.not_false, Int.not_lt, reduceCtorEq, Bool.true_eq_false] at hc) | omega)
      all_goals first
        | (exfalso; omega)
        | (exfalso; simp_all; done)
        | (refine ⟨k + 1, by omega, by omega, [0, 1, 2], rfl, by decide, ?_, ?_⟩
           · simp [EntSR, SlR, VE, lookup, sc, VE.rfl', e1]
           · rw [e1]; exact ⟨BE.rfl' _, BE.rfl' _, BE.rfl' _, trivial⟩)
        | trace_state
  · obtain rfl : k = a.length := by omega
    repeat' (first | (with_reducible first | refine then_normal ?_ | refine then_ret ?_ | refine then_exit ?_ | refine block_normal ?_ | refine block_ret ?_) | ((with_reducible show blockQ _ _ _ _); first | refine block_exit ?_ | refine block_exit_ne rfl ?_) | ((with_reducible show AWP _ _ _ _ _); first | (with_reducible first | refine AWP.seq ?_ | refine AWP.block ?_ | refine AWP.region ?_ | refine AWP.ret ?_ | refine AWP.exit ?_ | refine AWP.skip ?_) | refine AWP.drawn rfl (by kernel_rfl) ?_ | refine AWP.cond rfl ?_ ?_) | with_reducible refine ev_nil ?_ | ((first | ((with_reducible show evOps _ _ _ _ _ _); (first | refine ev_step rfl ?_ | refine ev_undef rfl rfl rfl ?_); intro K hK) | ((with_reducible show EvOpen _ _ _ _ _ _ _); refine ev_open ?_; intro K hK) | ((with_reducible show SkOpen _ _ _ _ _ _ _); refine sk_open ?_; intro K hK) | ((with_reducible show callK _ _ _ _ _ _ _ _); first | fail)); simp only [evOp, evQ, binK, withS, opd, kput, putS, upd, lookup, skipOp, loadOwn, InK_i64, appendK, srcK, growK, frz, newBlk, partsK, buildSliceK, plSlice, V.one, Value.oneCell', List.set_cons_zero, List.set_cons_succ, ei_ints, ea_ints, bints, sz_bools, c_bool, List.getElem?_cons_zero, List.getElem?_cons_succ, List.nil_append, List.cons_append, List.length_cons, List.length_nil, Nat.reduceEqDiff, Nat.reduceAdd, Nat.reduceLT, Nat.reduceLeDiff, Nat.mul_one, Nat.zero_add, Nat.mod_one, List.getD_cons_zero, ↓reduceIte, eq_self, true_and, and_true, Bool.not_false, Bool.true_eq_false, Bool.false_eq_true, false_implies, forall_const, implies_true, Int.toNat_natCast]) | refine ev_guard rfl rfl rfl ?_ ?_ | ((with_reducible show retQ _ _ _ _); simp only [eq_self]) | (with_reducible refine hK _ ?_; clear hK K) | (with_reducible refine And.intro ?_ ?_) | (with_reducible intro hc; try simp only [decide_eq_true_eq, decide_eq_false_iff_not, Bool.not_eq_true', Bool.not_eq_false', Bool.not_false, Int.not_lt, reduceCtorEq, Bool.true_eq_false] at hc) | omega)
    all_goals try (exfalso; omega; done)
    all_goals
      refine ⟨_, rfl, ⟨fun i hi => trivial, trivial, trivial⟩, ?_⟩
      simp only [retOk, getL, lookup, Option.map_some, fitsL, fits, ND, srcs, Res.list, VE, List.getElem?_cons_zero, List.getElem?_cons_succ, Nat.reduceEqDiff, ↓reduceIte, and_true, true_and]
      exact ⟨⟨_, rfl, BE.rfl' _⟩, by simp⟩

set_option maxRecDepth 20000 in
theorem implNeedless_fn (a e : List Int) (s : List (List (List Int))) (ha : a.length ≤ 1099511627776) (he : e.length ≤ 1099511627776) (hs : s.length ≤ 1099511627776) (hm : ∀ i, i < s.length → lenM (matAt s i)) :
    Fn Try.prog 44 [autV a e s] (.many [.fr 1 (ndR a e s).1.length (bints (ndR a e s).1), .pv (vb (ndR a e s).2)]) := by
  cases h : autB a e s with
  | true => exact Fn.of_oldF (fun i hi => ⟨_, rfl⟩) (implNeedless_yes a e s h)
  | false =>
    rw [ndR_no h]
    refine Fn.of_body Try.call44 Try.func44 rfl Try.ntmps44 (ts := [2, 3]) rfl (by simp) rfl (fun N => ?_)
    repeat' (first | (with_reducible first | refine then_normal ?_ | refine then_ret ?_ | refine then_exit ?_ | refine block_normal ?_ | refine block_ret ?_) | ((with_reducible show blockQ _ _ _ _); first | refine block_exit ?_ | refine block_exit_ne rfl ?_) | ((with_reducible show AWP _ _ _ _ _); first | (with_reducible first | refine AWP.seq ?_ | refine AWP.block ?_ | refine AWP.region ?_ | refine AWP.ret ?_ | refine AWP.exit ?_ | refine AWP.skip ?_) | refine AWP.drawn rfl (by kernel_rfl) ?_ | refine AWP.cond rfl ?_ ?_) | with_reducible refine ev_nil ?_ | ((first | ((with_reducible show evOps _ _ _ _ _ _); (first | refine ev_step rfl ?_ | refine ev_undef rfl rfl rfl ?_); intro K hK) | ((with_reducible show EvOpen _ _ _ _ _ _ _); refine ev_open ?_; intro K hK) | ((with_reducible show SkOpen _ _ _ _ _ _ _); refine sk_open ?_; intro K hK) | ((with_reducible show callK _ _ _ _ _ _ _ _); first  | (refine call_scalar (isAutomaton_fn a e s ha he hs hm) (Nat.le_of_ble_eq_true rfl) rfl ?_))); simp only [evOp, evQ, withS, opd, kput, putS, upd, lookup, argsK, loadOwn, bringIn, bring, Res.list, Res.slot, slotsOf, frz, newBlk, boxV, c_aut, List.getElem?_cons_zero, List.reverse_cons, List.reverse_nil, List.nil_append, List.length_nil, Nat.reduceEqDiff, Nat.reduceLT, Nat.reduceLeDiff, Nat.zero_add, ↓reduceIte, eq_self, true_and]) | refine ev_guard rfl rfl rfl ?_ ?_ | ((with_reducible show retQ _ _ _ _); simp only [retQ, retOk, getL, lookup, Option.map_some, fitsL, fits, ND, srcs, Res.list, VE, Nat.reduceEqDiff, ↓reduceIte, and_true]) | (with_reducible refine hK _ ?_; clear hK K) | (with_reducible refine And.intro ?_ ?_) | (with_reducible intro hc; try simp only [Bool.not_eq_true', Bool.not_eq_false'] at hc) | omega)
    all_goals first
      | (exfalso; omega)
      | (exfalso; simp_all; done)
      | (rename_i i; rcases (show i = 0 ∨ i = 1 ∨ i = 2 by omega) with rfl | rfl | rfl <;> rfl)
      | (simp [bints]; done)
      | trace_state

open Go.RowKit Go.Proofs
set_option linter.unusedSimpArgs false
set_option linter.unusedVariables false

def HoldS (p : Prop) : Prop := p
theorem AWP.holdS [Cx] {P : Program} {N : Nat} {id : Nat} {ops : Array Oper} {d : Bool} {y : Code} {Q : Exit → ASt → Prop} {s : ASt} (h : HoldS (AWP N P (.seq (.region id ops d) y) Q s)) : AWP N P (.seq (.region id ops d) y) Q s := h

set_option maxHeartbeats 4000000 in
set_option maxRecDepth 20000 in
theorem specNeedless_yes (a e : List Int) (s : List (List (List Int))) (h : autB a e s = true) :
    FnE Try.prog 45 [autV a e s] (fun r => r = .many [.fr 1 (ndR a e s).1.length (bints (ndR a e s).1), .pv (vb (ndR a e s).2)]) := by
  have hg := autB_get h
  have hel := hg.2.2.2.1
  obtain ⟨ha, he, hs, hm⟩ := autB_len h
  have hsq := autB_sq h
  have hr1 := auReach_E a s hsq
  have hr2 := auReach_E e (s.map turnM) (by rw [hel]; exact SqA.turn (by omega) hsq)
  have hz : ∀ (out : List Int), (∀ q, q < e.length → hasI out q = rnd (edF (s.map turnM)) e.length (s.map turnM).length e.length (mkE e) q) → ∀ q, q < a.length → hasI out q = rnd (edB s) a.length s.length a.length (mkE e) q := fun out h q hq => by
    rw [h q (by omega), hel, rnd_turnF hsq]
  rw [ndR_yes h]
  generalize hf : rnd (edB s) a.length s.length a.length (mkE e) = f at hz ⊢
  generalize hgg : rnd (edF s) a.length s.length a.length (mkE a) = g
  refine FnE.of_body (fun N => [oldA N a e s]) (fun _ us h => oldL_rd _ us h) Try.call45 Try.func45 rfl Try.ntmps45 (ts := [2, 3]) rfl (fun _ => by simp) (by rintro r rfl; rfl) (fun N => ?_)
  have hrev := (specReverse_E a e s h).bare (vs' := [oldA N a e s]) ⟨oldA_bare N a e s, trivial⟩
  have hr1' := hr1.bare (vs' := [.old (fun b => b < N) (ints a), .old (fun b => b < N) (mats s)]) ⟨bare_seq _, bare_seq _, trivial⟩
  repeat' (first | ((with_reducible show callEK _ _ _ _ _ _ _) ; simp only [callEK, opd, upd, lookup, argsK, bringIn, Res.list, Res.slot, bints, List.reverse_cons, List.reverse_nil, List.nil_append, List.cons_append, Nat.reduceEqDiff, Nat.reduceLT, ↓reduceIte, eq_self, true_and] ; refine ⟨_, hrev, ?_⟩ ; rintro _ ⟨F, hF, rfl⟩ hnw ; simp only [Res.list, NewL, and_true, true_and] at hnw ; replace hnw := hnw.1 ; simp only [bring]) | (with_reducible first | refine then_normal ?_ | refine then_ret ?_ | refine then_exit ?_ | refine block_normal ?_ | refine block_ret ?_) | ((with_reducible show blockQ _ _ _ _); first | refine block_exit ?_ | refine block_exit_ne rfl ?_) | ((with_reducible show AWP _ _ _ _ _); first | (refine AWP.region_callE (f := 43) (os1 := [_]) ?_) | (refine AWP.holdS (id := 4) ?_) | (with_reducible first | refine AWP.seq ?_ | refine AWP.block ?_ | refine AWP.region ?_ | refine AWP.ret ?_ | refine AWP.exit ?_ | refine AWP.skip ?_) | refine AWP.drawn rfl (by kernel_rfl) ?_ | refine AWP.cond rfl ?_ ?_) | with_reducible refine ev_nil ?_ | ((first | ((with_reducible show evOps _ _ _ _ _ _); (first | refine ev_step rfl ?_ | refine ev_undef rfl rfl rfl ?_); intro K hK) | ((with_reducible show EvOpen _ _ _ _ _ _ _); refine ev_open ?_; intro K hK) | ((with_reducible show SkOpen _ _ _ _ _ _ _); refine sk_open ?_; intro K hK) | ((with_reducible show callK _ _ _ _ _ _ _ _); first  | fail)); simp only [evOp, evQ, withS, opd, kput, putS, upd, lookup, loadOwn, slotsOf, storeK, frz, storeV, setBlk, newBlk, boxV, allocK, List.set_cons_zero, List.set_cons_succ, Nat.zero_le, c_aut, z_aut, List.getElem?_cons_zero, List.getElem?_cons_succ, List.nil_append, List.cons_append, List.length_cons, List.length_nil, Nat.reduceEqDiff, Nat.reduceAdd, Nat.reduceLT, Nat.reduceLeDiff, Nat.zero_add, Nat.sub_zero, ↓reduceIte, eq_self, true_and, Bool.not_true]) | refine ev_guard rfl rfl rfl ?_ ?_ | ((with_reducible show retQ _ _ _ _); simp only [eq_self]) | (with_reducible refine hK _ ?_; clear hK K) | (with_reducible refine And.intro ?_ ?_) | (with_reducible intro hc; try simp only [reduceCtorEq] at hc) | omega)
  all_goals first
    | (exfalso; omega)
    | (exfalso; simp_all; done)
    | exact oldA_one N a e s _ (by assumption)
    | exact hF.one _ (by assumption)
    | skip
  unfold HoldS
  have hb := hF.bare
  have hb0 : Bare (F 0) (ints e) := hb.2 0 (by omega)
  have hb2 : Bare (F 2) (mats (s.map turnM)) := hb.2 2 (by omega)
  have hr2' := hr2.bare (vs' := [F 0, F 2]) ⟨hb0, hb2, trivial⟩
  repeat' (first | ((with_reducible show False) ; trivial) | ((with_reducible show evNx _ _ _ _ _ _); first | (with_reducible refine nx_done ?_) | (refine nx_one rfl ?_) | (refine nx_alt rfl ?_ ?_) | (with_reducible refine nx_st ?_)) | ((with_reducible show evSx _ _ _ _ _ _); first | (with_reducible refine sx_done ?_) | (with_reducible refine sx_st ?_) | (with_reducible refine sx_op ?_)) | ((with_reducible show evTake _ _ _ _ _); with_reducible refine take_nil ?_) | ((with_reducible show evSy _ _ _ _ _ _ _); first | (with_reducible refine sy_done ?_) | (refine sy_last rfl ?_) | (refine sy_one (by decide) rfl ?_) | (refine sy_alt (by decide) rfl ?_ ?_) | (with_reducible refine sy_st ?_)) | ((with_reducible show StK _ _ _); first | fail) | (with_reducible first | refine then_normal ?_ | refine then_ret ?_ | refine then_exit ?_ | refine block_normal ?_ | refine block_ret ?_) | ((with_reducible show blockQ _ _ _ _); first | refine block_exit ?_ | refine block_exit_ne rfl ?_) | ((with_reducible show AWP _ _ _ _ _); first | (refine AWP.seq_cutXr (id := 4) (fun x : List Int × List Int => ⟨[(1, .one (.ptr 0 0)), (6, .one (.own 1 1 0 x.1.length)), (7, .one (.own 2 1 0 x.2.length))], [some ⟨37, 3, fun i => oldV N (autF a e s i)⟩, some (bints x.1), some (bints x.2)], 49⟩) (fun x => (x.1.length ≤ 1000 ∧ ∀ q, q < a.length → hasI x.1 q = g q) ∧ (x.2.length ≤ 1000 ∧ ∀ q, q < a.length → hasI x.2 q = f q)) ?_ ?_) | (refine AWP.drawn_sy (id := 4) 11 [0, 1, 2, 3, 5, 6, 7, 8] (.one 4 (.one 9 (.take 10 (.one 11 .done)))) rfl (by kernel_rfl) ?_) | (with_reducible first | refine AWP.seq ?_ | refine AWP.block ?_ | refine AWP.region ?_ | refine AWP.ret ?_ | refine AWP.exit ?_ | refine AWP.skip ?_) | refine AWP.drawn rfl (by kernel_rfl) ?_ | refine AWP.cond rfl ?_ ?_) | with_reducible refine ev_nil ?_ | ((first | ((with_reducible show evNx _ _ _ _ _ _); refine nx_take rfl ?_; intro K hK) | ((with_reducible show Ax _ _ _ _ _); first | (refine ax_callE (f := 134) ?_) | (refine ax_callE (f := 134) ?_) | (refine ax_op rfl ?_; intro K hK)) | ((with_reducible show evTake _ _ _ _ _); refine take_step rfl ?_; intro K hK) | ((with_reducible show evSy _ _ _ _ _ _ _); refine sy_take rfl ?_; intro K hK) | ((with_reducible show AxB _ _ _ _ _); first | (refine axb_callE (f := 134) ?_) | (refine axb_callE (f := 134) ?_) | (refine axb_op rfl rfl ?_; intro K hK)) | (refine ⟨_, hr1', ?_⟩; rintro _ ⟨out, hout, hol, rfl⟩ hn1; simp only [Res.list, NewL, and_true, true_and] at hn1) | (refine ⟨_, hr2', ?_⟩; rintro _ ⟨out2, hout2, hol2, rfl⟩ hn2; simp only [Res.list, NewL, and_true, true_and] at hn2) | ((with_reducible show evOps _ _ _ _ _ _); (first | refine ev_step rfl ?_ | refine ev_undef rfl rfl rfl ?_); intro K hK) | ((with_reducible show EvOpen _ _ _ _ _ _ _); refine ev_open ?_; intro K hK) | ((with_reducible show SkOpen _ _ _ _ _ _ _); refine sk_open ?_; intro K hK) | ((with_reducible show callK _ _ _ _ _ _ _ _); first  | fail)); simp only [callEK, evOp, evQ, withS, opd, kput, putS, upd, lookup, argsK, loadOwn, bringIn, bring, Res.list, Res.slot, bints, c_ints, c_mats, fa0, fa2, autF_0, autF_2, oldV_seq, List.getElem?_cons_zero, List.getElem?_cons_succ, List.reverse_cons, List.reverse_nil, List.nil_append, List.cons_append, List.length_cons, List.length_nil, Nat.reduceEqDiff, Nat.reduceAdd, Nat.reduceLT, Nat.add_zero, Nat.zero_add, ↓reduceIte, eq_self, true_and]) | refine ev_guard rfl rfl rfl ?_ ?_ | ((with_reducible show retQ _ _ _ _); simp only [eq_self]) | (with_reducible refine hK _ ?_; clear hK K) | (with_reducible refine And.intro ?_ ?_) | (with_reducible intro hc; try simp only [eq_self] at hc) | omega)
  all_goals try (exfalso; omega; done)
  · exact ⟨(out, out2), ⟨⟨by show out.length ≤ 1000; have := hsq.2.1; omega, fun q hq => (hout q hq).trans (by rw [hgg])⟩, ⟨by show out2.length ≤ 1000; have := hsq.2.1; omega, hz out2 hout2⟩⟩, [0, 2, 3], rfl, by decide, by simp [EntSR, SlR, VE, lookup, sc, VE.rfl'], BE.rfl' _, BE.rfl' _, BE.rfl' _, trivial⟩
  unfold Later
  clear hnw hF hb hb0 hb2 hr2' hrev hr1' hr1 hr2 hz
  rintro ⟨x, y⟩ ⟨⟨hx1, hx2⟩, hy1, hy2⟩
  dsimp only at hx1 hx2 hy1 hy2 ⊢
  refine AWP.seq_cutR ⟨[(1, .one (.ptr 0 0)), (6, .one (.own 1 1 0 x.length)), (7, .one (.own 2 1 0 y.length)), (8, sc (.slice none 0 0))], [some ⟨37, 3, fun i => oldV N (autF a e s i)⟩, some (bints x), some (bints y)], 49⟩ ?_ (AWP.virtual 8 3 1 rfl ?_)
  · repeat' (first | (with_reducible first | refine then_normal ?_ | refine then_ret ?_ | refine then_exit ?_ | refine block_normal ?_ | refine block_ret ?_) | ((with_reducible show blockQ _ _ _ _); first | refine block_exit ?_ | refine block_exit_ne rfl ?_) | ((with_reducible show AWP _ _ _ _ _); first | (with_reducible first | refine AWP.seq ?_ | refine AWP.block ?_ | refine AWP.region ?_ | refine AWP.ret ?_ | refine AWP.exit ?_ | refine AWP.skip ?_) | refine AWP.drawn rfl (by kernel_rfl) ?_ | refine AWP.cond rfl ?_ ?_) | with_reducible refine ev_nil ?_ | ((first | ((with_reducible show evOps _ _ _ _ _ _); (first | refine ev_step rfl ?_ | refine ev_undef rfl rfl rfl ?_); intro K hK) | ((with_reducible show EvOpen _ _ _ _ _ _ _); refine ev_open ?_; intro K hK) | ((with_reducible show SkOpen _ _ _ _ _ _ _); refine sk_open ?_; intro K hK) | ((with_reducible show callK _ _ _ _ _ _ _ _); first | fail)); simp only [evOp, evQ, withS, opd, kput, putS, upd, bints, Nat.reduceEqDiff, Nat.reduceLT, ↓reduceIte, true_and]) | refine ev_guard rfl rfl rfl ?_ ?_ | ((with_reducible show retQ _ _ _ _); simp only [eq_self]) | (with_reducible refine hK _ ?_; clear hK K) | (with_reducible refine And.intro ?_ ?_) | (with_reducible intro hc; try simp only [eq_self] at hc) | omega)
    all_goals exact ⟨[0, 1, 2], rfl, by decide, by simp [EntSR, SlR, VE, lookup, sc, VE.rfl'], BE.rfl' _, BE.rfl' _, BE.rfl' _, trivial⟩
  simp only [upd, bints, List.nil_append, List.cons_append, List.length_cons, List.length_nil, Nat.reduceEqDiff, Nat.reduceAdd, Nat.zero_add, ↓reduceIte, eq_self]
  repeat' (first | (with_reducible first | refine then_normal ?_ | refine then_ret ?_ | refine then_exit ?_ | refine block_normal ?_ | refine block_ret ?_) | ((with_reducible show blockQ _ _ _ _); first | refine block_exit ?_ | refine block_exit_ne rfl ?_) | ((with_reducible show AWP _ _ _ _ _); first | (with_reducible first | refine AWP.seq ?_ | refine AWP.block ?_ | refine AWP.region ?_ | refine AWP.ret ?_ | refine AWP.exit ?_ | refine AWP.skip ?_) | refine AWP.drawn rfl (by kernel_rfl) ?_ | refine AWP.cond rfl ?_ ?_) | with_reducible refine ev_nil ?_ | ((first | ((with_reducible show evOps _ _ _ _ _ _); (first | refine ev_step rfl ?_ | refine ev_undef rfl rfl rfl ?_); intro K hK) | ((with_reducible show EvOpen _ _ _ _ _ _ _); refine ev_open ?_; intro K hK) | ((with_reducible show SkOpen _ _ _ _ _ _ _); refine sk_open ?_; intro K hK) | ((with_reducible show callK _ _ _ _ _ _ _ _); first | fail)); simp only [evOp, evQ, evB, withS, opd, kput, putS, upd, lookup, loadOwn, sz_ints, c_ints, fa0, autF_0, oldV_seq, List.getElem?_cons_zero, Nat.reduceEqDiff, Nat.reduceLT, Nat.add_zero, ↓reduceIte, eq_self, true_and, Option.isSome_some]) | refine ev_guard rfl rfl rfl ?_ ?_ | ((with_reducible show retQ _ _ _ _); simp only [eq_self]) | (with_reducible refine hK _ ?_; clear hK K) | (with_reducible refine And.intro ?_ ?_) | (with_reducible intro hc; try simp only [eq_self] at hc) | omega)
  all_goals try (exfalso; omega; done)
  refine AWP.loop_entR [0, 1, 2, 3] (fun k : Nat => ⟨[(1, .one (.ptr 0 0)), (6, .one (.own 1 1 0 x.length)), (7, .one (.own 2 1 0 y.length)), (8, .one (.own 3 1 0 (ndL f g k).length)), (29, sc (.int .i64 a.length)), (30, sc (.int .i64 k))], [some ⟨37, 3, fun i => oldV N (autF a e s i)⟩, some (bints x), some (bints y), some (bints (ndL f g k))], 49⟩)
    (fun k => k ≤ a.length) (fun k => a.length - k) 0 (by omega) ?_ ?_
  · exact ⟨rfl, by decide, by simp [EntSR, SlR, VE, lookup, sc, VE.rfl', ndL], BE.rfl' _, BE.rfl' _, BE.rfl' _, ⟨rfl, Nat.le_refl _, fun i hi => by simp [bints, ndL] at hi⟩, trivial⟩
  intro k hk
  have hle := ndL_le f g k
  by_cases hkl : k < a.length
  · have h1 := l1Has_fn x k (by omega)
    have h2 := l1Has_fn y k (by omega)
    rw [hx2 k hkl] at h1
    rw [hy2 k hkl] at h2
    by_cases hc : (!f k || !g k) = true
    · have e1 := ndL_yes hc
      repeat' (first | (with_reducible first | refine then_normal ?_ | refine then_ret ?_ | refine then_exit ?_ | refine block_normal ?_ | refine block_ret ?_) | ((with_reducible show blockQ _ _ _ _); first | refine block_exit ?_ | refine block_exit_ne rfl ?_) | ((with_reducible show AWP _ _ _ _ _); first | (with_reducible first | refine AWP.seq ?_ | refine AWP.block ?_ | refine AWP.region ?_ | refine AWP.ret ?_ | refine AWP.exit ?_ | refine AWP.skip ?_) | refine AWP.drawn rfl (by kernel_rfl) ?_ | refine AWP.cond rfl ?_ ?_) | with_reducible refine ev_nil ?_ | ((first | ((with_reducible show evOps _ _ _ _ _ _); (first | refine ev_step rfl ?_ | refine ev_undef rfl rfl rfl ?_); intro K hK) | ((with_reducible show EvOpen _ _ _ _ _ _ _); refine ev_open ?_; intro K hK) | ((with_reducible show SkOpen _ _ _ _ _ _ _); refine sk_open ?_; intro K hK) | ((with_reducible show callK _ _ _ _ _ _ _ _); first  | (refine call_scalar (h1) (Nat.le_of_ble_eq_true rfl) rfl ?_) | (refine call_scalar (h2) (Nat.le_of_ble_eq_true rfl) rfl ?_))); simp only [evOp, evQ, binK, withS, opd, kput, putS, upd, lookup, skipOp, argsK, bringIn, bring, Res.list, Res.slot, InK_i64, appendK, srcK, growK, frz, newBlk, partsK, buildSliceK, plSlice, V.one, Value.oneCell', List.set_cons_zero, List.set_cons_succ, ei_ints, ea_ints, bints, List.getElem?_cons_zero, List.getElem?_cons_succ, List.reverse_cons, List.reverse_nil, List.nil_append, List.cons_append, List.length_cons, List.length_nil, Nat.reduceEqDiff, Nat.reduceAdd, Nat.reduceLT, Nat.reduceLeDiff, Nat.mul_one, Nat.zero_add, Nat.mod_one, List.getD_cons_zero, ↓reduceIte, eq_self, true_and, and_true, Bool.not_false, Bool.true_eq_false, Bool.false_eq_true, false_implies, forall_const, implies_true]) | refine ev_guard rfl rfl rfl ?_ ?_ | ((with_reducible show retQ _ _ _ _); simp only [eq_self]) | (with_reducible refine hK _ ?_; clear hK K) | (with_reducible refine And.intro ?_ ?_) | (with_reducible intro hc; try simp only [decide_eq_true_eq, decide_eq_false_iff_not, Bool.not_eq_true', Bool.not_eq_false', Bool.not_false, Int.not_lt, reduceCtorEq, Bool.true_eq_false] at hc) | omega)
      all_goals first
        | (exfalso; omega)
        | (exfalso; simp_all; done)
        | (rename_i q; obtain rfl : q = 0 := (by omega); rfl)
        | (refine ⟨k + 1, by omega, by omega, [0, 1, 2, 5], rfl, by decide, ?_, ?_⟩
           · simp [EntSR, SlR, VE, lookup, sc, VE.rfl', e1]
           · rw [e1]; exact ⟨BE.rfl' _, BE.rfl' _, BE.rfl' _, app_be, trivial⟩)
        | trace_state
    · have e1 := ndL_no hc
      repeat' (first | (with_reducible first | refine then_normal ?_ | refine then_ret ?_ | refine then_exit ?_ | refine block_normal ?_ | refine block_ret ?_) | ((with_reducible show blockQ _ _ _ _); first | refine block_exit ?_ | refine block_exit_ne rfl ?_) | ((with_reducible show AWP _ _ _ _ _); first | (with_reducible first | refine AWP.seq ?_ | refine AWP.block ?_ | refine AWP.region ?_ | refine AWP.ret ?_ | refine AWP.exit ?_ | refine AWP.skip ?_) | refine AWP.drawn rfl (by kernel_rfl) ?_ | refine AWP.cond rfl ?_ ?_) | with_reducible refine ev_nil ?_ | ((first | ((with_reducible show evOps _ _ _ _ _ _); (first | refine ev_step rfl ?_ | refine ev_undef rfl rfl rfl ?_); intro K hK) | ((with_reducible show EvOpen _ _ _ _ _ _ _); refine ev_open ?_; intro K hK) | ((with_reducible show SkOpen _ _ _ _ _ _ _); refine sk_open ?_; intro K hK) | ((with_reducible show callK _ _ _ _ _ _ _ _); first  | (refine call_scalar (h1) (Nat.le_of_ble_eq_true rfl) rfl ?_) | (refine call_scalar (h2) (Nat.le_of_ble_eq_true rfl) rfl ?_))); simp only [evOp, evQ, binK, withS, opd, kput, putS, upd, lookup, skipOp, argsK, bringIn, bring, Res.list, Res.slot, InK_i64, appendK, srcK, growK, frz, newBlk, partsK, buildSliceK, plSlice, V.one, Value.oneCell', List.set_cons_zero, List.set_cons_succ, ei_ints, ea_ints, bints, List.getElem?_cons_zero, List.getElem?_cons_succ, List.reverse_cons, List.reverse_nil, List.nil_append, List.cons_append, List.length_cons, List.length_nil, Nat.reduceEqDiff, Nat.reduceAdd, Nat.reduceLT, Nat.reduceLeDiff, Nat.mul_one, Nat.zero_add, Nat.mod_one, List.getD_cons_zero, ↓reduceIte, eq_self, true_and, and_true, Bool.not_false, Bool.true_eq_false, Bool.false_eq_true, false_implies, forall_const, implies_true]) | refine ev_guard rfl rfl rfl ?_ ?_ | ((with_reducible show retQ _ _ _ _); simp only [eq_self]) | (with_reducible refine hK _ ?_; clear hK K) | (with_reducible refine And.intro ?_ ?_) | (with_reducible intro hc; try simp only [decide_eq_true_eq, decide_eq_false_iff_not, Bool.not_eq_true', Bool.not_eq_false', Bool.not_false, Int.not_lt, reduceCtorEq, Bool.true_eq_false] at hc) | omega)
      all_goals first
        | (exfalso; omega)
        | (exfalso; simp_all; done)
        | (refine ⟨k + 1, by omega, by omega, [0, 1, 2, 3], rfl, by decide, ?_, ?_⟩
           · simp [EntSR, SlR, VE, lookup, sc, VE.rfl', e1]
           · rw [e1]; exact ⟨BE.rfl' _, BE.rfl' _, BE.rfl' _, BE.rfl' _, trivial⟩)
        | trace_state
  · obtain rfl : k = a.length := by omega
    repeat' (first | (with_reducible first | refine then_normal ?_ | refine then_ret ?_ | refine then_exit ?_ | refine block_normal ?_ | refine block_ret ?_) | ((with_reducible show blockQ _ _ _ _); first | refine block_exit ?_ | refine block_exit_ne rfl ?_) | ((with_reducible show AWP _ _ _ _ _); first | (with_reducible first | refine AWP.seq ?_ | refine AWP.block ?_ | refine AWP.region ?_ | refine AWP.ret ?_ | refine AWP.exit ?_ | refine AWP.skip ?_) | refine AWP.drawn rfl (by kernel_rfl) ?_ | refine AWP.cond rfl ?_ ?_) | with_reducible refine ev_nil ?_ | ((first | ((with_reducible show evOps _ _ _ _ _ _); (first | refine ev_step rfl ?_ | refine ev_undef rfl rfl rfl ?_); intro K hK) | ((with_reducible show EvOpen _ _ _ _ _ _ _); refine ev_open ?_; intro K hK) | ((with_reducible show SkOpen _ _ _ _ _ _ _); refine sk_open ?_; intro K hK) | ((with_reducible show callK _ _ _ _ _ _ _ _); first | fail)); simp only [evOp, evQ, binK, withS, opd, kput, putS, upd, lookup, argsK, bints, List.getElem?_cons_zero, List.getElem?_cons_succ, List.reverse_cons, List.reverse_nil, List.nil_append, List.cons_append, Nat.reduceEqDiff, Nat.reduceLT, Nat.mul_one, Nat.zero_add, ↓reduceIte, eq_self, true_and]) | refine ev_guard rfl rfl rfl ?_ ?_ | ((with_reducible show retQ _ _ _ _); simp only [eq_self]) | (with_reducible refine hK _ ?_; clear hK K) | (with_reducible refine And.intro ?_ ?_) | (with_reducible intro hc; try simp only [decide_eq_true_eq, decide_eq_false_iff_not, Int.not_lt] at hc) | omega)
    all_goals try (exfalso; omega; done)
    all_goals
      refine ⟨_, rfl, ⟨fun i hi => trivial, trivial, trivial⟩, ?_⟩
      simp only [retOk, getL, lookup, Option.map_some, fitsL, fits, ND, srcs, Res.list, VE, List.getElem?_cons_zero, List.getElem?_cons_succ, Nat.reduceEqDiff, ↓reduceIte, and_true, true_and]
      exact ⟨⟨_, rfl, BE.rfl' _⟩, by simp⟩

set_option maxRecDepth 20000 in
theorem specNeedless_fn (a e : List Int) (s : List (List (List Int))) (ha : a.length ≤ 1099511627776) (he : e.length ≤ 1099511627776) (hs : s.length ≤ 1099511627776) (hm : ∀ i, i < s.length → lenM (matAt s i)) :
    Fn Try.prog 45 [autV a e s] (.many [.fr 1 (ndR a e s).1.length (bints (ndR a e s).1), .pv (vb (ndR a e s).2)]) := by
  refine Fn.of_oldF (fun i hi => ⟨_, rfl⟩) ?_
  cases h : autB a e s with
  | true => exact specNeedless_yes a e s h
  | false =>
    rw [ndR_no h]
    refine FnE.of_body (fun N => [oldA N a e s]) (fun _ us h => oldL_rd _ us h) Try.call45 Try.func45 rfl Try.ntmps45 (ts := [2, 3]) rfl (fun _ => by simp) (by rintro r rfl; rfl) (fun N => ?_)
    have hrev := (specReverse_no a e s ha he hs hm h).bare (vs' := [oldA N a e s]) ⟨oldA_bare N a e s, trivial⟩
    repeat' (first | ((with_reducible show callEK _ _ _ _ _ _ _) ; simp only [callEK, opd, upd, lookup, argsK, bringIn, Res.list, Res.slot, bints, List.reverse_cons, List.reverse_nil, List.nil_append, List.cons_append, List.length_nil, Nat.reduceEqDiff, Nat.reduceLT, ↓reduceIte, eq_self, true_and] ; refine ⟨_, hrev, ?_⟩ ; rintro _ ⟨F, hF, rfl⟩ hnw ; simp only [Res.list, NewL, and_true, true_and] at hnw ; replace hnw := hnw.1 ; simp only [bring]) | (with_reducible first | refine then_normal ?_ | refine then_ret ?_ | refine then_exit ?_ | refine block_normal ?_ | refine block_ret ?_) | ((with_reducible show blockQ _ _ _ _); first | refine block_exit ?_ | refine block_exit_ne rfl ?_) | ((with_reducible show AWP _ _ _ _ _); first | (refine AWP.region_callE (f := 43) (os1 := [_]) ?_) | (with_reducible first | refine AWP.seq ?_ | refine AWP.block ?_ | refine AWP.region ?_ | refine AWP.ret ?_ | refine AWP.exit ?_ | refine AWP.skip ?_) | refine AWP.drawn rfl (by kernel_rfl) ?_ | refine AWP.cond rfl ?_ ?_) | with_reducible refine ev_nil ?_ | ((first | ((with_reducible show evOps _ _ _ _ _ _); (first | refine ev_step rfl ?_ | refine ev_undef rfl rfl rfl ?_); intro K hK) | ((with_reducible show EvOpen _ _ _ _ _ _ _); refine ev_open ?_; intro K hK) | ((with_reducible show SkOpen _ _ _ _ _ _ _); refine sk_open ?_; intro K hK) | ((with_reducible show callK _ _ _ _ _ _ _ _); first  | fail)); simp only [evOp, evQ, withS, opd, kput, putS, upd, lookup, loadOwn, slotsOf, storeK, frz, storeV, setBlk, newBlk, boxV, allocK, List.set_cons_zero, List.set_cons_succ, Nat.zero_le, c_aut, z_aut, List.getElem?_cons_zero, List.getElem?_cons_succ, List.nil_append, List.cons_append, List.length_cons, List.length_nil, Nat.reduceEqDiff, Nat.reduceAdd, Nat.reduceLT, Nat.reduceLeDiff, Nat.zero_add, Nat.sub_zero, ↓reduceIte, eq_self, true_and, Bool.not_false]) | refine ev_guard rfl rfl rfl ?_ ?_ | ((with_reducible show retQ _ _ _ _); simp only [eq_self]) | (with_reducible refine hK _ ?_; clear hK K) | (with_reducible refine And.intro ?_ ?_) | (with_reducible intro hc; try simp only [Bool.true_eq_false] at hc) | omega)
    all_goals first
      | (exfalso; omega)
      | (exfalso; simp_all; done)
      | exact oldA_one N a e s _ (by assumption)
      | exact hF.one _ (by assumption)
      | skip
    all_goals
      refine ⟨_, rfl, ⟨fun i hi => trivial, trivial, trivial⟩, ?_⟩
      simp only [retOk, getL, lookup, Option.map_some, fitsL, fits, ND, srcs, Res.list, VE, Nat.reduceEqDiff, ↓reduceIte, and_true]

end Go.Proofs.Ytpimjkhfookipaa
