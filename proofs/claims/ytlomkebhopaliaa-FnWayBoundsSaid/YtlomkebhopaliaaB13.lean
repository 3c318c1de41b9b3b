/- Parts of the proof of LawFnWayBounds: contracts of functions, laws of an abstract state, plain facts. No conditions. -/
import Derived.Test.YtlomkebhopaliaaB12
namespace Go.Proofs.Ytlomkebhopaliaa
open Go.RowKit Go.Proofs
set_option linter.unusedSimpArgs false
set_option linter.unusedVariables false
set_option maxRecDepth 20000
theorem z_int : zeroOf Try.prog 3 = some [.int .i64 0] := by kernel_rfl
theorem AWP.then_cut [Cx] {P : Program} {N : Nat} {c x : Code} {Q Q' : Exit → ASt → Prop} {s : ASt} (s1 : ASt) (h : AWP N P c (thenQ (fun s' => ∃ m, EntR m s' s1) Q') s) (h' : AWP N P x Q s1) : AWP N P c (thenQ (AWP N P x Q) Q') s :=
  fun w0 S0 a w hN sim => wp_mono (h w0 S0 a w hN sim) fun e a' w' ⟨s', hq, sim'⟩ => by
    cases e with
    | normal => obtain ⟨m, hq⟩ := hq; obtain ⟨w1, hR, sim'⟩ := sim'; exact ⟨s1, h', w1, hR, EntR.sim hq sim'⟩
    | _ => exact ⟨s', hq, sim'⟩
theorem cheap1_fn (l : List Int) (f : Nat) (d : Int) (hf : f < l.length) : Fn Try.prog 34 [ints l, .pin 1 fun _ => vi f, .pin 1 fun _ => vi d] (.one (.pv (vb (l.getD f 0 == d)))) := by
  refine Fn.of_body Try.call34 Try.func34 rfl Try.ntmps34 (ts := [4]) rfl (by simp) rfl (fun N => ?_)
  repeat' (first | (with_reducible first | refine then_normal ?_ | refine then_ret ?_ | refine then_exit ?_ | refine block_normal ?_ | refine block_ret ?_) | ((with_reducible show blockQ _ _ _ _); first | refine block_exit ?_ | refine block_exit_ne rfl ?_) | ((with_reducible show AWP _ _ _ _ _); first | (with_reducible first | refine AWP.seq ?_ | refine AWP.block ?_ | refine AWP.region ?_ | refine AWP.ret ?_ | refine AWP.exit ?_ | refine AWP.skip ?_) | refine AWP.drawn rfl (by kernel_rfl) ?_ | refine AWP.cond rfl ?_ ?_) | with_reducible refine ev_nil ?_ | ((first | ((with_reducible show evOps _ _ _ _ _ _); (first | refine ev_step rfl ?_ | refine ev_undef rfl rfl rfl ?_); intro K hK) | ((with_reducible show EvOpen _ _ _ _ _ _ _); refine ev_open ?_; intro K hK) | ((with_reducible show SkOpen _ _ _ _ _ _ _); refine sk_open ?_; intro K hK) | ((with_reducible show callK _ _ _ _ _ _ _ _); first | fail)); simp only [evOp, evQ, binK, withS, opd, kput, putS, upd, lookup, slotsOf, sz_ints, c_int, Nat.reduceEqDiff, Nat.reduceAdd, Nat.reduceLT, Nat.mul_one, Nat.add_zero, Nat.zero_add, ↓reduceIte, eq_self, true_and, Int.toNat_natCast]) | refine ev_guard rfl rfl rfl ?_ ?_ | ((with_reducible show retQ _ _ _ _); simp only [retQ, retOk, getL, lookup, Option.map_some, fitsL, fits, ND, srcs, Res.list, VE, Nat.reduceEqDiff, ↓reduceIte, and_true]) | (with_reducible refine hK _ ?_; clear hK K) | (with_reducible refine And.intro ?_ ?_) | (with_reducible intro hc; try simp only [eq_self] at hc) | omega)
  all_goals first
    | rfl
    | (exfalso; omega)
    | trace_state
set_option maxHeartbeats 8000000 in
theorem implCheapest_ok (m : List (List Int)) (f t : Nat) (h : squB m = true) (hf : f < m.length) (ht : t < m.length) (hok : flOk m = true) (hfi0 : ent (dOf m) f t ≠ 1000000000) : FnE Try.prog 9 [rows m, vi f, vi t] (chE m f t) := by
  obtain ⟨hn, hr, hm⟩ := squB_parts h
  have hT : chT m f t = true := chT_all h (inB_true.2 (by omega)) (inB_true.2 (by omega)) hok (by rw [Int.toNat_natCast, Int.toNat_natCast]; exact hfi0)
  have hsq := isSquare_fn m (by omega) (fun i hi => by have := hr i hi; omega)
  have hco := implCosts_fn m h
  have hex := byStep_fn m t h ht
  have lD := dOf_lens m
  have lE := exL_len m t (m.length + 1)
  have rE : ∀ i, i < m.length + 1 → (rowAt (exL m t (m.length + 1)) i) = exR m t i := fun i hi => exL_row hi
  have rE' : ∀ i, i < m.length + 1 → (rowAt (exL m t (m.length + 1)) i).length = m.length := fun i hi => by rw [rE i hi, exR_len]
  have gE : ∀ i v, i < m.length + 1 → v < m.length → (rowAt (exL m t (m.length + 1)) i).getD v 0 = exN m t i v := fun i v hi hv => by rw [rE i hi, exR_get hv]
  obtain ⟨s0, hs0, hs1, hs2⟩ := first_step h hok hf ht hfi0
  have hv := fun (g : Nat → V) (h0 : g 0 = vi f) (h1 : g 1 = vi t) => areVertices_fn m 2 g (fun i => if i = 0 then f else t) (by omega) (by decide) fun i hi => by
    rcases (show i = 0 ∨ i = 1 by omega) with rfl | rfl
    · exact h0
    · exact h1
  have hvt : vertB m.length (fun i => if i = 0 then (f : Int) else t) 2 = true := by
    refine allN_true fun i hi => ?_
    rcases (show i = 0 ∨ i = 1 by omega) with rfl | rfl
    · exact inB_true.2 (by show 0 ≤ (f : Int) ∧ (f : Int) ≤ _; omega)
    · exact inB_true.2 (by show 0 ≤ (t : Int) ∧ (t : Int) ≤ _; omega)
  rw [hvt] at hv
  rw [h] at hsq
  rw [hok] at hco
  simp only [if_true] at hco
  generalize exL m t (m.length + 1) = E at *
  have hdn : (rowAt (dOf m) f).getD t 0 = ent (dOf m) f t := rfl
  have hix := indexFunc_fn E.length (fun i => ints (rowAt E i)) 34 2 (fun i => [V.pin 1 fun _ => vi f, V.pin 1 fun _ => vi (ent (dOf m) f t)].getD i (.val undef)) (fun i => (rowAt E i).getD f 0 == ent (dOf m) f t) (by omega) (fun i hi => cheap1_fn (rowAt E i) f (ent (dOf m) f t) (by rw [rE' i (by omega)]; exact hf))
  have hfi : firstN (fun i => (rowAt E i).getD f 0 == ent (dOf m) f t) E.length = s0 := firstN_at (fun i hi => beq_eq_false_iff_ne.2 (by rw [gE i f (by omega) hf]; exact hs2 i hi)) (beq_iff_eq.2 (by rw [gE s0 f (by omega) hf]; exact hs1)) (by omega)
  rw [hfi] at hix
  refine FnE.of_body (fun N => [rows m, vi f, vi t]) (fun _ _ h => h) Try.call9 Try.func9 rfl Try.ntmps9 (ts := [6, 7]) rfl (fun _ => by simp) (chE.shape) (fun N => ?_)
  repeat' (first | (with_reducible first | refine then_normal ?_ | refine then_ret ?_ | refine then_exit ?_ | refine block_normal ?_ | refine block_ret ?_) | ((with_reducible show blockQ _ _ _ _); first | refine block_exit ?_ | refine block_exit_ne rfl ?_) | ((with_reducible show AWP _ _ _ _ _); first | (refine AWP.holdW (id := 1) ?_) | (with_reducible first | refine AWP.seq ?_ | refine AWP.block ?_ | refine AWP.region ?_ | refine AWP.ret ?_ | refine AWP.exit ?_ | refine AWP.skip ?_) | refine AWP.drawn rfl (by kernel_rfl) ?_ | refine AWP.cond rfl ?_ ?_) | with_reducible refine ev_nil ?_ | ((first | ((with_reducible show evOps _ _ _ _ _ _); (first | refine ev_step rfl ?_ | refine ev_undef rfl rfl rfl ?_); intro K hK) | ((with_reducible show EvOpen _ _ _ _ _ _ _); refine ev_open ?_; intro K hK) | ((with_reducible show SkOpen _ _ _ _ _ _ _); refine sk_open ?_; intro K hK) | ((with_reducible show callK _ _ _ _ _ _ _ _); first  | fail)); simp only [evOp, evQ, withS, opd, kput, putS, upd, lookup, slotsOf, frz, newBlk, boxV, V.one, Value.oneCell', List.nil_append, List.length_nil, Nat.reduceEqDiff, Nat.reduceAdd, Nat.reduceLT, Nat.zero_add, ↓reduceIte, eq_self, true_and]) | refine ev_guard rfl rfl rfl ?_ ?_ | ((with_reducible show retQ _ _ _ _); simp only [eq_self]) | (with_reducible refine hK _ ?_; clear hK K) | (with_reducible refine And.intro ?_ ?_) | (with_reducible intro hc; try simp only [eq_self] at hc) | omega)
  unfold HoldW
  refine AWP.freeze 4 0 rfl rfl ?_
  repeat' (first | (with_reducible first | refine then_normal ?_ | refine then_ret ?_ | refine then_exit ?_ | refine block_normal ?_ | refine block_ret ?_) | ((with_reducible show blockQ _ _ _ _); first | refine block_exit ?_ | refine block_exit_ne rfl ?_) | ((with_reducible show AWP _ _ _ _ _); first | (refine AWP.holdW (id := 6) ?_) | (with_reducible first | refine AWP.seq ?_ | refine AWP.block ?_ | refine AWP.region ?_ | refine AWP.ret ?_ | refine AWP.exit ?_ | refine AWP.skip ?_) | refine AWP.drawn rfl (by kernel_rfl) ?_ | refine AWP.cond rfl ?_ ?_) | with_reducible refine ev_nil ?_ | ((first | ((with_reducible show evOps _ _ _ _ _ _); (first | refine ev_step rfl ?_ | refine ev_undef rfl rfl rfl ?_); intro K hK) | ((with_reducible show EvOpen _ _ _ _ _ _ _); refine ev_open ?_; intro K hK) | ((with_reducible show SkOpen _ _ _ _ _ _ _); refine sk_open ?_; intro K hK) | ((with_reducible show callK _ _ _ _ _ _ _ _); first  | (refine call_scalar (hsq) (Nat.le_of_ble_eq_true rfl) rfl ?_) | (refine call_scalar (hv _ rfl rfl) (Nat.le_of_ble_eq_true rfl) rfl ?_) | (refine call_pure ( hco) (Nat.le_of_ble_eq_true rfl) ?_))); simp only [evOp, evQ, binK, withS, opd, kput, putS, upd, lookup, argsK, bringIn, bring, Res.list, Res.slot, frz, newBlk, partsK, buildSliceK, plSlice, V.one, Value.oneCell', List.set_cons_zero, sz_ints, c_int, ei_ints, ea_ints, sz_rows, c_ints, List.getElem?_cons_zero, List.getElem?_cons_succ, List.reverse_cons, List.reverse_nil, List.nil_append, List.cons_append, List.length_cons, List.length_nil, Nat.reduceEqDiff, Nat.reduceLT, Nat.reduceLeDiff, Nat.mul_one, Nat.add_zero, Nat.zero_add, Nat.mod_one, List.getD_cons_zero, ↓reduceIte, eq_self, true_and, Bool.not_true, Bool.false_eq_true, false_implies, forall_const, Int.toNat_natCast]) | refine ev_guard rfl rfl rfl ?_ ?_ | ((with_reducible show retQ _ _ _ _); simp only [eq_self]) | (with_reducible refine hK _ ?_; clear hK K) | (with_reducible refine And.intro ?_ ?_) | (with_reducible intro hc; try simp only [beq_iff_eq, beq_eq_false_iff_ne, Bool.not_false, ne_eq, reduceCtorEq] at hc) | omega)
  all_goals try (exfalso; omega; done)
  all_goals try omega
  all_goals try (rw [lD.2 _ (by omega)]; omega)
  all_goals try (exfalso; simp_all; done)
  unfold HoldW
  refine AWP.then_cut ⟨[(0, .one (.pv (rows m))), (1, sc (.int .i64 f)), (2, sc (.int .i64 t)), (4, .one (.pv (.pin 1 fun _ => vi f))), (10, .one (.ptr 0 0)), (11, .one (.pv (rows E)))], [some ⟨3, 1, fun _ => vi (ent (dOf m) f t)⟩], 123⟩ ?_ ?_
  · repeat' (first | ((with_reducible show evNx _ _ _ _ _ _); first | (with_reducible refine nx_done ?_) | (refine nx_one rfl ?_) | (refine nx_alt rfl ?_ ?_) | (with_reducible refine nx_st ?_)) | ((with_reducible show evSx _ _ _ _ _ _); first | (with_reducible refine sx_done ?_) | (with_reducible refine sx_st ?_) | (with_reducible refine sx_op ?_)) | ((with_reducible show evTake _ _ _ _ _); with_reducible refine take_nil ?_) | ((with_reducible show evSy _ _ _ _ _ _ _); first | (with_reducible refine sy_done ?_) | (refine sy_last rfl ?_) | (refine sy_one (by decide) rfl ?_) | (refine sy_alt (by decide) rfl ?_ ?_) | (with_reducible refine sy_st ?_)) | ((with_reducible show StK _ _ _); first | fail) | (with_reducible first | refine then_normal ?_ | refine then_ret ?_ | refine then_exit ?_ | refine block_normal ?_ | refine block_ret ?_) | ((with_reducible show blockQ _ _ _ _); first | refine block_exit ?_ | refine block_exit_ne rfl ?_) | ((with_reducible show AWP _ _ _ _ _); first | (refine AWP.drawn_nx (id := 6) (.take 0 (.take 4 (.take 7 (.take 8 (.alt 1 (.take 2 (.alt 3 (.take 5 (.alt 6 (.alt 9 (.one 10 (.one 11 (.take 12 .done))) (.one 10 (.one 9 (.one 11 (.take 12 .done))))) (.alt 9 (.alt 6 (.one 10 (.one 11 (.take 12 .done))) (.one 10 (.one 6 (.one 11 (.take 12 .done))))) (.one 10 (.alt 6 (.one 9 (.one 11 (.take 12 .done))) (.one 9 (.one 6 (.one 11 (.take 12 .done))))))))) (.alt 9 (.alt 3 (.take 5 (.alt 6 (.one 10 (.one 11 (.take 12 .done))) (.one 10 (.one 6 (.one 11 (.take 12 .done)))))) (.one 10 (.one 3 (.take 5 (.one 6 (.one 11 (.take 12 .done))))))) (.one 10 (.alt 3 (.take 5 (.alt 6 (.one 9 (.one 11 (.take 12 .done))) (.one 9 (.one 6 (.one 11 (.take 12 .done)))))) (.one 9 (.one 3 (.take 5 (.one 6 (.one 11 (.take 12 .done))))))))))) (.alt 9 (.alt 1 (.take 2 (.alt 3 (.take 5 (.alt 6 (.one 10 (.one 11 (.take 12 .done))) (.one 10 (.one 6 (.one 11 (.take 12 .done)))))) (.one 10 (.one 3 (.take 5 (.one 6 (.one 11 (.take 12 .done)))))))) (.one 10 (.one 1 (.take 2 (.one 3 (.take 5 (.one 6 (.one 11 (.take 12 .done))))))))) (.one 10 (.alt 1 (.take 2 (.alt 3 (.take 5 (.alt 6 (.one 9 (.one 11 (.take 12 .done))) (.one 9 (.one 6 (.one 11 (.take 12 .done)))))) (.one 9 (.one 3 (.take 5 (.one 6 (.one 11 (.take 12 .done)))))))) (.one 9 (.one 1 (.take 2 (.one 3 (.take 5 (.one 6 (.one 11 (.take 12 .done)))))))))))))))) rfl (by kernel_rfl) ?_) | (with_reducible first | refine AWP.seq ?_ | refine AWP.block ?_ | refine AWP.region ?_ | refine AWP.ret ?_ | refine AWP.exit ?_ | refine AWP.skip ?_) | refine AWP.drawn rfl (by kernel_rfl) ?_ | refine AWP.cond rfl ?_ ?_) | with_reducible refine ev_nil ?_ | ((first | ((with_reducible show evNx _ _ _ _ _ _); refine nx_take rfl ?_; intro K hK) | ((with_reducible show Ax _ _ _ _ _); first | (refine ax_op rfl ?_; intro K hK)) | ((with_reducible show evTake _ _ _ _ _); refine take_step rfl ?_; intro K hK) | ((with_reducible show evSy _ _ _ _ _ _ _); refine sy_take rfl ?_; intro K hK) | ((with_reducible show AxB _ _ _ _ _); first | (refine axb_op rfl rfl ?_; intro K hK)) | ((with_reducible show evOps _ _ _ _ _ _); (first | refine ev_step rfl ?_ | refine ev_undef rfl rfl rfl ?_); intro K hK) | ((with_reducible show EvOpen _ _ _ _ _ _ _); refine ev_open ?_; intro K hK) | ((with_reducible show SkOpen _ _ _ _ _ _ _); refine sk_open ?_; intro K hK) | ((with_reducible show callK _ _ _ _ _ _ _ _); first  | (refine call_pure ( hex) (Nat.le_of_ble_eq_true rfl) ?_))); simp only [evOp, evQ, withS, opd, kput, putS, upd, lookup, argsK, bringIn, bring, Res.list, Res.slot, storeK, frz, storeV, setBlk, newBlk, allocK, V.one, Value.oneCell', List.set_cons_zero, List.set_cons_succ, sz_ints, c_int, sz_rows, c_ints, z_int, List.getElem?_cons_zero, List.getElem?_cons_succ, List.reverse_cons, List.reverse_nil, List.nil_append, List.cons_append, List.length_cons, List.length_nil, Nat.reduceEqDiff, Nat.reduceAdd, Nat.reduceLT, Nat.mul_one, Nat.add_zero, Nat.zero_add, ↓reduceIte, eq_self, true_and, Int.toNat_natCast]) | refine ev_guard rfl rfl rfl ?_ ?_ | ((with_reducible show retQ _ _ _ _); simp only [eq_self]) | (with_reducible refine hK _ ?_; clear hK K) | (with_reducible refine And.intro ?_ ?_) | (with_reducible intro hc; try simp only [eq_self] at hc) | omega)
    all_goals first
      | exact ⟨[2], rfl, by decide, by simp [EntSR, SlR, VE, VE.rfl', lookup, sc], ⟨rfl, Nat.le_refl _, fun i hi => by obtain rfl : i = 0 := (by have hi : i < 1 := hi; omega); exact VE.of_eq rfl⟩, trivial⟩
      | omega
      | (rw [lD.2 _ (by omega)]; omega)
      | (rename_i q; obtain rfl : q = 0 := (by omega); rfl)
      | trace_state
  · repeat' (first | (with_reducible first | refine then_normal ?_ | refine then_ret ?_ | refine then_exit ?_ | refine block_normal ?_ | refine block_ret ?_) | ((with_reducible show blockQ _ _ _ _); first | refine block_exit ?_ | refine block_exit_ne rfl ?_) | ((with_reducible show AWP _ _ _ _ _); first | (refine AWP.holdW (id := 7) ?_) | (with_reducible first | refine AWP.seq ?_ | refine AWP.block ?_ | refine AWP.region ?_ | refine AWP.ret ?_ | refine AWP.exit ?_ | refine AWP.skip ?_) | refine AWP.drawn rfl (by kernel_rfl) ?_ | refine AWP.cond rfl ?_ ?_) | with_reducible refine ev_nil ?_ | ((first | ((with_reducible show evOps _ _ _ _ _ _); (first | refine ev_step rfl ?_ | refine ev_undef rfl rfl rfl ?_); intro K hK) | ((with_reducible show EvOpen _ _ _ _ _ _ _); refine ev_open ?_; intro K hK) | ((with_reducible show SkOpen _ _ _ _ _ _ _); refine sk_open ?_; intro K hK) | ((with_reducible show callK _ _ _ _ _ _ _ _); first  | fail)); simp only [eq_self]) | refine ev_guard rfl rfl rfl ?_ ?_ | ((with_reducible show retQ _ _ _ _); simp only [eq_self]) | (with_reducible refine hK _ ?_; clear hK K) | (with_reducible refine And.intro ?_ ?_) | (with_reducible intro hc; try simp only [eq_self] at hc) | omega)
    unfold HoldW
    refine AWP.region_frz 10 0 12 rfl rfl (by intro o ho t' e; simp only [List.mem_cons, List.not_mem_nil, or_false] at ho; rcases ho with rfl | rfl | rfl | rfl <;> (injection e with e; subst e; rfl)) ?_
    repeat' (first | (with_reducible first | refine then_normal ?_ | refine then_ret ?_ | refine then_exit ?_ | refine block_normal ?_ | refine block_ret ?_) | ((with_reducible show blockQ _ _ _ _); first | refine block_exit ?_ | refine block_exit_ne rfl ?_) | ((with_reducible show AWP _ _ _ _ _); first | (with_reducible first | refine AWP.seq ?_ | refine AWP.block ?_ | refine AWP.region ?_ | refine AWP.ret ?_ | refine AWP.exit ?_ | refine AWP.skip ?_) | refine AWP.drawn rfl (by kernel_rfl) ?_ | refine AWP.cond rfl ?_ ?_) | with_reducible refine ev_nil ?_ | ((first | ((with_reducible show evOps _ _ _ _ _ _); (first | refine ev_step rfl ?_ | refine ev_undef rfl rfl rfl ?_); intro K hK) | ((with_reducible show EvOpen _ _ _ _ _ _ _); refine ev_open ?_; intro K hK) | ((with_reducible show SkOpen _ _ _ _ _ _ _); refine sk_open ?_; intro K hK) | ((with_reducible show callK _ _ _ _ _ _ _ _); first  | (refine call_scalar (hix) (Nat.le_of_ble_eq_true rfl) rfl ?_))); simp only [evOp, evQ, capsK, withS, opd, kput, putS, upd, lookup, argsK, bringIn, bring, Res.list, Res.slot, List.set_cons_zero, List.reverse_cons, List.reverse_nil, List.nil_append, List.cons_append, List.length_cons, List.length_nil, Nat.reduceEqDiff, Nat.reduceAdd, Nat.reduceLT, Nat.zero_add, ↓reduceIte, eq_self, true_and]) | refine ev_guard rfl rfl rfl ?_ ?_ | ((with_reducible show retQ _ _ _ _); simp only [eq_self]) | (with_reducible refine hK _ ?_; clear hK K) | (with_reducible refine And.intro ?_ ?_) | (with_reducible intro hc; try simp only [eq_self] at hc) | omega)
    refine ⟨_, rfl, ?_⟩
    repeat' (first | (with_reducible first | refine then_normal ?_ | refine then_ret ?_ | refine then_exit ?_ | refine block_normal ?_ | refine block_ret ?_) | ((with_reducible show blockQ _ _ _ _); first | refine block_exit ?_ | refine block_exit_ne rfl ?_) | ((with_reducible show AWP _ _ _ _ _); first | (with_reducible first | refine AWP.seq ?_ | refine AWP.block ?_ | refine AWP.region ?_ | refine AWP.ret ?_ | refine AWP.exit ?_ | refine AWP.skip ?_) | refine AWP.drawn rfl (by kernel_rfl) ?_ | refine AWP.cond rfl ?_ ?_) | with_reducible refine ev_nil ?_ | ((first | ((with_reducible show evOps _ _ _ _ _ _); (first | refine ev_step rfl ?_ | refine ev_undef rfl rfl rfl ?_); intro K hK) | ((with_reducible show EvOpen _ _ _ _ _ _ _); refine ev_open ?_; intro K hK) | ((with_reducible show SkOpen _ _ _ _ _ _ _); refine sk_open ?_; intro K hK) | ((with_reducible show callK _ _ _ _ _ _ _ _); first | fail)); simp only [evOp, evQ, withS, opd, kput, putS, upd, lookup, frz, newBlk, partsK, buildSliceK, plSlice, V.one, Value.oneCell', c_int, ei_ints, ea_ints, List.nil_append, List.cons_append, List.length_cons, List.length_nil, Nat.reduceEqDiff, Nat.reduceLT, Nat.reduceLeDiff, Nat.mul_one, Nat.zero_add, Nat.mod_one, List.getD_cons_zero, ↓reduceIte, eq_self, true_and, Bool.false_eq_true]) | refine ev_guard rfl rfl rfl ?_ ?_ | ((with_reducible show retQ _ _ _ _); simp only [eq_self]) | (with_reducible refine hK _ ?_; clear hK K) | (with_reducible refine And.intro ?_ ?_) | (with_reducible intro hc; try simp only [eq_self] at hc) | omega)
    all_goals try (exfalso; omega; done)
    refine AWP.loop_entR [0, 1] (fun x : Nat × List Int × Nat => ⟨[(0, .one (.pv (rows m))), (10, .one (.ptr 0 0)), (11, .one (.pv (rows E))), (12, sc (.int .i64 x.1)), (13, .one (.own 1 1 0 x.2.1.length))], [some ⟨3, 1, fun _ => vi (exN m t x.1 x.2.2)⟩, some (bints x.2.1)], 123⟩)
      (fun x => WayTo m f t x.2.1 x.1 ∧ x.2.1.length + x.1 ≤ m.length ∧ vtx x.2.1 (x.2.1.length - 1) = x.2.2 ∧ x.2.2 < m.length) (fun x => x.1) (s0, [(f : Int)], f) ⟨WayTo.start hf hs1 hfi0, by simp; omega, by show ((f : Int)).toNat = f; omega, hf⟩ ?_ ?_
    · refine ⟨rfl, by decide, by simp [EntSR, SlR, VE, VE.rfl', lookup, sc], ⟨rfl, Nat.le_refl _, fun i hi => VE.of_eq (by rw [hs1])⟩, ⟨rfl, Nat.le_refl _, fun i hi => VE.of_eq ?_⟩, trivial⟩
      have hi : i < 1 := hi
      obtain rfl : i = 0 := by omega
      rfl
    clear hs0 hs1 hs2 hix hfi
    rintro ⟨s, way, v⟩ ⟨hw, hlen, hvt, hv⟩
    dsimp only at hw hlen hvt hv ⊢
    have hwl := hw.len
    have hrv := hr v hv
    by_cases hs0 : s = 0
    · subst hs0
      repeat' (first | (with_reducible first | refine then_normal ?_ | refine then_ret ?_ | refine then_exit ?_ | refine block_normal ?_ | refine block_ret ?_) | ((with_reducible show blockQ _ _ _ _); first | refine block_exit ?_ | refine block_exit_ne rfl ?_) | ((with_reducible show AWP _ _ _ _ _); first | (with_reducible first | refine AWP.seq ?_ | refine AWP.block ?_ | refine AWP.region ?_ | refine AWP.ret ?_ | refine AWP.exit ?_ | refine AWP.skip ?_) | refine AWP.drawn rfl (by kernel_rfl) ?_ | refine AWP.cond rfl ?_ ?_) | with_reducible refine ev_nil ?_ | ((first | ((with_reducible show evOps _ _ _ _ _ _); (first | refine ev_step rfl ?_ | refine ev_undef rfl rfl rfl ?_); intro K hK) | ((with_reducible show EvOpen _ _ _ _ _ _ _); refine ev_open ?_; intro K hK) | ((with_reducible show SkOpen _ _ _ _ _ _ _); refine sk_open ?_; intro K hK) | ((with_reducible show callK _ _ _ _ _ _ _ _); first | fail)); simp only [evOp, evQ, evB, binK, withS, opd, kput, putS, upd, lookup, loadOwn, InK_i64, sz_ints, c_int, bints, sz_rows, nat_m1, List.getElem?_cons_zero, List.getElem?_cons_succ, Nat.reduceEqDiff, Nat.reduceLT, Nat.mul_one, Nat.zero_add, ↓reduceIte, eq_self, true_and, Option.isSome_some]) | refine ev_guard rfl rfl rfl ?_ ?_ | ((with_reducible show retQ _ _ _ _); simp only [eq_self]) | (with_reducible refine hK _ ?_; clear hK K) | (with_reducible refine And.intro ?_ ?_) | (with_reducible intro hc; try simp only [decide_eq_true_eq, decide_eq_false_iff_not, Int.not_lt, gt_iff_lt] at hc) | omega)
      all_goals first
        | (exfalso; omega; done)
        | exact retE_ch way hT (by rw [Int.toNat_natCast, Int.toNat_natCast]; exact hw.fin_ok hm (by omega)) (by omega) rfl rfl rfl (BE.rfl' _) rfl
        | trace_state
    · obtain ⟨s, rfl⟩ : ∃ s', s = s' + 1 := ⟨s - 1, by omega⟩
      have hrest := hw.rest
      rw [hvt] at hrest
      obtain ⟨k, hk, hgood, hfirst⟩ := good_ex hrest
      have hst := good_step hrest hgood
      have e0 := rE' s (by omega)
      have hwv : way.getD (way.length - 1) 0 = (v : Int) := by
        have := (hw.verts (way.length - 1) (by omega)).1
        have e : (way.getD (way.length - 1) 0).toNat = v := hvt
        omega
      have b1 := exN_num (t := t) hm (s + 1) v hv
      have b2 := hm v k hv hk
      have hpl : ∀ j, j < m.length → Fn Try.prog 35 [vi ((rowAt m v).getD j 0), vi ((rowAt E s).getD j 0)] (.one (.pv (vi (plusI ((rowAt m v).getD j 0) ((rowAt E s).getD j 0))))) := fun j hj => by
        have h1 := hm v j hv hj
        unfold ent at h1
        refine productW_fn _ _ (by omega) ?_
        rw [gE s j (by omega) hj]
        exact exN_bd hm (by omega) hj
      repeat' (first | (with_reducible first | refine then_normal ?_ | refine then_ret ?_ | refine then_exit ?_ | refine block_normal ?_ | refine block_ret ?_) | ((with_reducible show blockQ _ _ _ _); first | refine block_exit ?_ | refine block_exit_ne rfl ?_) | ((with_reducible show AWP _ _ _ _ _); first | (with_reducible first | refine AWP.seq ?_ | refine AWP.block ?_ | refine AWP.region ?_ | refine AWP.ret ?_ | refine AWP.exit ?_ | refine AWP.skip ?_) | refine AWP.drawn rfl (by kernel_rfl) ?_ | refine AWP.cond rfl ?_ ?_) | with_reducible refine ev_nil ?_ | ((first | ((with_reducible show evOps _ _ _ _ _ _); (first | refine ev_step rfl ?_ | refine ev_undef rfl rfl rfl ?_); intro K hK) | ((with_reducible show EvOpen _ _ _ _ _ _ _); refine ev_open ?_; intro K hK) | ((with_reducible show SkOpen _ _ _ _ _ _ _); refine sk_open ?_; intro K hK) | ((with_reducible show callK _ _ _ _ _ _ _ _); first | fail)); simp only [evOp, evQ, evB, binK, withS, opd, kput, putS, upd, lookup, loadOwn, InK_i64, sz_ints, c_int, bints, sz_rows, nat_m1, List.getElem?_cons_zero, List.getElem?_cons_succ, Nat.reduceEqDiff, Nat.reduceLT, Nat.mul_one, Nat.zero_add, ↓reduceIte, eq_self, true_and, Option.isSome_some]) | refine ev_guard rfl rfl rfl ?_ ?_ | ((with_reducible show retQ _ _ _ _); simp only [eq_self]) | (with_reducible refine hK _ ?_; clear hK K) | (with_reducible refine And.intro ?_ ?_) | (with_reducible intro hc; try simp only [decide_eq_true_eq, decide_eq_false_iff_not, Int.not_lt, gt_iff_lt] at hc) | omega)
      all_goals try (exfalso; omega; done)
      refine AWP.loop_entR [0, 1] (fun j : Nat => ⟨[(0, .one (.pv (rows m))), (10, .one (.ptr 0 0)), (11, .one (.pv (rows E))), (12, sc (.int .i64 ((s : Int) + 1))), (13, .one (.own 1 1 0 way.length)), (14, sc (.int .i64 v)), (15, sc (.int .i64 (if j ≤ k then -1 else k))), (69, sc (.int .i64 m.length)), (70, sc (.int .i64 j))], [some ⟨3, 1, fun _ => vi (exN m t (s + 1) v)⟩, some (bints way)], 123⟩)
        (fun j => j ≤ m.length) (fun j => m.length - j) 0 (by omega) ?_ ?_
      · refine ⟨rfl, by decide, ?_, BE.rfl' _, BE.rfl' _, trivial⟩
        simp [EntSR, SlR, VE, VE.rfl', lookup, sc]
        simpa using hwv
      clear hwv
      intro j hj
      by_cases hjm : j < m.length
      · have v0 := gE s j (by omega) hjm
        have em : (rowAt m v).getD j 0 = ent m v j := rfl
        rcases (show j < k ∨ j = k ∨ k < j by omega) with hjk | hjk | hjk
        · rw [if_pos (show j ≤ k by omega)]
          have hbad : ¬ (rowAt m v).getD j 0 = 1000000000 → ¬ plusI ((rowAt m v).getD j 0) ((rowAt E s).getD j 0) = exN m t (s + 1) v := fun h1 h2 => hfirst j hjk ⟨h1, by rw [v0] at h2; exact h2⟩
          repeat' (first | (with_reducible first | refine then_normal ?_ | refine then_ret ?_ | refine then_exit ?_ | refine block_normal ?_ | refine block_ret ?_) | ((with_reducible show blockQ _ _ _ _); first | refine block_exit ?_ | refine block_exit_ne rfl ?_) | ((with_reducible show AWP _ _ _ _ _); first | (with_reducible first | refine AWP.seq ?_ | refine AWP.block ?_ | refine AWP.region ?_ | refine AWP.ret ?_ | refine AWP.exit ?_ | refine AWP.skip ?_) | refine AWP.drawn rfl (by kernel_rfl) ?_ | refine AWP.cond rfl ?_ ?_) | with_reducible refine ev_nil ?_ | ((first | ((with_reducible show evOps _ _ _ _ _ _); (first | refine ev_step rfl ?_ | refine ev_undef rfl rfl rfl ?_); intro K hK) | ((with_reducible show EvOpen _ _ _ _ _ _ _); refine ev_open ?_; intro K hK) | ((with_reducible show SkOpen _ _ _ _ _ _ _); refine sk_open ?_; intro K hK) | ((with_reducible show callK _ _ _ _ _ _ _ _); first  | (refine call_scalar (hpl j hjm) (Nat.le_of_ble_eq_true rfl) rfl ?_))); simp only [evOp, evQ, binK, withS, opd, kput, putS, upd, lookup, skipOp, argsK, loadOwn, bringIn, bring, Res.list, Res.slot, InK_i64, appendK, srcK, growK, storeK, frz, storeV, setBlk, newBlk, partsK, buildSliceK, plSlice, V.one, Value.oneCell', List.set_cons_zero, List.set_cons_succ, sz_ints, c_int, ei_ints, ea_ints, bints, sz_rows, c_ints, nat_pp, List.getElem?_cons_zero, List.getElem?_cons_succ, List.reverse_cons, List.reverse_nil, List.nil_append, List.cons_append, List.length_cons, List.length_nil, Nat.reduceEqDiff, Nat.reduceAdd, Nat.reduceLT, Nat.reduceLeDiff, Nat.mul_one, Nat.add_zero, Nat.zero_add, Nat.mod_one, List.getD_cons_zero, ↓reduceIte, eq_self, true_and, and_true, Bool.not_true, Bool.true_eq_false, Bool.false_eq_true, false_implies, forall_const, implies_true, Int.toNat_natCast]) | refine ev_guard rfl rfl rfl ?_ ?_ | ((with_reducible show retQ _ _ _ _); simp only [eq_self]) | (with_reducible refine hK _ ?_; clear hK K) | (with_reducible refine And.intro ?_ ?_) | (with_reducible intro hc; try simp only [decide_eq_true_eq, decide_eq_false_iff_not, beq_iff_eq, beq_eq_false_iff_ne, bne_iff_ne, bne_eq_false_iff_eq, Bool.not_true, Int.not_lt, ne_eq, reduceCtorEq, Bool.true_eq_false] at hc) | omega)
          all_goals try (exfalso; omega; done)
          all_goals try omega
          all_goals try (exfalso; exact hbad (by assumption) (by assumption))
          all_goals first
            | exact ⟨j + 1, by omega, by omega, [0, 1], rfl, by decide, by (simp [EntSR, SlR, VE, VE.rfl', lookup, sc]) <;> (try split) <;> omega, BE.rfl' _, BE.rfl' _, trivial⟩
            | trace_state
        · subst hjk
          rw [if_pos (Nat.le_refl _)]
          have g1 : ¬ (rowAt m v).getD j 0 = 1000000000 := hst.1
          have g2 : plusI ((rowAt m v).getD j 0) ((rowAt E s).getD j 0) = exN m t (s + 1) v := by rw [v0]; exact hgood.2
          repeat' (first | (with_reducible first | refine then_normal ?_ | refine then_ret ?_ | refine then_exit ?_ | refine block_normal ?_ | refine block_ret ?_) | ((with_reducible show blockQ _ _ _ _); first | refine block_exit ?_ | refine block_exit_ne rfl ?_) | ((with_reducible show AWP _ _ _ _ _); first | (with_reducible first | refine AWP.seq ?_ | refine AWP.block ?_ | refine AWP.region ?_ | refine AWP.ret ?_ | refine AWP.exit ?_ | refine AWP.skip ?_) | refine AWP.drawn rfl (by kernel_rfl) ?_ | refine AWP.cond rfl ?_ ?_) | with_reducible refine ev_nil ?_ | ((first | ((with_reducible show evOps _ _ _ _ _ _); (first | refine ev_step rfl ?_ | refine ev_undef rfl rfl rfl ?_); intro K hK) | ((with_reducible show EvOpen _ _ _ _ _ _ _); refine ev_open ?_; intro K hK) | ((with_reducible show SkOpen _ _ _ _ _ _ _); refine sk_open ?_; intro K hK) | ((with_reducible show callK _ _ _ _ _ _ _ _); first  | (refine call_scalar (hpl j hjm) (Nat.le_of_ble_eq_true rfl) rfl ?_))); simp only [evOp, evQ, binK, withS, opd, kput, putS, upd, lookup, skipOp, argsK, loadOwn, bringIn, bring, Res.list, Res.slot, InK_i64, appendK, srcK, growK, storeK, frz, storeV, setBlk, newBlk, partsK, buildSliceK, plSlice, V.one, Value.oneCell', List.set_cons_zero, List.set_cons_succ, sz_ints, c_int, ei_ints, ea_ints, bints, sz_rows, c_ints, nat_pp, List.getElem?_cons_zero, List.getElem?_cons_succ, List.reverse_cons, List.reverse_nil, List.nil_append, List.cons_append, List.length_cons, List.length_nil, Nat.reduceEqDiff, Nat.reduceAdd, Nat.reduceLT, Nat.reduceLeDiff, Nat.mul_one, Nat.add_zero, Nat.zero_add, Nat.mod_one, List.getD_cons_zero, ↓reduceIte, eq_self, true_and, and_true, Bool.not_true, Bool.true_eq_false, Bool.false_eq_true, false_implies, forall_const, implies_true, Int.toNat_natCast]) | refine ev_guard rfl rfl rfl ?_ ?_ | ((with_reducible show retQ _ _ _ _); simp only [eq_self]) | (with_reducible refine hK _ ?_; clear hK K) | (with_reducible refine And.intro ?_ ?_) | (with_reducible intro hc; try simp only [decide_eq_true_eq, decide_eq_false_iff_not, beq_iff_eq, beq_eq_false_iff_ne, bne_iff_ne, bne_eq_false_iff_eq, Bool.not_true, Int.not_lt, ne_eq, reduceCtorEq, Bool.true_eq_false] at hc) | omega)
          all_goals try (exfalso; omega; done)
          all_goals try omega
          all_goals try (exfalso; exact absurd g2 (by assumption))
          all_goals try (exfalso; exact absurd (by assumption) g1)
          all_goals first
            | exact ⟨j + 1, by omega, by omega, [0, 1], rfl, by decide, by (simp [EntSR, SlR, VE, VE.rfl', lookup, sc]) <;> (try split) <;> omega, BE.rfl' _, BE.rfl' _, trivial⟩
            | trace_state
        · rw [if_neg (show ¬ j ≤ k by omega)]
          repeat' (first | (with_reducible first | refine then_normal ?_ | refine then_ret ?_ | refine then_exit ?_ | refine block_normal ?_ | refine block_ret ?_) | ((with_reducible show blockQ _ _ _ _); first | refine block_exit ?_ | refine block_exit_ne rfl ?_) | ((with_reducible show AWP _ _ _ _ _); first | (with_reducible first | refine AWP.seq ?_ | refine AWP.block ?_ | refine AWP.region ?_ | refine AWP.ret ?_ | refine AWP.exit ?_ | refine AWP.skip ?_) | refine AWP.drawn rfl (by kernel_rfl) ?_ | refine AWP.cond rfl ?_ ?_) | with_reducible refine ev_nil ?_ | ((first | ((with_reducible show evOps _ _ _ _ _ _); (first | refine ev_step rfl ?_ | refine ev_undef rfl rfl rfl ?_); intro K hK) | ((with_reducible show EvOpen _ _ _ _ _ _ _); refine ev_open ?_; intro K hK) | ((with_reducible show SkOpen _ _ _ _ _ _ _); refine sk_open ?_; intro K hK) | ((with_reducible show callK _ _ _ _ _ _ _ _); first  | (refine call_scalar (hpl j hjm) (Nat.le_of_ble_eq_true rfl) rfl ?_))); simp only [evOp, evQ, binK, withS, opd, kput, putS, upd, lookup, skipOp, argsK, loadOwn, bringIn, bring, Res.list, Res.slot, InK_i64, appendK, srcK, growK, storeK, frz, storeV, setBlk, newBlk, partsK, buildSliceK, plSlice, V.one, Value.oneCell', List.set_cons_zero, List.set_cons_succ, sz_ints, c_int, ei_ints, ea_ints, bints, sz_rows, c_ints, nat_pp, List.getElem?_cons_zero, List.getElem?_cons_succ, List.reverse_cons, List.reverse_nil, List.nil_append, List.cons_append, List.length_cons, List.length_nil, Nat.reduceEqDiff, Nat.reduceAdd, Nat.reduceLT, Nat.reduceLeDiff, Nat.mul_one, Nat.add_zero, Nat.zero_add, Nat.mod_one, List.getD_cons_zero, ↓reduceIte, eq_self, true_and, and_true, Bool.not_true, Bool.true_eq_false, Bool.false_eq_true, false_implies, forall_const, implies_true, Int.toNat_natCast]) | refine ev_guard rfl rfl rfl ?_ ?_ | ((with_reducible show retQ _ _ _ _); simp only [eq_self]) | (with_reducible refine hK _ ?_; clear hK K) | (with_reducible refine And.intro ?_ ?_) | (with_reducible intro hc; try simp only [decide_eq_true_eq, decide_eq_false_iff_not, beq_iff_eq, beq_eq_false_iff_ne, bne_iff_ne, bne_eq_false_iff_eq, Bool.not_true, Int.not_lt, ne_eq, reduceCtorEq, Bool.true_eq_false] at hc) | omega)
          all_goals try (exfalso; omega; done)
          all_goals try omega
          all_goals first
            | exact ⟨j + 1, by omega, by omega, [0, 1], rfl, by decide, by (simp [EntSR, SlR, VE, VE.rfl', lookup, sc]) <;> (try split) <;> omega, BE.rfl' _, BE.rfl' _, trivial⟩
            | trace_state
      · obtain rfl : j = m.length := by omega
        rw [if_neg (show ¬ m.length ≤ k by omega)]
        have em : (rowAt m v).getD k 0 = ent m v k := rfl
        have b3 : -100000000 ≤ exN m t (s + 1) v - (rowAt m v).getD k 0 ∧ exN m t (s + 1) v - (rowAt m v).getD k 0 ≤ 100000000 := by
          have hs1 : (s : Int) + 1 ≤ 6 := by omega
          rcases b1 with b1 | b1
          · exact absurd b1 hrest
          · rcases b2 with b2 | b2
            · exact absurd b2 hst.1
            · rw [em]; omega
        repeat' (first | ((with_reducible show evNx _ _ _ _ _ _); first | (with_reducible refine nx_done ?_) | (refine nx_one rfl ?_) | (refine nx_alt rfl ?_ ?_) | (with_reducible refine nx_st ?_)) | ((with_reducible show evSx _ _ _ _ _ _); first | (with_reducible refine sx_done ?_) | (with_reducible refine sx_st ?_) | (with_reducible refine sx_op ?_)) | ((with_reducible show evTake _ _ _ _ _); with_reducible refine take_nil ?_) | ((with_reducible show evSy _ _ _ _ _ _ _); first | (with_reducible refine sy_done ?_) | (refine sy_last rfl ?_) | (refine sy_one (by decide) rfl ?_) | (refine sy_alt (by decide) rfl ?_ ?_) | (with_reducible refine sy_st ?_)) | ((with_reducible show StK _ _ _); first | fail) | (with_reducible first | refine then_normal ?_ | refine then_ret ?_ | refine then_exit ?_ | refine block_normal ?_ | refine block_ret ?_) | ((with_reducible show blockQ _ _ _ _); first | refine block_exit ?_ | refine block_exit_ne rfl ?_) | ((with_reducible show AWP _ _ _ _ _); first | (refine AWP.drawn_nx (id := 18) (.take 1 (.take 2 (.take 3 (.take 5 (.alt 0 (.one 4 (.take 6 (.one 7 (.take 8 (.one 9 .done))))) (.one 4 (.take 6 (.alt 0 (.one 7 (.take 8 (.one 9 .done))) (.one 7 (.one 0 (.take 8 (.one 9 .done)))))))))))) rfl (by kernel_rfl) ?_) | (with_reducible first | refine AWP.seq ?_ | refine AWP.block ?_ | refine AWP.region ?_ | refine AWP.ret ?_ | refine AWP.exit ?_ | refine AWP.skip ?_) | refine AWP.drawn rfl (by kernel_rfl) ?_ | refine AWP.cond rfl ?_ ?_) | with_reducible refine ev_nil ?_ | ((first | ((with_reducible show evNx _ _ _ _ _ _); refine nx_take rfl ?_; intro K hK) | ((with_reducible show Ax _ _ _ _ _); first | (refine ax_op rfl ?_; intro K hK)) | ((with_reducible show evTake _ _ _ _ _); refine take_step rfl ?_; intro K hK) | ((with_reducible show evSy _ _ _ _ _ _ _); refine sy_take rfl ?_; intro K hK) | ((with_reducible show AxB _ _ _ _ _); first | (refine axb_op rfl rfl ?_; intro K hK)) | ((with_reducible show evOps _ _ _ _ _ _); (first | refine ev_step rfl ?_ | refine ev_undef rfl rfl rfl ?_); intro K hK) | ((with_reducible show EvOpen _ _ _ _ _ _ _); refine ev_open ?_; intro K hK) | ((with_reducible show SkOpen _ _ _ _ _ _ _); refine sk_open ?_; intro K hK) | ((with_reducible show callK _ _ _ _ _ _ _ _); first  | fail)); simp only [evOp, evQ, binK, withS, opd, kput, putS, upd, lookup, skipOp, argsK, loadOwn, InK_i64, appendK, srcK, growK, storeK, frz, storeV, setBlk, newBlk, partsK, buildSliceK, plSlice, V.one, Value.oneCell', List.set_cons_zero, List.set_cons_succ, sz_ints, c_int, ei_ints, ea_ints, bints, sz_rows, c_ints, nat_pp, List.getElem?_cons_zero, List.getElem?_cons_succ, List.reverse_cons, List.reverse_nil, List.nil_append, List.cons_append, List.length_cons, List.length_nil, Nat.reduceEqDiff, Nat.reduceAdd, Nat.reduceLT, Nat.reduceLeDiff, Nat.mul_one, Nat.add_zero, Nat.zero_add, Nat.mod_one, List.getD_cons_zero, ↓reduceIte, eq_self, true_and, and_true, Bool.not_true, Bool.true_eq_false, Bool.false_eq_true, false_implies, forall_const, implies_true, Int.toNat_natCast]) | refine ev_guard rfl rfl rfl ?_ ?_ | ((with_reducible show retQ _ _ _ _); simp only [eq_self]) | (with_reducible refine hK _ ?_; clear hK K) | (with_reducible refine And.intro ?_ ?_) | (with_reducible intro hc; try simp only [decide_eq_true_eq, decide_eq_false_iff_not, bne_iff_ne, bne_eq_false_iff_eq, Bool.not_true, Int.not_lt, ne_eq, reduceCtorEq, Bool.true_eq_false] at hc) | omega)
        all_goals try (exfalso; omega; done)
        all_goals try omega
        all_goals first
          | (rename_i q; obtain rfl : q = 0 := (by omega); rfl)
          | skip
        all_goals
         refine ⟨(s, way ++ [(k : Int)], k), ⟨WayTo.step hm (by omega) hw hk (by rw [hvt]; exact hst.1) hst.2.1 (by rw [hvt]; exact hst.2.2), by simp; omega, ?_, hk⟩, Nat.lt_succ_self _, [0, 3], rfl, by decide, (by (simp [EntSR, SlR, VE, VE.rfl', lookup, sc]) <;> omega), ⟨rfl, Nat.le_refl _, fun i hi => by obtain rfl : i = 0 := (by have hi : i < 1 := hi; omega); exact VE.of_eq (congrArg (fun x => V.val (.int .i64 x)) (show exN m t (s + 1) v - (rowAt m v).getD k 0 = exN m t s k by rw [em]; omega))⟩, snoc_be rfl, trivial⟩
         show vtx (way ++ [(k : Int)]) ((way ++ [(k : Int)]).length - 1) = k
         rw [List.length_append, List.length_singleton, Nat.add_sub_cancel, vtx_snoc, Int.toNat_natCast]
end Go.Proofs.Ytlomkebhopaliaa
namespace Go.Proofs.Ytlomkebhopaliaa
open Go.RowKit Go.Proofs
set_option linter.unusedSimpArgs false
set_option linter.unusedVariables false
set_option maxRecDepth 20000
theorem implCheapest_E (m : List (List Int)) (f t : Int) (hml : m.length ≤ 1099511627776) (hr : ∀ i, i < m.length → (rowAt m i).length ≤ 1099511627776) : FnE Try.prog 9 [rows m, vi f, vi t] (chE m f t) := by
  have hsq := isSquare_fn m hml hr
  cases h : squB m with
  | false =>
    rw [h] at hsq
    refine FnE.of_body (fun N => [rows m, vi f, vi t]) (fun _ _ h => h) Try.call9 Try.func9 rfl Try.ntmps9 (ts := [6, 7]) rfl (fun _ => by simp) (chE.shape) (fun N => ?_)
    repeat' (first | (with_reducible first | refine then_normal ?_ | refine then_ret ?_ | refine then_exit ?_ | refine block_normal ?_ | refine block_ret ?_) | ((with_reducible show blockQ _ _ _ _); first | refine block_exit ?_ | refine block_exit_ne rfl ?_) | ((with_reducible show AWP _ _ _ _ _); first | (with_reducible first | refine AWP.seq ?_ | refine AWP.block ?_ | refine AWP.region ?_ | refine AWP.ret ?_ | refine AWP.exit ?_ | refine AWP.skip ?_) | refine AWP.drawn rfl (by kernel_rfl) ?_ | refine AWP.cond rfl ?_ ?_) | with_reducible refine ev_nil ?_ | ((first | ((with_reducible show evOps _ _ _ _ _ _); (first | refine ev_step rfl ?_ | refine ev_undef rfl rfl rfl ?_); intro K hK) | ((with_reducible show EvOpen _ _ _ _ _ _ _); refine ev_open ?_; intro K hK) | ((with_reducible show SkOpen _ _ _ _ _ _ _); refine sk_open ?_; intro K hK) | ((with_reducible show callK _ _ _ _ _ _ _ _); first  | (refine call_scalar (hsq) (Nat.le_of_ble_eq_true rfl) rfl ?_))); simp only [evOp, evQ, withS, opd, kput, putS, upd, lookup, skipOp, argsK, bringIn, bring, Res.list, Res.slot, slotsOf, frz, newBlk, boxV, V.one, Value.oneCell', List.reverse_cons, List.reverse_nil, List.nil_append, List.length_nil, Nat.reduceEqDiff, Nat.reduceAdd, Nat.reduceLT, Nat.zero_add, ↓reduceIte, eq_self, true_and, and_true, Bool.not_false, Bool.true_eq_false, false_implies, forall_const]) | refine ev_guard rfl rfl rfl ?_ ?_ | ((with_reducible show retQ _ _ _ _); simp only [eq_self]) | (with_reducible refine hK _ ?_; clear hK K) | (with_reducible refine And.intro ?_ ?_) | (with_reducible intro hc; try simp only [Bool.not_false, Bool.true_eq_false] at hc) | omega)
    all_goals first
      | exact retE_noch (chT_sq h) rfl rfl
      | (exfalso; omega; done)
      | (exfalso; simp_all; done)
      | trace_state
  | true =>
  rw [h] at hsq
  have hp := squB_parts h
  have hco := implCosts_fn m h
  have lD := dOf_lens m
  have hv := fun (g : Nat → V) (h0 : g 0 = vi f) (h1 : g 1 = vi t) => areVertices_fn m 2 g (fun i => if i = 0 then f else t) hml (by decide) fun i hi => by
    rcases (show i = 0 ∨ i = 1 by omega) with rfl | rfl
    · exact h0
    · exact h1
  have hvt : vertB m.length (fun i => if i = 0 then f else t) 2 = (inB f 0 ((m.length : Int) - 1) && inB t 0 ((m.length : Int) - 1)) := by simp [vertB, allN, List.range_succ]
  rw [hvt] at hv
  cases hf : inB f 0 ((m.length : Int) - 1) with
  | false =>
    rw [hf] at hv
    refine FnE.of_body (fun N => [rows m, vi f, vi t]) (fun _ _ h => h) Try.call9 Try.func9 rfl Try.ntmps9 (ts := [6, 7]) rfl (fun _ => by simp) (chE.shape) (fun N => ?_)
    repeat' (first | (with_reducible first | refine then_normal ?_ | refine then_ret ?_ | refine then_exit ?_ | refine block_normal ?_ | refine block_ret ?_) | ((with_reducible show blockQ _ _ _ _); first | refine block_exit ?_ | refine block_exit_ne rfl ?_) | ((with_reducible show AWP _ _ _ _ _); first | (with_reducible first | refine AWP.seq ?_ | refine AWP.block ?_ | refine AWP.region ?_ | refine AWP.ret ?_ | refine AWP.exit ?_ | refine AWP.skip ?_) | refine AWP.drawn rfl (by kernel_rfl) ?_ | refine AWP.cond rfl ?_ ?_) | with_reducible refine ev_nil ?_ | ((first | ((with_reducible show evOps _ _ _ _ _ _); (first | refine ev_step rfl ?_ | refine ev_undef rfl rfl rfl ?_); intro K hK) | ((with_reducible show EvOpen _ _ _ _ _ _ _); refine ev_open ?_; intro K hK) | ((with_reducible show SkOpen _ _ _ _ _ _ _); refine sk_open ?_; intro K hK) | ((with_reducible show callK _ _ _ _ _ _ _ _); first  | (refine call_scalar (hsq) (Nat.le_of_ble_eq_true rfl) rfl ?_) | (refine call_scalar (hv _ rfl rfl) (Nat.le_of_ble_eq_true rfl) rfl ?_))); simp only [evOp, evQ, withS, opd, kput, putS, upd, lookup, argsK, loadOwn, bringIn, bring, Res.list, Res.slot, slotsOf, frz, newBlk, boxV, partsK, buildSliceK, plSlice, V.one, Value.oneCell', c_int, ei_ints, ea_ints, List.getElem?_cons_zero, List.getElem?_cons_succ, List.reverse_cons, List.reverse_nil, List.nil_append, List.cons_append, List.length_cons, List.length_nil, Nat.reduceEqDiff, Nat.reduceAdd, Nat.reduceLT, Nat.reduceLeDiff, Nat.mul_one, Nat.zero_add, Nat.mod_one, List.getD_cons_zero, ↓reduceIte, eq_self, true_and, Bool.not_true, Bool.false_eq_true, false_implies, forall_const]) | refine ev_guard rfl rfl rfl ?_ ?_ | ((with_reducible show retQ _ _ _ _); simp only [eq_self]) | (with_reducible refine hK _ ?_; clear hK K) | (with_reducible refine And.intro ?_ ?_) | (with_reducible intro hc; try simp only [Bool.not_eq_true', Bool.not_eq_false', Bool.not_false, reduceCtorEq] at hc) | omega)
    all_goals first
      | exact retE_noch (chT_f hf) rfl rfl
      | (exfalso; omega; done)
      | (exfalso; simp_all; done)
      | trace_state
  | true =>
  have hf' := inB_true.1 hf
  cases ht : inB t 0 ((m.length : Int) - 1) with
  | false =>
    rw [hf, ht] at hv
    refine FnE.of_body (fun N => [rows m, vi f, vi t]) (fun _ _ h => h) Try.call9 Try.func9 rfl Try.ntmps9 (ts := [6, 7]) rfl (fun _ => by simp) (chE.shape) (fun N => ?_)
    repeat' (first | (with_reducible first | refine then_normal ?_ | refine then_ret ?_ | refine then_exit ?_ | refine block_normal ?_ | refine block_ret ?_) | ((with_reducible show blockQ _ _ _ _); first | refine block_exit ?_ | refine block_exit_ne rfl ?_) | ((with_reducible show AWP _ _ _ _ _); first | (with_reducible first | refine AWP.seq ?_ | refine AWP.block ?_ | refine AWP.region ?_ | refine AWP.ret ?_ | refine AWP.exit ?_ | refine AWP.skip ?_) | refine AWP.drawn rfl (by kernel_rfl) ?_ | refine AWP.cond rfl ?_ ?_) | with_reducible refine ev_nil ?_ | ((first | ((with_reducible show evOps _ _ _ _ _ _); (first | refine ev_step rfl ?_ | refine ev_undef rfl rfl rfl ?_); intro K hK) | ((with_reducible show EvOpen _ _ _ _ _ _ _); refine ev_open ?_; intro K hK) | ((with_reducible show SkOpen _ _ _ _ _ _ _); refine sk_open ?_; intro K hK) | ((with_reducible show callK _ _ _ _ _ _ _ _); first  | (refine call_scalar (hsq) (Nat.le_of_ble_eq_true rfl) rfl ?_) | (refine call_scalar (hv _ rfl rfl) (Nat.le_of_ble_eq_true rfl) rfl ?_))); simp only [evOp, evQ, withS, opd, kput, putS, upd, lookup, argsK, loadOwn, bringIn, bring, Res.list, Res.slot, slotsOf, frz, newBlk, boxV, partsK, buildSliceK, plSlice, V.one, Value.oneCell', c_int, ei_ints, ea_ints, List.getElem?_cons_zero, List.getElem?_cons_succ, List.reverse_cons, List.reverse_nil, List.nil_append, List.cons_append, List.length_cons, List.length_nil, Nat.reduceEqDiff, Nat.reduceAdd, Nat.reduceLT, Nat.reduceLeDiff, Nat.mul_one, Nat.zero_add, Nat.mod_one, List.getD_cons_zero, ↓reduceIte, eq_self, true_and, Bool.not_true, Bool.false_eq_true, false_implies, forall_const]) | refine ev_guard rfl rfl rfl ?_ ?_ | ((with_reducible show retQ _ _ _ _); simp only [eq_self]) | (with_reducible refine hK _ ?_; clear hK K) | (with_reducible refine And.intro ?_ ?_) | (with_reducible intro hc; try simp only [Bool.not_eq_true', Bool.not_eq_false', Bool.not_false, reduceCtorEq] at hc) | omega)
    all_goals first
      | exact retE_noch (chT_t ht) rfl rfl
      | (exfalso; omega; done)
      | (exfalso; simp_all; done)
      | trace_state
  | true =>
  rw [hf, ht] at hv
  simp only [Bool.and_true] at hv
  have ht' := inB_true.1 ht
  obtain ⟨f, rfl⟩ := Int.eq_ofNat_of_zero_le hf'.1
  obtain ⟨t, rfl⟩ := Int.eq_ofNat_of_zero_le ht'.1
  cases hok : flOk m with
  | false =>
    rw [hok] at hco
    refine FnE.of_body (fun N => [rows m, vi f, vi t]) (fun _ _ h => h) Try.call9 Try.func9 rfl Try.ntmps9 (ts := [6, 7]) rfl (fun _ => by simp) (chE.shape) (fun N => ?_)
    repeat' (first | (with_reducible first | refine then_normal ?_ | refine then_ret ?_ | refine then_exit ?_ | refine block_normal ?_ | refine block_ret ?_) | ((with_reducible show blockQ _ _ _ _); first | refine block_exit ?_ | refine block_exit_ne rfl ?_) | ((with_reducible show AWP _ _ _ _ _); first | (with_reducible first | refine AWP.seq ?_ | refine AWP.block ?_ | refine AWP.region ?_ | refine AWP.ret ?_ | refine AWP.exit ?_ | refine AWP.skip ?_) | refine AWP.drawn rfl (by kernel_rfl) ?_ | refine AWP.cond rfl ?_ ?_) | with_reducible refine ev_nil ?_ | ((first | ((with_reducible show evOps _ _ _ _ _ _); (first | refine ev_step rfl ?_ | refine ev_undef rfl rfl rfl ?_); intro K hK) | ((with_reducible show EvOpen _ _ _ _ _ _ _); refine ev_open ?_; intro K hK) | ((with_reducible show SkOpen _ _ _ _ _ _ _); refine sk_open ?_; intro K hK) | ((with_reducible show callK _ _ _ _ _ _ _ _); first  | (refine call_scalar (hsq) (Nat.le_of_ble_eq_true rfl) rfl ?_) | (refine call_scalar (hv _ rfl rfl) (Nat.le_of_ble_eq_true rfl) rfl ?_) | (refine call_pure ( hco) (Nat.le_of_ble_eq_true rfl) ?_))); simp only [evOp, evQ, withS, opd, kput, putS, upd, lookup, skipOp, argsK, loadOwn, bringIn, bring, Res.list, Res.slot, slotsOf, frz, newBlk, boxV, partsK, buildSliceK, plSlice, V.one, Value.oneCell', c_int, ei_ints, ea_ints, List.getElem?_cons_zero, List.getElem?_cons_succ, List.reverse_cons, List.reverse_nil, List.nil_append, List.cons_append, List.length_cons, List.length_nil, Nat.reduceEqDiff, Nat.reduceAdd, Nat.reduceLT, Nat.reduceLeDiff, Nat.mul_one, Nat.zero_add, Nat.mod_one, List.getD_cons_zero, ↓reduceIte, eq_self, true_and, and_true, Bool.not_true, Bool.not_false, Bool.true_eq_false, Bool.false_eq_true, false_implies, forall_const]) | refine ev_guard rfl rfl rfl ?_ ?_ | ((with_reducible show retQ _ _ _ _); simp only [eq_self]) | (with_reducible refine hK _ ?_; clear hK K) | (with_reducible refine And.intro ?_ ?_) | (with_reducible intro hc; try simp only [Bool.not_false, reduceCtorEq, Bool.true_eq_false] at hc) | omega)
    all_goals first
      | exact retE_noch (chT_ok hok) rfl rfl
      | (exfalso; omega; done)
      | (exfalso; simp_all; done)
      | trace_state
  | true =>
  by_cases hi : ent (dOf m) f t = 1000000000
  · rw [hok] at hco
    simp only [if_true] at hco
    have hi' : (rowAt (dOf m) f).getD t 0 = 1000000000 := hi
    have hl := lD.2 f (by omega)
    refine FnE.of_body (fun N => [rows m, vi f, vi t]) (fun _ _ h => h) Try.call9 Try.func9 rfl Try.ntmps9 (ts := [6, 7]) rfl (fun _ => by simp) (chE.shape) (fun N => ?_)
    repeat' (first | (with_reducible first | refine then_normal ?_ | refine then_ret ?_ | refine then_exit ?_ | refine block_normal ?_ | refine block_ret ?_) | ((with_reducible show blockQ _ _ _ _); first | refine block_exit ?_ | refine block_exit_ne rfl ?_) | ((with_reducible show AWP _ _ _ _ _); first | (refine AWP.holdW (id := 6) ?_) | (with_reducible first | refine AWP.seq ?_ | refine AWP.block ?_ | refine AWP.region ?_ | refine AWP.ret ?_ | refine AWP.exit ?_ | refine AWP.skip ?_) | refine AWP.drawn rfl (by kernel_rfl) ?_ | refine AWP.cond rfl ?_ ?_) | with_reducible refine ev_nil ?_ | ((first | ((with_reducible show evOps _ _ _ _ _ _); (first | refine ev_step rfl ?_ | refine ev_undef rfl rfl rfl ?_); intro K hK) | ((with_reducible show EvOpen _ _ _ _ _ _ _); refine ev_open ?_; intro K hK) | ((with_reducible show SkOpen _ _ _ _ _ _ _); refine sk_open ?_; intro K hK) | ((with_reducible show callK _ _ _ _ _ _ _ _); first  | (refine call_scalar (hsq) (Nat.le_of_ble_eq_true rfl) rfl ?_) | (refine call_scalar (hv _ rfl rfl) (Nat.le_of_ble_eq_true rfl) rfl ?_) | (refine call_pure ( hco) (Nat.le_of_ble_eq_true rfl) ?_))); simp only [evOp, evQ, binK, withS, opd, kput, putS, upd, lookup, argsK, loadOwn, bringIn, bring, Res.list, Res.slot, slotsOf, frz, newBlk, boxV, partsK, buildSliceK, plSlice, V.one, Value.oneCell', sz_ints, c_int, ei_ints, ea_ints, sz_rows, c_ints, List.getElem?_cons_zero, List.getElem?_cons_succ, List.reverse_cons, List.reverse_nil, List.nil_append, List.cons_append, List.length_cons, List.length_nil, Nat.reduceEqDiff, Nat.reduceAdd, Nat.reduceLT, Nat.reduceLeDiff, Nat.mul_one, Nat.add_zero, Nat.zero_add, Nat.mod_one, List.getD_cons_zero, ↓reduceIte, eq_self, true_and, Bool.not_true, Bool.false_eq_true, false_implies, forall_const, Int.toNat_natCast]) | refine ev_guard rfl rfl rfl ?_ ?_ | ((with_reducible show retQ _ _ _ _); simp only [eq_self]) | (with_reducible refine hK _ ?_; clear hK K) | (with_reducible refine And.intro ?_ ?_) | (with_reducible intro hc; try simp only [beq_iff_eq, beq_eq_false_iff_ne, Bool.not_false, ne_eq, reduceCtorEq] at hc) | omega)
    all_goals first
      | exact retE_noch (chT_inf (by rw [Int.toNat_natCast, Int.toNat_natCast]; exact hi)) rfl rfl
      | (exfalso; omega; done)
      | omega
      | (exfalso; simp_all; done)
      | trace_state
  · exact implCheapest_ok m f t h (by omega) (by omega) hok hi
end Go.Proofs.Ytlomkebhopaliaa
namespace Go.Proofs.Ytlomkebhopaliaa
set_option linter.unusedSimpArgs false
set_option linter.unusedVariables false
def StepsF (m : List (List Int)) (way : List Int) : Prop := ∀ i, i + 1 < way.length → vtx way i < m.length ∧ vtx way (i + 1) < m.length ∧ -1000000 ≤ ent m (vtx way i) (vtx way (i + 1)) ∧ ent m (vtx way i) (vtx way (i + 1)) ≤ 1000000
theorem walk_le {m : List (List Int)} {D : Mx} {way : List Int} (h : Rest m D) (h0 : vtx way 0 < m.length) (hw : StepsF m way) (hl : way.length ≤ 20) : ∀ q, q + 1 ≤ way.length → D (vtx way 0) (vtx way q) ≤ sumK m way q
  | 0, _ => by rw [h.diag _ h0]; exact Int.le_refl _
  | q + 1, hq => by
    have ih := walk_le h h0 hw hl q (by omega)
    obtain ⟨v1, v2, e1, e2⟩ := hw q (by omega)
    have sb := sumK_bd (m := m) (way := way) (fun i hi => (hw i hi).2.2) q (by omega)
    have l := h.le _ _ v1 v2
    have n1 := h.num _ _ h0 v1
    have n2 := h.num _ _ v1 v2
    have := of_plusI (h.tri _ _ _ h0 v1 v2) (by omega) (by omega)
    show _ ≤ sumK m way q + ent m (vtx way q) (vtx way (q + 1))
    omega
theorem stepsF_of {m : List (List Int)} {way : List Int} (hm : numM m) (hw : wayOk m way = true) : StepsF m way := fun i hi => by
  obtain ⟨h1, h2, h3⟩ := wayOk_parts hw
  have v1 := (vtx_lt h2 (i := i) (by omega)).2
  have v2 := (vtx_lt h2 (i := i + 1) (by omega)).2
  have e := allN_iff.1 h3 i (by omega)
  simp only [bne_iff_ne] at e
  have := hm _ _ v1 v2
  exact ⟨v1, v2, by omega⟩
theorem costK_sumK {m : List (List Int)} {way : List Int} (hw : StepsF m way) (hl : way.length ≤ 20) : ∀ q, q + 1 ≤ way.length → costK m way q = sumK m way q
  | 0, _ => rfl
  | q + 1, hq => by
    have ih := costK_sumK hw hl q (by omega)
    obtain ⟨v1, v2, e1, e2⟩ := hw q (by omega)
    have sb := sumK_bd (m := m) (way := way) (fun i hi => (hw i hi).2.2) q (by omega)
    show plusI (costK m way q) _ = sumK m way q + _
    rw [ih, plusI_ab (by omega) (by omega)]
theorem sumK_less {M M' : List (List Int)} {way : List Int} {k : Nat} {δ : Int} (h1 : ∀ i, i + 1 < way.length → ent M' (vtx way i) (vtx way (i + 1)) ≤ ent M (vtx way i) (vtx way (i + 1))) (h2 : ent M' (vtx way k) (vtx way (k + 1)) = ent M (vtx way k) (vtx way (k + 1)) - δ) : ∀ q, q + 1 ≤ way.length → sumK M' way q ≤ sumK M way q - if k < q then δ else 0
  | 0, _ => by show (0 : Int) ≤ 0 - _; rw [if_neg (by omega)]; omega
  | q + 1, hq => by
    have ih := sumK_less h1 h2 q (by omega)
    have s := h1 q (by omega)
    show sumK M' way q + ent M' (vtx way q) (vtx way (q + 1)) ≤ sumK M way q + ent M (vtx way q) (vtx way (q + 1)) - _
    by_cases e : q = k
    · subst e
      rw [if_neg (by omega)] at ih
      rw [if_pos (by omega), h2]; omega
    · by_cases e2 : k < q
      · rw [if_pos e2] at ih; rw [if_pos (by omega)]; omega
      · rw [if_neg e2] at ih; rw [if_neg (by omega)]; omega
section
variable {a b : List (List Int)} {way : List Int}
def mixK (a b : List (List Int)) (way : List Int) (k : Nat) : List (List Int) := matL a.length (mixX a b way k)
theorem mixK_len (k : Nat) : (mixK a b way k).length = a.length := matL_len _ _
theorem mixK_ent {k i c : Nat} (hi : i < a.length) (hc : c < a.length) : ent (mixK a b way k) i c = mixX a b way k i c := matL_ent hi hc
theorem mixK_ok (hp : WayP a b) (ho : flOk a = true) (k : Nat) : squB (mixK a b way k) = true ∧ flOk (mixK a b way k) = true ∧ ∀ i c, i < a.length → c < a.length → ent a i c ≤ ent (mixK a b way k) i c ∧ ent (mixK a b way k) i c ≤ ent b i c := by
  have pa := squB_parts hp.sa
  have pb := squB_parts hp.sb
  have hl := hp.len
  have hle : ∀ i c, i < a.length → c < a.length → ent a i c ≤ ent (mixK a b way k) i c ∧ ent (mixK a b way k) i c ≤ ent b i c := fun i c hi hc => by
    rw [mixK_ent hi hc]
    have := hp.le i c hi hc
    rcases mixX_or (low := a) (high := b) (way := way) i c k with h | h <;> rw [h] <;> omega
  have hs : squB (mixK a b way k) = true := squB_mk (by rw [mixK_len]; exact pa.1) (fun i hi => by rw [mixK_len] at hi ⊢; exact matL_row_len hi) fun i c hi hc => by
    rw [mixK_len] at hi hc
    rw [mixK_ent hi hc]
    rcases mixX_or (low := a) (high := b) (way := way) i c k with h | h <;> rw [h]
    · exact pa.2.2 i c hi hc
    · exact pb.2.2 i c (by omega) (by omega)
  exact ⟨hs, ok_high pa.2.2 (squB_parts hs).2.2 pa.1.2 (mixK_len k) (fun i c hi hc => (hle i c hi hc).1) ho, hle⟩
theorem way_b (hp : WayP a b) (hw : wayOk a way = true) : StepsF b way := fun i hi => by
  obtain ⟨h1, h2, h3⟩ := wayOk_parts hw
  have hl := hp.len
  have v1 := (vtx_lt h2 (i := i) (by omega)).2
  have v2 := (vtx_lt h2 (i := i + 1) (by omega)).2
  have := (mix_cost hp hw).2 i hi
  exact ⟨by omega, by omega, this⟩
theorem mixK_steps (hp : WayP a b) (ho : flOk a = true) (hw : wayOk a way = true) (k : Nat) : StepsF (mixK a b way k) way := fun i hi => by
  have sa := stepsF_of (squB_parts hp.sa).2.2 hw i hi
  have sb := way_b hp hw i hi
  have := (mixK_ok (way := way) hp ho k).2.2 _ _ sa.1 sa.2.1
  rw [mixK_len]
  exact ⟨sa.1, sa.2.1, by omega⟩
theorem sumK_same {M M' : List (List Int)} : ∀ q, (∀ i, i < q → ent M' (vtx way i) (vtx way (i + 1)) = ent M (vtx way i) (vtx way (i + 1))) → sumK M' way q = sumK M way q
  | 0, _ => rfl
  | q + 1, h => by
    show sumK M' way q + _ = sumK M way q + _
    rw [sumK_same q fun i hi => h i (by omega), h q (by omega)]
theorem sure_down (hp : WayP a b) (ho : flOk a = true) (hw : wayOk a way = true) (hv : swV a b way = true) : ∀ d k, k + d + 1 = way.length → sumK (mixK a b way k) way (way.length - 1) ≤ ent (dOf (mixK a b way k)) (vtx way 0) (vtx way (way.length - 1))
  | 0, k, hk => by
    have e : k = way.length - 1 := by omega
    have h := eq_of_beq hv
    have sa := stepsF_of (squB_parts hp.sa).2.2 hw
    rw [e]
    have h' : ent (dOf (mixK a b way (way.length - 1))) (vtx way 0) (vtx way (way.length - 1)) = sumK b way (way.length - 1) := h
    rw [h', sumK_same (M := b) (way.length - 1) fun i hi => by
      rw [mixK_ent (sa i (by omega)).1 (sa i (by omega)).2.1]
      exact mixX_at hi]
    exact Int.le_refl _
  | d + 1, k, hk => by
    have ih := sure_down hp ho hw hv d (k + 1) (by omega)
    obtain ⟨w1, w2, w3⟩ := wayOk_parts hw
    have sa := stepsF_of (squB_parts hp.sa).2.2 hw
    have sb := way_b hp hw
    have o1 := mixK_ok (way := way) hp ho (k + 1)
    have o0 := mixK_ok (way := way) hp ho k
    have st := mixK_steps hp ho hw (k + 1)
    have hR := rest_is o1.1 o1.2.1
    have v0 : vtx way 0 < a.length := (vtx_lt w2 (i := 0) (by omega)).2
    have vL : vtx way (way.length - 1) < a.length := (vtx_lt w2 (i := way.length - 1) (by omega)).2
    obtain ⟨k1, k2, k3⟩ := sa k (by omega)
    have hen : ent (mixK a b way (k + 1)) (vtx way k) (vtx way (k + 1)) = ent b (vtx way k) (vtx way (k + 1)) := by
      rw [mixK_ent k1 k2]; exact mixX_at (by omega)
    have hbk := (sb k (by omega)).2.2
    have hwk := walk_le hR (by rw [mixK_len]; exact v0) st (by omega) (way.length - 1) (by omega)
    have sbd := sumK_bd (m := mixK a b way (k + 1)) (way := way) (fun i hi => (st i hi).2.2) (way.length - 1) (by omega)
    have hle := (o0.2.2 _ _ k1 k2).2
    have hed := less_edge (M := mixK a b way (k + 1)) (M' := mixK a b way k) o1.1 o0.1 o1.2.1 o0.2.1 (by rw [mixK_len, mixK_len]) (i := vtx way k) (j := vtx way (k + 1)) (by rw [mixK_len]; exact k1) (by rw [mixK_len]; exact k2) (fun p q hp' hq' hne => by
      rw [mixK_len] at hp' hq'
      rw [mixK_ent hp' hq', mixK_ent hp' hq', mixX_succ]
      unfold updM
      rw [if_neg hne]) (by rw [hen]; exact hle) (by rw [hen]; omega) (f := vtx way 0) (t := vtx way (way.length - 1)) (by rw [mixK_len]; exact v0) (by rw [mixK_len]; exact vL) (by omega)
    have hsl := sumK_less (M := mixK a b way (k + 1)) (M' := mixK a b way k) (way := way) (k := k) (δ := ent (mixK a b way (k + 1)) (vtx way k) (vtx way (k + 1)) - ent (mixK a b way k) (vtx way k) (vtx way (k + 1))) (fun i hi => by
      obtain ⟨i1, i2, i3⟩ := sa i hi
      rw [mixK_ent i1 i2, mixK_ent i1 i2, mixX_succ]
      unfold updM
      by_cases e : vtx way i = vtx way k ∧ vtx way (i + 1) = vtx way (k + 1)
      · rw [if_pos e, e.1, e.2, ← mixK_ent k1 k2]; exact hle
      · rw [if_neg e]; exact Int.le_refl _) (by omega) (way.length - 1) (by omega)
    rw [if_pos (by omega)] at hsl
    omega
theorem mixK_zero (hp : WayP a b) : mixK a b way 0 = a := by
  have pa := squB_parts hp.sa
  exact ext_rows (mixK_len 0) rfl (fun i hi => matL_row_len hi) (fun i hi => pa.2.1 i hi) fun i c hi hc => mixK_ent hi hc
theorem sure_both (hp : WayP a b) (ho : flOk a = true) (hw : wayOk a way = true) (hv : swV a b way = true) : costK a way (way.length - 1) = ent (dOf a) (vtx way 0) (vtx way (way.length - 1)) ∧ costK b way (way.length - 1) = ent (dOf b) (vtx way 0) (vtx way (way.length - 1)) := by
  obtain ⟨w1, w2, w3⟩ := wayOk_parts hw
  have pa := squB_parts hp.sa
  have pb := squB_parts hp.sb
  have hl := hp.len
  have sa := stepsF_of pa.2.2 hw
  have sb := way_b hp hw
  have v0 : vtx way 0 < a.length := (vtx_lt w2 (i := 0) (by omega)).2
  have vL : vtx way (way.length - 1) < a.length := (vtx_lt w2 (i := way.length - 1) (by omega)).2
  have ob := ok_high pa.2.2 pb.2.2 pa.1.2 hl hp.le ho
  have h0 := sure_down hp ho hw hv (way.length - 1) 0 (by omega)
  rw [mixK_zero hp] at h0
  have a1 := walk_le (rest_is hp.sa ho) v0 sa (by omega) (way.length - 1) (by omega)
  have b1 := walk_le (rest_is hp.sb ob) (by omega) sb (by omega) (way.length - 1) (by omega)
  have hm := mixK_ok (way := way) hp ho (way.length - 1)
  have b2 := dOf_up hm.1 hp.sb hm.2.1 ob (by rw [mixK_len]; exact hl) (fun i c hi hc => by rw [mixK_len] at hi hc; exact (hm.2.2 i c hi hc).2) (i := vtx way 0) (c := vtx way (way.length - 1)) (by rw [mixK_len]; exact v0) (by rw [mixK_len]; exact vL)
  have b3 : ent (dOf (mixK a b way (way.length - 1))) (vtx way 0) (vtx way (way.length - 1)) = sumK b way (way.length - 1) := eq_of_beq hv
  rw [costK_sumK sa (by omega) _ (by omega), costK_sumK sb (by omega) _ (by omega)]
  omega
end
/-! ### Products -/
theorem leastN_mono {g h : Nat → Int} : ∀ n, (∀ i, i < n → g i ≤ h i) → leastN g n ≤ leastN h n
  | 0, _ => Int.le_refl _
  | n + 1, e => by
    rw [leastN_min, leastN_min]
    have := leastN_mono n fun i hi => e i (by omega)
    have := e n (by omega)
    omega
theorem leastN_inf_iff {g : Nat → Int} (hg : ∀ i, g i ≤ 1000000000) : ∀ n, leastN g n = 1000000000 ↔ ∀ i, i < n → g i = 1000000000
  | 0 => ⟨fun _ i hi => by omega, fun _ => rfl⟩
  | n + 1 => by
    rw [leastN_min]
    have ih := leastN_inf_iff hg n
    have h1 := leastN_inf g n
    have h2 := hg n
    constructor
    · intro h i hi
      by_cases e : i = n
      · subst e; omega
      · exact ih.1 (by omega) i (by omega)
    · intro h
      have := ih.2 fun i hi => h i (by omega)
      have := h n (by omega)
      omega
def PtP (a b : List Int) : Prop := ∀ i, pt a i ≤ pt b i ∧ (pt a i = 1000000000 ↔ pt b i = 1000000000) ∧ (pt a i = 1000000000 ∨ (-1000000 ≤ pt a i ∧ pt a i ≤ 1000000)) ∧ (pt b i = 1000000000 ∨ (-1000000 ≤ pt b i ∧ pt b i ≤ 1000000))
theorem ptP_of {a b : List Int} (h : boundsB a b = true) : PtP a b := fun i => by
  obtain ⟨h1, h2, h3⟩ := boundsB_parts h
  by_cases hi : i < a.length
  · rw [pt_in hi, pt_in (by omega)]
    have na := numsB_get (polyB_nums h1) hi
    have nb := numsB_get (polyB_nums h2) (j := i) (by omega)
    have hb : pairB a b = true := by unfold boundsB at h; simp only [Bool.and_eq_true] at h; exact h.2
    unfold pairB both at hb
    simp only [Bool.and_eq_true] at hb
    have hk := allN_iff.1 hb.2 i hi
    simp only [numB, finB, Bool.or_eq_true, Bool.and_eq_true, decide_eq_true_eq, beq_iff_eq] at na nb
    generalize a.getD i 0 = x at *
    generalize b.getD i 0 = y at *
    by_cases e : x = 1000000000 <;> by_cases e2 : y = 1000000000 <;> simp_all [okP] <;> omega
  · rw [pt_out (by omega), pt_out (by omega)]
    exact ⟨Int.le_refl _, Iff.rfl, .inl rfl, .inl rfl⟩
theorem PtP.refl {a b : List Int} (h : PtP a b) : PtP a a ∧ PtP b b := ⟨fun i => ⟨Int.le_refl _, Iff.rfl, (h i).2.2.1, (h i).2.2.1⟩, fun i => ⟨Int.le_refl _, Iff.rfl, (h i).2.2.2, (h i).2.2.2⟩⟩
theorem cv_two {a b c d : List Int} (h : PtP a b) (h' : PtP c d) (m j : Nat) : cv a c m j ≤ cv b d m j ∧ (cv a c m j = 1000000000 ↔ cv b d m j = 1000000000) ∧ cv a c m j ≤ 1000000000 ∧ cv b d m j ≤ 1000000000 := by
  unfold cv
  split
  · obtain ⟨h1, h2, h3, h4⟩ := h j
    obtain ⟨k1, k2, k3, k4⟩ := h' (m - j)
    rcases plusI_cases (pt a j) (pt c (m - j)) with ⟨e1, e2⟩ | ⟨e1, e2, e3⟩ <;> rcases plusI_cases (pt b j) (pt d (m - j)) with ⟨f1, f2⟩ | ⟨f1, f2, f3⟩
    · rw [e2, f2]; omega
    · exfalso; omega
    · exfalso; omega
    · rw [e3, f3]; omega
  · exact ⟨Int.le_refl _, Iff.rfl, Int.le_refl _, Int.le_refl _⟩
theorem prod_two {a b c d : List Int} (h : PtP a b) (h' : PtP c d) (m : Nat) : leastN (cv a c m) (m + 1) ≤ leastN (cv b d m) (m + 1) ∧ (leastN (cv a c m) (m + 1) = 1000000000 ↔ leastN (cv b d m) (m + 1) = 1000000000) := by
  refine ⟨leastN_mono _ fun i _ => (cv_two h h' m i).1, ?_⟩
  rw [leastN_inf_iff (fun i => (cv_two h h' m i).2.2.1), leastN_inf_iff (fun i => (cv_two h h' m i).2.2.2)]
  exact ⟨fun e i hi => ((cv_two h h' m i).2.1).1 (e i hi), fun e i hi => ((cv_two h h' m i).2.1).2 (e i hi)⟩
theorem prod_bounds {a b c d : List Int} (h1 : boundsB a b = true) (h2 : boundsB c d = true) (h3 : (prodR a c).2 = true) (h4 : (prodR b d).2 = true) :
    boundsB (prodR a c).1 (prodR b d).1 = true ∧ ((prodR a d).2 = true → withinB (prodR a c).1 (prodR b d).1 (prodR a d).1 = true ∧ polyB (prodR a d).1 = true) := by
  obtain ⟨p1, p2, p3⟩ := boundsB_parts h1
  obtain ⟨q1, q2, q3⟩ := boundsB_parts h2
  have hx : ∀ u v : List Int, (prodR u v).2 = true → polyB (prodL u v) = true ∧ prodR u v = (prodL u v, true) := fun u v h => by
    cases e : polyB (prodL u v) with
    | true => exact ⟨rfl, prodR_yes e⟩
    | false => rw [prodR_no e] at h; cases h
  obtain ⟨x1, x2⟩ := hx a c h3
  obtain ⟨y1, y2⟩ := hx b d h4
  rw [x2, y2]
  have u1 := ptP_of h1
  have u2 := ptP_of h2
  have hb : boundsB (prodL a c) (prodL b d) = true := by
    unfold boundsB
    rw [x1, y1]
    show pairB _ _ = true
    unfold pairB
    refine both_yes (by rw [prodL_len, prodL_len, p3, q3]) fun j hj => ?_
    rw [prodL_len] at hj
    rw [prodL_get hj, prodL_get (by omega)]
    have := prod_two u1 u2 j
    exact okP_ok this.1 (by rw [Bool.eq_iff_iff, beq_iff_eq, beq_iff_eq]; exact this.2)
  refine ⟨hb, fun h5 => ?_⟩
  obtain ⟨z1, z2⟩ := hx a d h5
  rw [z2]
  refine ⟨?_, z1⟩
  unfold withinB
  rw [hb, z1]
  simp only [Bool.true_and, Bool.and_eq_true, beq_iff_eq]
  refine ⟨by rw [prodL_len, prodL_len, q3], allN_true fun j hj => ?_⟩
  rw [prodL_len] at hj
  rw [prodL_get hj, prodL_get (by omega), prodL_get (by omega)]
  have g1 := (prod_two u1.refl.1 u2 j).1
  have g2 := (prod_two u1 u2.refl.2 j).1
  exact inB_true.2 ⟨g1, g2⟩
end Go.Proofs.Ytlomkebhopaliaa
namespace Go.Proofs.Ytlomkebhopaliaa
set_option linter.unusedSimpArgs false
set_option linter.unusedVariables false
structure WbF (A B : List (List Int)) (x y : Int) : Prop where
  way : wayB A B = true
  lo : chT A x y = true
  hi : chT B x y = true
  v1 : (wbR A B x y).1 = ent (dOf A) x.toNat y.toNat
  v2 : (wbR A B x y).2.1 = ent (dOf B) x.toNat y.toNat
  le : (wbR A B x y).1 ≤ (wbR A B x y).2.1
  f1 : finB (wbR A B x y).1 = true
  f2 : finB (wbR A B x y).2.1 = true
theorem wb_facts {A B : List (List Int)} {x y : Int} (h : (wbR A B x y).2.2 = true) : WbF A B x y := by
  have hT : wbT A B x y = true := by
    cases e : wbT A B x y with
    | true => rfl
    | false => rw [wbR_no e] at h; exact h
  have e := wbR_yes hT
  unfold wbT at hT
  simp only [Bool.and_eq_true] at hT
  obtain ⟨⟨⟨⟨⟨h1, h2⟩, h3⟩, h4⟩, h5⟩, h6⟩ := hT
  have hp := wayB_parts h1
  have pa := squB_parts hp.sa
  have pb := squB_parts hp.sb
  have i2 := inB_true.1 h2
  have i3 := inB_true.1 h3
  have i5 := finB_true.1 h5
  have i6 := finB_true.1 h6
  have hok := ok_high pa.2.2 pb.2.2 pa.1.2 hp.len hp.le h4
  have hup := dOf_up hp.sa hp.sb h4 hok hp.len hp.le (i := x.toNat) (c := y.toNat) (by omega) (by omega)
  refine ⟨h1, chT_all hp.sa h2 h3 h4 (by omega), chT_all hp.sb (by rw [hp.len]; exact h2) (by rw [hp.len]; exact h3) hok (by omega), by rw [e], by rw [e], by rw [e]; exact hup, by rw [e]; exact h5, by rw [e]; exact h6⟩
theorem cheap_cost {m : List (List Int)} {f t : Int} {way : List Int} (hs : squB m = true) (h : Cheapest m f.toNat t.toNat way) (hf : finB (ent (dOf m) f.toNat t.toNat) = true) : (if squB m && wayOk m way then toldR (costK m way (way.length - 1)) else (0, false)) = (ent (dOf m) f.toNat t.toNat, true) := by
  have i := finB_true.1 hf
  rw [hs, h.ok, h.cost]
  show (if numB _ then _ else _) = _
  rw [numB_finB (by omega), hf]
  rfl
def cowR (m : List (List Int)) (way : List Int) : Int × Bool := if squB m && wayOk m way then toldR (costK m way (way.length - 1)) else (0, false)
theorem cowR_val {m : List (List Int)} {way : List Int} (h : (cowR m way).2 = true) : (cowR m way).1 = costK m way (way.length - 1) := by
  unfold cowR at h ⊢
  split at h
  · unfold toldR at h ⊢
    split at h
    · rename_i h1 h2; rw [if_pos h1, if_pos h2]
    · cases h
  · cases h
theorem sure_facts {C D : List (List Int)} {way : List Int} (h1 : (swR C D way).2 = true) (h2 : (swR C D way).1 = true) (h3 : (wbR C D (way.getD 0 0) (way.getD (way.length - 1) 0)).2.2 = true) :
    ((cowR C way).2 = true → (cowR C way).1 = (wbR C D (way.getD 0 0) (way.getD (way.length - 1) 0)).1) ∧ ((cowR D way).2 = true → (cowR D way).1 = (wbR C D (way.getD 0 0) (way.getD (way.length - 1) 0)).2.1) := by
  have hT : swT C D way = true := by
    cases e : swT C D way with
    | true => rfl
    | false => rw [swR_no e] at h1; cases h1
  rw [swR_yes hT] at h2
  unfold swT at hT
  simp only [Bool.and_eq_true] at hT
  obtain ⟨⟨w1, w2⟩, w3⟩ := hT
  have b := sure_both (wayB_parts w1) w3 w2 h2
  have F := wb_facts h3
  exact ⟨fun h => by rw [cowR_val h, F.v1, b.1]; rfl, fun h => by rw [cowR_val h, F.v2, b.2]; rfl⟩
theorem pb_facts {a b c d : List Int} (h : (pbR a b c d).2.2 = true) : polyB a = true ∧ polyB d = true ∧ boundsB (pbR a b c d).1 (pbR a b c d).2.1 = true ∧ ((prodR a d).2 = true → withinB (pbR a b c d).1 (pbR a b c d).2.1 (prodR a d).1 = true ∧ polyB (prodR a d).1 = true) := by
  cases h1 : boundsB a b with
  | false => rw [pbR_no1 h1] at h; cases h
  | true =>
  cases h2 : boundsB c d with
  | false => rw [pbR_no2 h2] at h; cases h
  | true =>
  cases h3 : (prodR a c).2 with
  | false => rw [pbR_no3 h3] at h; cases h
  | true =>
  cases h4 : (prodR b d).2 with
  | false => rw [pbR_no4 h4] at h; cases h
  | true =>
  have e := pbR_yes h1 h2 h3 h4
  have P := prod_bounds h1 h2 h3 h4
  rw [e]
  exact ⟨(boundsB_parts h1).1, (boundsB_parts h2).2.1, P.1, P.2⟩
end Go.Proofs.Ytlomkebhopaliaa
namespace Go.Proofs.Ytlomkebhopaliaa
open Go.RowKit Go.Proofs
set_option linter.unusedSimpArgs false
set_option linter.unusedVariables false
theorem AWP.letRow_seqW [Cx] {P : Program} {N : Nat} {id : Nat} {ops : Array Oper} {b : Bool} {y : Code} {Q : Exit → ASt → Prop} {s : ASt} (t : Nat) {i sz len : Nat} {blk : Blk} (h1 : lookup s.σ t = some (.one (.own i sz 0 len))) (h2 : s.h[i]? = some (some blk)) (h3 : len * sz ≤ blk.n)
    (h : ∀ (u0 : Value) (Z : Nat → Prop), (∀ b, Z b → N ≤ b) → (∀ Z', ZSt Z' s → Disj Z' Z) → AWP N P (.seq (.region id ops b) y) Q ⟨upd s.σ t (.one (.pv (.row u0 Z sz len blk.f))), s.h.set i none, s.nt⟩) : AWP N P (.seq (.region id ops b) y) Q s :=
  AWP.letRow t ⟨i, sz, len, blk, h1, h2, h3, h⟩
theorem Fn.of_old2 {P : Program} {f : FuncId} {vs : List V} {v v' : Value} (h : FnE P f vs (fun r => r = .many [.pv (.val v), .pv (.val v')])) : Fn P f vs (.many [.pv (.val v), .pv (.val v')]) := by
  refine ⟨h.entry, fun w S us hus => (h.runs w us (RdL.mono (fun b _ _ => ⟨trivial, rfl⟩) _ _ hus)).mono ?_⟩
  rintro e w' ⟨r, u, φ, rfl, _, he, hh, us', hu, hr⟩
  refine ⟨u, [], he, ⟨rfl, hh.below, fun id blk hi => by simp [bring, Res.list] at hi, fun i j bi bj b z z' hi => by simp [bring, Res.list] at hi⟩, us', hu, ?_⟩
  match us', hr with
  | [u1, u2], ⟨r1, r2, _⟩ => exact ⟨r1, r2, trivial⟩
theorem bare_mat {n : Nat} {X : Mx} {u0 : Value} {Z0 : Nat → Prop} {u : Nat → Value} {Z : Nat → Nat → Prop} : Bare (.row u0 Z0 1 n fun q => .row (u q) (Z q) 1 n fun c => vi (X q c)) (rows (matL n X)) := by
  refine ⟨rfl, (matL_len n X).symm, fun q hq => ⟨rfl, (matL_row_len (by omega)).symm, fun c hc => ?_⟩⟩
  show Bare (vi (X q c)) (vi ((rowAt (matL n X) q).getD c 0))
  rw [show (rowAt (matL n X) q).getD c 0 = X q c from matL_ent (by omega) (by omega)]
  exact rfl
set_option maxHeartbeats 4000000 in
set_option maxRecDepth 100000 in
theorem implIsSureWay_fn (a b : List (List Int)) (way : List Int) (ha : a.length ≤ 1099511627776) (hb : b.length ≤ 1099511627776) (hw : way.length ≤ 1099511627776) (hra : ∀ i, i < a.length → (rowAt a i).length ≤ 1099511627776) (hrb : ∀ i, i < b.length → (rowAt b i).length ≤ 1099511627776) :
    Fn Try.prog 12 [rows a, rows b, ints way] (.many [.pv (vb (swR a b way).1), .pv (vb (swR a b way).2)]) := by
  have hbw := areWayBounds_fn a b ha hb hra hrb
  cases hwb : wayB a b with
  | false =>
    rw [swR_no (swT_way hwb)]
    rw [hwb] at hbw
    refine Fn.of_body Try.call12 Try.func12 rfl Try.ntmps12 (ts := [6, 7]) rfl (by simp) rfl (fun N => ?_)
    repeat' (first | (with_reducible first | refine then_normal ?_ | refine then_ret ?_ | refine then_exit ?_ | refine block_normal ?_ | refine block_ret ?_) | ((with_reducible show blockQ _ _ _ _); first | refine block_exit ?_ | refine block_exit_ne rfl ?_) | ((with_reducible show AWP _ _ _ _ _); first | (with_reducible first | refine AWP.seq ?_ | refine AWP.block ?_ | refine AWP.region ?_ | refine AWP.ret ?_ | refine AWP.exit ?_ | refine AWP.skip ?_) | refine AWP.drawn rfl (by kernel_rfl) ?_ | refine AWP.cond rfl ?_ ?_) | with_reducible refine ev_nil ?_ | ((first | ((with_reducible show evOps _ _ _ _ _ _); (first | refine ev_step rfl ?_ | refine ev_undef rfl rfl rfl ?_); intro K hK) | ((with_reducible show EvOpen _ _ _ _ _ _ _); refine ev_open ?_; intro K hK) | ((with_reducible show SkOpen _ _ _ _ _ _ _); refine sk_open ?_; intro K hK) | ((with_reducible show callK _ _ _ _ _ _ _ _); first  | (refine call_scalar (hbw) (Nat.le_of_ble_eq_true rfl) rfl ?_))); simp only [evOp, evQ, withS, opd, kput, putS, upd, lookup, skipOp, argsK, bringIn, bring, Res.list, Res.slot, slotsOf, List.reverse_cons, List.reverse_nil, List.nil_append, List.cons_append, Nat.reduceEqDiff, Nat.reduceAdd, Nat.reduceLT, Nat.zero_add, ↓reduceIte, eq_self, true_and, and_true, Bool.not_false, Bool.true_eq_false, false_implies, forall_const]) | refine ev_guard rfl rfl rfl ?_ ?_ | ((with_reducible show retQ _ _ _ _); simp only [retQ, retOk, getL, lookup, Option.map_some, fitsL, fits, ND, srcs, Res.list, VE, Nat.reduceEqDiff, ↓reduceIte, and_true]) | (with_reducible refine hK _ ?_; clear hK K) | (with_reducible refine And.intro ?_ ?_) | (with_reducible intro hc; try simp only [Bool.not_false, Bool.true_eq_false] at hc) | omega)
    all_goals first
      | (exfalso; simp_all; done)
      | trace_state
  | true =>
    have hp := wayB_parts hwb
    have pa := squB_parts hp.sa
    have pb := squB_parts hp.sb
    have hl := hp.len
    rw [hwb] at hbw
    have hiw := isWay_fn a way hp.sa hw
    cases hwo : wayOk a way with
    | false =>
      rw [swR_no (swT_ok hwo)]
      rw [hwo] at hiw
      refine Fn.of_body Try.call12 Try.func12 rfl Try.ntmps12 (ts := [6, 7]) rfl (by simp) rfl (fun N => ?_)
      repeat' (first | (with_reducible first | refine then_normal ?_ | refine then_ret ?_ | refine then_exit ?_ | refine block_normal ?_ | refine block_ret ?_) | ((with_reducible show blockQ _ _ _ _); first | refine block_exit ?_ | refine block_exit_ne rfl ?_) | ((with_reducible show AWP _ _ _ _ _); first | (with_reducible first | refine AWP.seq ?_ | refine AWP.block ?_ | refine AWP.region ?_ | refine AWP.ret ?_ | refine AWP.exit ?_ | refine AWP.skip ?_) | refine AWP.drawn rfl (by kernel_rfl) ?_ | refine AWP.cond rfl ?_ ?_) | with_reducible refine ev_nil ?_ | ((first | ((with_reducible show evOps _ _ _ _ _ _); (first | refine ev_step rfl ?_ | refine ev_undef rfl rfl rfl ?_); intro K hK) | ((with_reducible show EvOpen _ _ _ _ _ _ _); refine ev_open ?_; intro K hK) | ((with_reducible show SkOpen _ _ _ _ _ _ _); refine sk_open ?_; intro K hK) | ((with_reducible show callK _ _ _ _ _ _ _ _); first  | (refine call_scalar (hbw) (Nat.le_of_ble_eq_true rfl) rfl ?_) | (refine call_scalar (hiw) (Nat.le_of_ble_eq_true rfl) rfl ?_))); simp only [evOp, evQ, withS, opd, kput, putS, upd, lookup, argsK, bringIn, bring, Res.list, Res.slot, slotsOf, List.reverse_cons, List.reverse_nil, List.nil_append, List.cons_append, Nat.reduceEqDiff, Nat.reduceAdd, Nat.reduceLT, Nat.zero_add, ↓reduceIte, eq_self, true_and, Bool.not_true, Bool.not_false, Bool.false_eq_true, false_implies, forall_const]) | refine ev_guard rfl rfl rfl ?_ ?_ | ((with_reducible show retQ _ _ _ _); simp only [retQ, retOk, getL, lookup, Option.map_some, fitsL, fits, ND, srcs, Res.list, VE, Nat.reduceEqDiff, ↓reduceIte, and_true]) | (with_reducible refine hK _ ?_; clear hK K) | (with_reducible refine And.intro ?_ ?_) | (with_reducible intro hc; try simp only [Bool.not_false, reduceCtorEq, Bool.true_eq_false] at hc) | omega)
      all_goals first
        | (exfalso; simp_all; done)
        | trace_state
    | true =>
      rw [hwo] at hiw
      have hc1 := implCosts_fn a hp.sa
      cases hok : flOk a with
      | false =>
        rw [swR_no (swT_fl hok)]
        rw [hok] at hc1
        refine Fn.of_body Try.call12 Try.func12 rfl Try.ntmps12 (ts := [6, 7]) rfl (by simp) rfl (fun N => ?_)
        repeat' (first | (with_reducible first | refine then_normal ?_ | refine then_ret ?_ | refine then_exit ?_ | refine block_normal ?_ | refine block_ret ?_) | ((with_reducible show blockQ _ _ _ _); first | refine block_exit ?_ | refine block_exit_ne rfl ?_) | ((with_reducible show AWP _ _ _ _ _); first | (with_reducible first | refine AWP.seq ?_ | refine AWP.block ?_ | refine AWP.region ?_ | refine AWP.ret ?_ | refine AWP.exit ?_ | refine AWP.skip ?_) | refine AWP.drawn rfl (by kernel_rfl) ?_ | refine AWP.cond rfl ?_ ?_) | with_reducible refine ev_nil ?_ | ((first | ((with_reducible show evOps _ _ _ _ _ _); (first | refine ev_step rfl ?_ | refine ev_undef rfl rfl rfl ?_); intro K hK) | ((with_reducible show EvOpen _ _ _ _ _ _ _); refine ev_open ?_; intro K hK) | ((with_reducible show SkOpen _ _ _ _ _ _ _); refine sk_open ?_; intro K hK) | ((with_reducible show callK _ _ _ _ _ _ _ _); first  | (refine call_scalar (hbw) (Nat.le_of_ble_eq_true rfl) rfl ?_) | (refine call_scalar (hiw) (Nat.le_of_ble_eq_true rfl) rfl ?_) | (refine call_pure ( hc1) (Nat.le_of_ble_eq_true rfl) ?_))); simp only [evOp, evQ, withS, opd, kput, putS, upd, lookup, argsK, bringIn, bring, Res.list, Res.slot, slotsOf, List.getElem?_cons_zero, List.getElem?_cons_succ, List.reverse_cons, List.reverse_nil, List.nil_append, List.cons_append, Nat.reduceEqDiff, Nat.reduceAdd, Nat.reduceLT, Nat.zero_add, ↓reduceIte, eq_self, true_and, Bool.not_true, Bool.not_false, Bool.false_eq_true, false_implies, forall_const]) | refine ev_guard rfl rfl rfl ?_ ?_ | ((with_reducible show retQ _ _ _ _); simp only [retQ, retOk, getL, lookup, Option.map_some, fitsL, fits, ND, srcs, Res.list, VE, Nat.reduceEqDiff, ↓reduceIte, and_true]) | (with_reducible refine hK _ ?_; clear hK K) | (with_reducible refine And.intro ?_ ?_) | (with_reducible intro hc; try simp only [Bool.not_false, reduceCtorEq, Bool.true_eq_false] at hc) | omega)
        all_goals first
          | (exfalso; simp_all; done)
          | trace_state
      | true =>
        rw [swR_yes (swT_all hwb hwo hok)]
        rw [hok] at hc1
        simp only [if_true] at hc1
        obtain ⟨w1, w2, w3⟩ := wayOk_parts hwo
        have hM := mixL_ok hp way
        have pm := squB_parts hM.1
        have hokM := ok_high pa.2.2 pm.2.2 (by omega) hM.2.1 hM.2.2 hok
        have hcM := implCosts_fn (mixL a b way) hM.1
        rw [hokM] at hcM
        simp only [if_true] at hcM
        have hmc := mix_cost hp hwo
        have hvM : vertB (mixL a b way).length (fun i => way.getD i 0) way.length = true := by rw [hM.2.1]; exact w2
        have hcs := costOfSteps_fn (mixL a b way) way (by omega) pm.2.1 pm.2.2 (by omega) hvM
        rw [hmc.1] at hcs
        have lM := dOf_lens (mixL a b way)
        refine Fn.of_old2 ?_
        have hL : FnE Try.prog 40 [rows a] (fullL a.length 30 fun i => isRow (rowAt a i)) := clones_full a ha fun i hi => by have := pa.2.1 i hi; omega
        refine FnE.of_body (fun N => [.old (fun b => b < N) (rows a), .old (fun b => b < N) (rows b), .old (fun b => b < N) (ints way)]) (fun _ us h => oldL_rd _ us h) Try.call12 Try.func12 rfl Try.ntmps12 (ts := [6, 7]) rfl (fun _ => by simp) (fun r h => by subst h; rfl) (fun N => ?_)
        have hbw' := hbw.bare (vs' := [.old (fun b => b < N) (rows a), .old (fun b => b < N) (rows b)]) ⟨VE.rfl' (rows a), VE.rfl' (rows b), trivial⟩
        have hiw' := hiw.bare (vs' := [.old (fun b => b < N) (rows a), .old (fun b => b < N) (ints way)]) ⟨VE.rfl' (rows a), VE.rfl' (ints way), trivial⟩
        have hc1' := hc1.bare (vs' := [.old (fun b => b < N) (rows a)]) ⟨VE.rfl' (rows a), trivial⟩
        have hL' := hL.bare (vs' := [.old (fun b => b < N) (rows a)]) ⟨VE.rfl' (rows a), trivial⟩
        repeat' (first | ((with_reducible show callEK _ _ _ _ _ _ _); simp only [callEK, opd, upd, lookup, argsK, bringIn, Res.list, Res.slot, List.reverse_cons, List.reverse_nil, List.nil_append, List.cons_append, Nat.reduceEqDiff, Nat.reduceLT, ↓reduceIte, eq_self, true_and]; refine ⟨_, hL', ?_⟩; rintro _ ⟨F0, hF0, rfl⟩ hnew; simp only [Res.list, NewL, and_true, true_and] at hnew; simp only [bring, List.nil_append, List.length_nil]) | (with_reducible first | refine then_normal ?_ | refine then_ret ?_ | refine then_exit ?_ | refine block_normal ?_ | refine block_ret ?_) | ((with_reducible show blockQ _ _ _ _); first | refine block_exit ?_ | refine block_exit_ne rfl ?_) | ((with_reducible show AWP _ _ _ _ _); first | (refine AWP.region_callE (f := 40) (os1 := [_]) ?_) | (with_reducible first | refine AWP.seq ?_ | refine AWP.block ?_ | refine AWP.region ?_ | refine AWP.ret ?_ | refine AWP.exit ?_ | refine AWP.skip ?_) | refine AWP.drawn rfl (by kernel_rfl) ?_ | refine AWP.cond rfl ?_ ?_) | with_reducible refine ev_nil ?_ | ((first | ((with_reducible show evOps _ _ _ _ _ _); (first | refine ev_step rfl ?_ | refine ev_undef rfl rfl rfl ?_); intro K hK) | ((with_reducible show EvOpen _ _ _ _ _ _ _); refine ev_open ?_; intro K hK) | ((with_reducible show SkOpen _ _ _ _ _ _ _); refine sk_open ?_; intro K hK) | ((with_reducible show callK _ _ _ _ _ _ _ _); first  | (refine call_scalar (hbw') (Nat.le_of_ble_eq_true rfl) rfl ?_) | (refine call_scalar (hiw') (Nat.le_of_ble_eq_true rfl) rfl ?_) | (refine call_pure ( hc1') (Nat.le_of_ble_eq_true rfl) ?_))); simp only [evOp, evQ, withS, opd, kput, putS, upd, lookup, argsK, bringIn, bring, Res.list, Res.slot, slotsOf, List.getElem?_cons_zero, List.getElem?_cons_succ, List.reverse_cons, List.reverse_nil, List.nil_append, List.cons_append, Nat.reduceEqDiff, Nat.reduceAdd, Nat.reduceLT, Nat.zero_add, ↓reduceIte, eq_self, true_and, Bool.not_true, Bool.false_eq_true, false_implies, forall_const]) | refine ev_guard rfl rfl rfl ?_ ?_ | ((with_reducible show retQ _ _ _ _); simp only [eq_self]) | (with_reducible refine hK _ ?_; clear hK K) | (with_reducible refine And.intro ?_ ?_) | (with_reducible intro hc; try simp only [Bool.not_false, reduceCtorEq] at hc) | omega)
        all_goals try (exfalso; simp_all; done)
        obtain ⟨u, Z, hRw, hFe⟩ := rw_of (N := N) (n := a.length) (D := ent a) (F := F0) (fun q hq => ⟨by
          obtain ⟨u, Z, e⟩ := (hF0 q hq).1
          rw [pa.2.1 q hq] at e
          exact ⟨u, Z, e⟩, (hF0 q hq).2⟩) fun q hq => NewV.ge (hnew q hq)
        clear hnew hF0
        have hz : ∀ (q : Nat) (ps : List (V × V)) (x : Value), ZStep (Z q) ps (.val x) (.val x) := fun q ps x => .inl ⟨trivial, rfl⟩
        have hzo : ∀ (q : Nat) (ps : List (V × V)) (x : V), q < a.length → ZStep (Z q) ps (.old (fun b => b < N) x) (.old (fun b => b < N) x) := fun q ps x hq => .inl ⟨fun b hb hb' => by have := (hRw q hq).1 b hb'; have hb : b < N := hb; omega, rfl⟩
        refine AWP.loop_entR [0] (fun k : Nat => ⟨[(0, .one (.pv (.old (fun b => b < N) (rows a)))), (1, .one (.pv (.old (fun b => b < N) (rows b)))), (2, .one (.pv (.old (fun b => b < N) (ints way)))), (10, .one (.own 0 1 0 a.length)), (11, sc (.int .i64 ((k : Int) + 1)))], [some ⟨30, a.length, fun q => .row (u q) (Z q) 1 a.length fun c => vi (mixX a b way k q c)⟩], 89⟩)
          (fun k => k ≤ way.length - 1) (fun k => way.length - k) 0 (by omega) ⟨rfl, by decide, by simp [EntSR, SlR, VE, lookup, upd, sc, VE.rfl'], ⟨rfl, Nat.le_refl _, fun q hq => VE.of_eq (hFe q hq)⟩, trivial⟩ ?_
        intro k hk
        by_cases hkl : k + 1 < way.length
        · have v1 := vtx_lt w2 (i := k) (by omega)
          have v2 := vtx_lt w2 (i := k + 1) (by omega)
          have rb := pb.2.1 (vtx way k) (by omega)
          have hst := mixX_succ a b way k
          generalize hY : mixX a b way k = Y at *
          unfold vtx at v1 v2 rb hst
          repeat' (first | ((with_reducible show Ax _ _ _ _ _); (refine ax_setRow (j := (way.getD (k + 1) 0).toNat) 46 ⟨[(0, .one (.pv (.old (fun b => b < N) (rows a)))), (1, .one (.pv (.old (fun b => b < N) (rows b)))), (2, .one (.pv (.old (fun b => b < N) (ints way)))), (10, .one (.own 0 1 0 a.length)), (11, sc (.int .i64 ((k : Int) + 1)))], [some ⟨30, a.length, fun q => .row (u q) (Z q) 1 a.length fun r => vi (updM Y (way.getD k 0).toNat (way.getD (k + 1) 0).toNat (ent b (way.getD k 0).toNat (way.getD (k + 1) 0).toNat) q r)⟩], 89⟩ (u0 := u (way.getD k 0).toNat) (v := .int .i64 (ent b (way.getD k 0).toNat (way.getD (k + 1) 0).toNat)) (f := fun r => vi (Y (way.getD k 0).toNat r)) (Z := Z (way.getD k 0).toNat) (n := a.length) (by rfl) (by rfl) (by rfl) rfl v2.2 (fun _ _ => ⟨_, rfl⟩) (by kernel_rfl) (hRw (way.getD k 0).toNat v1.2).1 (by rfl) (by exact ⟨hzo _ _ _ v1.2, hzo _ _ _ v1.2, hzo _ _ _ v1.2, ⟨rfl, rfl, rfl, rfl⟩, hz _ _ _, trivial⟩) (by exact ⟨⟨rfl, Nat.le_refl _, fun q hq => rw_sw (X := Y) (u := u) (c := (way.getD (k + 1) 0).toNat) (v := ent b (way.getD k 0).toNat (way.getD (k + 1) 0).toNat) hRw v1.2 q hq⟩, trivial⟩) ?_)) | ((with_reducible show evNx _ _ _ _ _ _); first | (with_reducible refine nx_done ?_) | (refine nx_one rfl ?_) | (refine nx_alt rfl ?_ ?_) | (with_reducible refine nx_st ?_)) | ((with_reducible show evSx _ _ _ _ _ _); first | (with_reducible refine sx_done ?_) | (with_reducible refine sx_st ?_) | (with_reducible refine sx_op ?_)) | ((with_reducible show evTake _ _ _ _ _); with_reducible refine take_nil ?_) | ((with_reducible show evSy _ _ _ _ _ _ _); first | (with_reducible refine sy_done ?_) | (refine sy_last rfl ?_) | (refine sy_one (by decide) rfl ?_) | (refine sy_alt (by decide) rfl ?_ ?_) | (with_reducible refine sy_st ?_)) | ((with_reducible show StK _ _ _); first | fail) | (with_reducible first | refine then_normal ?_ | refine then_ret ?_ | refine then_exit ?_ | refine block_normal ?_ | refine block_ret ?_) | ((with_reducible show blockQ _ _ _ _); first | refine block_exit ?_ | refine block_exit_ne rfl ?_) | ((with_reducible show AWP _ _ _ _ _); first | (refine AWP.drawn_sy (id := 10) 27 [0, 1, 2, 3, 4, 5, 6, 7, 8, 9, 10, 11, 12, 13, 14, 15, 16, 17, 18, 19, 20, 21, 22, 23, 24, 25] (.one 26 (.one 27 .done)) rfl (by kernel_rfl) ?_) | (with_reducible first | refine AWP.seq ?_ | refine AWP.block ?_ | refine AWP.region ?_ | refine AWP.ret ?_ | refine AWP.exit ?_ | refine AWP.skip ?_) | refine AWP.drawn rfl (by kernel_rfl) ?_ | refine AWP.cond rfl ?_ ?_) | with_reducible refine ev_nil ?_ | ((first | ((with_reducible show evNx _ _ _ _ _ _); refine nx_take rfl ?_; intro K hK) | ((with_reducible show Ax _ _ _ _ _); first | (refine ax_op rfl ?_; intro K hK)) | ((with_reducible show evTake _ _ _ _ _); refine take_step rfl ?_; intro K hK) | ((with_reducible show evSy _ _ _ _ _ _ _); refine sy_take rfl ?_; intro K hK) | ((with_reducible show AxB _ _ _ _ _); first | (refine axb_ptr rfl rfl sz_ints (by omega) (by omega) (Nat.le_of_ble_eq_true rfl) ?_) | (refine axb_op rfl rfl ?_; intro K hK)) | ((with_reducible show evOps _ _ _ _ _ _); (first | refine ev_step rfl ?_ | refine ev_undef rfl rfl rfl ?_); intro K hK) | ((with_reducible show EvOpen _ _ _ _ _ _ _); refine ev_open ?_; intro K hK) | ((with_reducible show SkOpen _ _ _ _ _ _ _); refine sk_open ?_; intro K hK) | ((with_reducible show callK _ _ _ _ _ _ _ _); first  | fail)); simp only [evOp, oldZ, evQ, evB, binK, withS, opd, kput, putS, upd, lookup, argsK, loadOwn, InK_i64, sz_ints, c_int, sz_rows, c_ints, nat_pp, nat_p1, List.getElem?_cons_zero, List.reverse_cons, List.reverse_nil, List.nil_append, Nat.reduceEqDiff, Nat.reduceLT, Nat.mul_one, Nat.add_zero, Nat.zero_add, ↓reduceIte, eq_self, true_and, Option.isSome_some]) | refine ev_guard rfl rfl rfl ?_ ?_ | ((with_reducible show retQ _ _ _ _); simp only [eq_self]) | (with_reducible refine hK _ ?_; clear hK K) | (with_reducible refine And.intro ?_ ?_) | (with_reducible intro hc; try simp only [decide_eq_true_eq, decide_eq_false_iff_not, Int.not_lt] at hc) | omega)
          all_goals first
            | (exfalso; omega)
            | omega
            | (rw [rb]; omega)
            | (exact ⟨k + 1, by omega, by omega, [0], rfl, by decide, by simp [EntSR, SlR, VE, lookup, sc, VE.rfl'], by rw [hst]; exact BE.rfl' _, trivial⟩)
            | trace_state
        · obtain rfl : k = way.length - 1 := by omega
          have v0 := vtx_lt w2 (i := 0) (by omega)
          have vl := vtx_lt w2 (i := way.length - 1) (by omega)
          have r0 := lM.2 (vtx way 0) (by omega)
          have l0 := lM.1.trans hM.2.1
          unfold vtx at v0 vl r0
          repeat' (first | (with_reducible first | refine then_normal ?_ | refine then_ret ?_ | refine then_exit ?_ | refine block_normal ?_ | refine block_ret ?_) | ((with_reducible show blockQ _ _ _ _); first | refine block_exit ?_ | refine block_exit_ne rfl ?_) | ((with_reducible show AWP _ _ _ _ _); first | (refine AWP.letRow_seqW (id := 11) 10 rfl rfl (by simp) ?_ ; intro u1 Z1 hZ1 hD1 ; simp only [upd, List.set_cons_zero, Nat.reduceEqDiff, ↓reduceIte, eq_self]) | (with_reducible first | refine AWP.seq ?_ | refine AWP.block ?_ | refine AWP.region ?_ | refine AWP.ret ?_ | refine AWP.exit ?_ | refine AWP.skip ?_) | refine AWP.drawn rfl (by kernel_rfl) ?_ | refine AWP.cond rfl ?_ ?_) | with_reducible refine ev_nil ?_ | ((first | ((with_reducible show evOps _ _ _ _ _ _); (first | refine ev_step rfl ?_ | refine ev_undef rfl rfl rfl ?_); intro K hK) | ((with_reducible show EvOpen _ _ _ _ _ _ _); refine ev_open ?_; intro K hK) | ((with_reducible show SkOpen _ _ _ _ _ _ _); refine sk_open ?_; intro K hK) | ((with_reducible show callK _ _ _ _ _ _ _ _); first  | (refine call_pure ( hcM.bare (vs' := [_]) ⟨bare_mat, trivial⟩) (Nat.le_of_ble_eq_true rfl) ?_) | (refine call_scalar (hcs.bare (vs' := [_, .old (fun b => b < N) (ints way)]) ⟨bare_mat, VE.rfl' (ints way), trivial⟩) (Nat.le_of_ble_eq_true rfl) rfl ?_))); simp only [evOp, oldZ, evQ, evB, binK, withS, opd, kput, putS, upd, lookup, argsK, loadOwn, bringIn, bring, Res.list, Res.slot, InK_i64, storeK, sz_ints, c_int, sz_rows, c_ints, nat_pp, nat_p1, nat_m1, List.getElem?_cons_zero, List.getElem?_cons_succ, List.reverse_cons, List.reverse_nil, List.nil_append, List.cons_append, Nat.reduceEqDiff, Nat.reduceLT, Nat.mul_one, Nat.add_zero, Nat.zero_add, ↓reduceIte, eq_self, true_and, Bool.true_eq_false, Int.toNat_zero, Option.isSome_some]) | refine ev_guard rfl rfl rfl ?_ ?_ | ((with_reducible show retQ _ _ _ _); simp only [eq_self]) | (with_reducible refine hK _ ?_; clear hK K) | (with_reducible refine And.intro ?_ ?_) | (with_reducible intro hc; try simp only [decide_eq_true_eq, decide_eq_false_iff_not, Int.not_lt] at hc) | omega)
          all_goals first
            | (exfalso; omega)
            | exact v0.1.1
            | exact vl.1.1
            | (rw [l0]; exact v0.1.2)
            | (rw [r0, hM.2.1]; exact vl.1.2)
            | skip
          refine ⟨_, rfl, ⟨trivial, trivial, trivial⟩, ?_⟩
          simp only [retOk, getL, lookup, Option.map_some, fitsL, fits, ND, srcs, Res.list, VE, Value.bool.injEq, Nat.reduceEqDiff, ↓reduceIte, and_true]
          first | exact rfl | exact ⟨rfl, trivial⟩ | exact ⟨rfl, rfl⟩ | trace_state
set_option maxHeartbeats 4000000 in
set_option maxRecDepth 100000 in
theorem specIsSureWay_fn (a b : List (List Int)) (way : List Int) (ha : a.length ≤ 1099511627776) (hb : b.length ≤ 1099511627776) (hw : way.length ≤ 1099511627776) (hra : ∀ i, i < a.length → (rowAt a i).length ≤ 1099511627776) (hrb : ∀ i, i < b.length → (rowAt b i).length ≤ 1099511627776) :
    Fn Try.prog 13 [rows a, rows b, ints way] (.many [.pv (vb (swR a b way).1), .pv (vb (swR a b way).2)]) := by
  have hbw := boWays_fn a b ha hb hra hrb
  cases hwb : wayB a b with
  | false =>
    rw [swR_no (swT_way hwb)]
    rw [hwb] at hbw
    refine Fn.of_body Try.call13 Try.func13 rfl Try.ntmps13 (ts := [6, 7]) rfl (by simp) rfl (fun N => ?_)
    repeat' (first | (with_reducible first | refine then_normal ?_ | refine then_ret ?_ | refine then_exit ?_ | refine block_normal ?_ | refine block_ret ?_) | ((with_reducible show blockQ _ _ _ _); first | refine block_exit ?_ | refine block_exit_ne rfl ?_) | ((with_reducible show AWP _ _ _ _ _); first | (with_reducible first | refine AWP.seq ?_ | refine AWP.block ?_ | refine AWP.region ?_ | refine AWP.ret ?_ | refine AWP.exit ?_ | refine AWP.skip ?_) | refine AWP.drawn rfl (by kernel_rfl) ?_ | refine AWP.cond rfl ?_ ?_) | with_reducible refine ev_nil ?_ | ((first | ((with_reducible show evOps _ _ _ _ _ _); (first | refine ev_step rfl ?_ | refine ev_undef rfl rfl rfl ?_); intro K hK) | ((with_reducible show EvOpen _ _ _ _ _ _ _); refine ev_open ?_; intro K hK) | ((with_reducible show SkOpen _ _ _ _ _ _ _); refine sk_open ?_; intro K hK) | ((with_reducible show callK _ _ _ _ _ _ _ _); first  | (refine call_scalar (hbw) (Nat.le_of_ble_eq_true rfl) rfl ?_))); simp only [evOp, evQ, withS, opd, kput, putS, upd, lookup, skipOp, argsK, bringIn, bring, Res.list, Res.slot, slotsOf, List.reverse_cons, List.reverse_nil, List.nil_append, List.cons_append, Nat.reduceEqDiff, Nat.reduceAdd, Nat.reduceLT, Nat.zero_add, ↓reduceIte, eq_self, true_and, and_true, Bool.not_false, Bool.true_eq_false, false_implies, forall_const]) | refine ev_guard rfl rfl rfl ?_ ?_ | ((with_reducible show retQ _ _ _ _); simp only [retQ, retOk, getL, lookup, Option.map_some, fitsL, fits, ND, srcs, Res.list, VE, Nat.reduceEqDiff, ↓reduceIte, and_true]) | (with_reducible refine hK _ ?_; clear hK K) | (with_reducible refine And.intro ?_ ?_) | (with_reducible intro hc; try simp only [Bool.not_false, Bool.true_eq_false] at hc) | omega)
    all_goals first
      | (exfalso; simp_all; done)
      | trace_state
  | true =>
    have hp := wayB_parts hwb
    have pa := squB_parts hp.sa
    have pb := squB_parts hp.sb
    have hl := hp.len
    rw [hwb] at hbw
    have hiw := wyWay_fn a way hp.sa hw
    cases hwo : wayOk a way with
    | false =>
      rw [swR_no (swT_ok hwo)]
      rw [hwo] at hiw
      refine Fn.of_body Try.call13 Try.func13 rfl Try.ntmps13 (ts := [6, 7]) rfl (by simp) rfl (fun N => ?_)
      repeat' (first | (with_reducible first | refine then_normal ?_ | refine then_ret ?_ | refine then_exit ?_ | refine block_normal ?_ | refine block_ret ?_) | ((with_reducible show blockQ _ _ _ _); first | refine block_exit ?_ | refine block_exit_ne rfl ?_) | ((with_reducible show AWP _ _ _ _ _); first | (with_reducible first | refine AWP.seq ?_ | refine AWP.block ?_ | refine AWP.region ?_ | refine AWP.ret ?_ | refine AWP.exit ?_ | refine AWP.skip ?_) | refine AWP.drawn rfl (by kernel_rfl) ?_ | refine AWP.cond rfl ?_ ?_) | with_reducible refine ev_nil ?_ | ((first | ((with_reducible show evOps _ _ _ _ _ _); (first | refine ev_step rfl ?_ | refine ev_undef rfl rfl rfl ?_); intro K hK) | ((with_reducible show EvOpen _ _ _ _ _ _ _); refine ev_open ?_; intro K hK) | ((with_reducible show SkOpen _ _ _ _ _ _ _); refine sk_open ?_; intro K hK) | ((with_reducible show callK _ _ _ _ _ _ _ _); first  | (refine call_scalar (hbw) (Nat.le_of_ble_eq_true rfl) rfl ?_) | (refine call_scalar (hiw) (Nat.le_of_ble_eq_true rfl) rfl ?_))); simp only [evOp, evQ, withS, opd, kput, putS, upd, lookup, argsK, bringIn, bring, Res.list, Res.slot, slotsOf, List.reverse_cons, List.reverse_nil, List.nil_append, List.cons_append, Nat.reduceEqDiff, Nat.reduceAdd, Nat.reduceLT, Nat.zero_add, ↓reduceIte, eq_self, true_and, Bool.not_true, Bool.not_false, Bool.false_eq_true, false_implies, forall_const]) | refine ev_guard rfl rfl rfl ?_ ?_ | ((with_reducible show retQ _ _ _ _); simp only [retQ, retOk, getL, lookup, Option.map_some, fitsL, fits, ND, srcs, Res.list, VE, Nat.reduceEqDiff, ↓reduceIte, and_true]) | (with_reducible refine hK _ ?_; clear hK K) | (with_reducible refine And.intro ?_ ?_) | (with_reducible intro hc; try simp only [Bool.not_false, reduceCtorEq, Bool.true_eq_false] at hc) | omega)
      all_goals first
        | (exfalso; simp_all; done)
        | trace_state
    | true =>
      rw [hwo] at hiw
      have hc1 := specCosts_fn a hp.sa
      cases hok : flOk a with
      | false =>
        rw [swR_no (swT_fl hok)]
        rw [hok] at hc1
        refine Fn.of_body Try.call13 Try.func13 rfl Try.ntmps13 (ts := [6, 7]) rfl (by simp) rfl (fun N => ?_)
        repeat' (first | (with_reducible first | refine then_normal ?_ | refine then_ret ?_ | refine then_exit ?_ | refine block_normal ?_ | refine block_ret ?_) | ((with_reducible show blockQ _ _ _ _); first | refine block_exit ?_ | refine block_exit_ne rfl ?_) | ((with_reducible show AWP _ _ _ _ _); first | (with_reducible first | refine AWP.seq ?_ | refine AWP.block ?_ | refine AWP.region ?_ | refine AWP.ret ?_ | refine AWP.exit ?_ | refine AWP.skip ?_) | refine AWP.drawn rfl (by kernel_rfl) ?_ | refine AWP.cond rfl ?_ ?_) | with_reducible refine ev_nil ?_ | ((first | ((with_reducible show evOps _ _ _ _ _ _); (first | refine ev_step rfl ?_ | refine ev_undef rfl rfl rfl ?_); intro K hK) | ((with_reducible show EvOpen _ _ _ _ _ _ _); refine ev_open ?_; intro K hK) | ((with_reducible show SkOpen _ _ _ _ _ _ _); refine sk_open ?_; intro K hK) | ((with_reducible show callK _ _ _ _ _ _ _ _); first  | (refine call_scalar (hbw) (Nat.le_of_ble_eq_true rfl) rfl ?_) | (refine call_scalar (hiw) (Nat.le_of_ble_eq_true rfl) rfl ?_) | (refine call_pure ( hc1) (Nat.le_of_ble_eq_true rfl) ?_))); simp only [evOp, evQ, withS, opd, kput, putS, upd, lookup, argsK, bringIn, bring, Res.list, Res.slot, slotsOf, List.getElem?_cons_zero, List.getElem?_cons_succ, List.reverse_cons, List.reverse_nil, List.nil_append, List.cons_append, Nat.reduceEqDiff, Nat.reduceAdd, Nat.reduceLT, Nat.zero_add, ↓reduceIte, eq_self, true_and, Bool.not_true, Bool.not_false, Bool.false_eq_true, false_implies, forall_const]) | refine ev_guard rfl rfl rfl ?_ ?_ | ((with_reducible show retQ _ _ _ _); simp only [retQ, retOk, getL, lookup, Option.map_some, fitsL, fits, ND, srcs, Res.list, VE, Nat.reduceEqDiff, ↓reduceIte, and_true]) | (with_reducible refine hK _ ?_; clear hK K) | (with_reducible refine And.intro ?_ ?_) | (with_reducible intro hc; try simp only [Bool.not_false, reduceCtorEq, Bool.true_eq_false] at hc) | omega)
        all_goals first
          | (exfalso; simp_all; done)
          | trace_state
      | true =>
        rw [swR_yes (swT_all hwb hwo hok)]
        rw [hok] at hc1
        obtain ⟨w1, w2, w3⟩ := wayOk_parts hwo
        have hM := mixL_ok hp way
        have pm := squB_parts hM.1
        have hokM := ok_high pa.2.2 pm.2.2 (by omega) hM.2.1 hM.2.2 hok
        have hcM := specCosts_fn (mixL a b way) hM.1
        rw [hokM] at hcM
        have hmc := mix_cost hp hwo
        have hsb := sumK_bd hmc.2
        have lM := dOf_lens (mixL a b way)
        refine Fn.of_old2 ?_
        have hL : FnE Try.prog 42 [rows a] (fullL a.length 30 fun i => isRow (rowAt a i)) := mxOwn_full a ha fun i hi => by have := pa.2.1 i hi; omega
        refine FnE.of_body (fun N => [.old (fun b => b < N) (rows a), .old (fun b => b < N) (rows b), .old (fun b => b < N) (ints way)]) (fun _ us h => oldL_rd _ us h) Try.call13 Try.func13 rfl Try.ntmps13 (ts := [6, 7]) rfl (fun _ => by simp) (fun r h => by subst h; rfl) (fun N => ?_)
        have hbw' := hbw.bare (vs' := [.old (fun b => b < N) (rows a), .old (fun b => b < N) (rows b)]) ⟨VE.rfl' (rows a), VE.rfl' (rows b), trivial⟩
        have hiw' := hiw.bare (vs' := [.old (fun b => b < N) (rows a), .old (fun b => b < N) (ints way)]) ⟨VE.rfl' (rows a), VE.rfl' (ints way), trivial⟩
        have hc1' := hc1.bare (vs' := [.old (fun b => b < N) (rows a)]) ⟨VE.rfl' (rows a), trivial⟩
        have hL' := hL.bare (vs' := [.old (fun b => b < N) (rows a)]) ⟨VE.rfl' (rows a), trivial⟩
        repeat' (first | ((with_reducible show callEK _ _ _ _ _ _ _); simp only [callEK, opd, upd, lookup, argsK, bringIn, Res.list, Res.slot, List.reverse_cons, List.reverse_nil, List.nil_append, List.cons_append, Nat.reduceEqDiff, Nat.reduceLT, ↓reduceIte, eq_self, true_and]; refine ⟨_, hL', ?_⟩; rintro _ ⟨F0, hF0, rfl⟩ hnew; simp only [Res.list, NewL, and_true, true_and] at hnew; simp only [bring, List.nil_append, List.length_nil]) | (with_reducible first | refine then_normal ?_ | refine then_ret ?_ | refine then_exit ?_ | refine block_normal ?_ | refine block_ret ?_) | ((with_reducible show blockQ _ _ _ _); first | refine block_exit ?_ | refine block_exit_ne rfl ?_) | ((with_reducible show AWP _ _ _ _ _); first | (refine AWP.region_callE (f := 42) (os1 := [_]) ?_) | (with_reducible first | refine AWP.seq ?_ | refine AWP.block ?_ | refine AWP.region ?_ | refine AWP.ret ?_ | refine AWP.exit ?_ | refine AWP.skip ?_) | refine AWP.drawn rfl (by kernel_rfl) ?_ | refine AWP.cond rfl ?_ ?_) | with_reducible refine ev_nil ?_ | ((first | ((with_reducible show evOps _ _ _ _ _ _); (first | refine ev_step rfl ?_ | refine ev_undef rfl rfl rfl ?_); intro K hK) | ((with_reducible show EvOpen _ _ _ _ _ _ _); refine ev_open ?_; intro K hK) | ((with_reducible show SkOpen _ _ _ _ _ _ _); refine sk_open ?_; intro K hK) | ((with_reducible show callK _ _ _ _ _ _ _ _); first  | (refine call_scalar (hbw') (Nat.le_of_ble_eq_true rfl) rfl ?_) | (refine call_scalar (hiw') (Nat.le_of_ble_eq_true rfl) rfl ?_) | (refine call_pure ( hc1') (Nat.le_of_ble_eq_true rfl) ?_))); simp only [evOp, evQ, withS, opd, kput, putS, upd, lookup, argsK, bringIn, bring, Res.list, Res.slot, slotsOf, List.getElem?_cons_zero, List.getElem?_cons_succ, List.reverse_cons, List.reverse_nil, List.nil_append, List.cons_append, Nat.reduceEqDiff, Nat.reduceAdd, Nat.reduceLT, Nat.zero_add, ↓reduceIte, eq_self, true_and, Bool.not_true, Bool.false_eq_true, false_implies, forall_const]) | refine ev_guard rfl rfl rfl ?_ ?_ | ((with_reducible show retQ _ _ _ _); simp only [eq_self]) | (with_reducible refine hK _ ?_; clear hK K) | (with_reducible refine And.intro ?_ ?_) | (with_reducible intro hc; try simp only [Bool.not_false, reduceCtorEq] at hc) | omega)
        all_goals try (exfalso; simp_all; done)
        obtain ⟨u, Z, hRw, hFe⟩ := rw_of (N := N) (n := a.length) (D := ent a) (F := F0) (fun q hq => ⟨by
          obtain ⟨u, Z, e⟩ := (hF0 q hq).1
          rw [pa.2.1 q hq] at e
          exact ⟨u, Z, e⟩, (hF0 q hq).2⟩) fun q hq => NewV.ge (hnew q hq)
        clear hnew hF0
        have hz : ∀ (q : Nat) (ps : List (V × V)) (x : Value), ZStep (Z q) ps (.val x) (.val x) := fun q ps x => .inl ⟨trivial, rfl⟩
        have hzo : ∀ (q : Nat) (ps : List (V × V)) (x : V), q < a.length → ZStep (Z q) ps (.old (fun b => b < N) x) (.old (fun b => b < N) x) := fun q ps x hq => .inl ⟨fun b hb hb' => by have := (hRw q hq).1 b hb'; have hb : b < N := hb; omega, rfl⟩
        refine AWP.loop_entR [0] (fun k : Nat => ⟨[(0, .one (.pv (.old (fun b => b < N) (rows a)))), (1, .one (.pv (.old (fun b => b < N) (rows b)))), (2, .one (.pv (.old (fun b => b < N) (ints way)))), (10, .one (.own 0 1 0 a.length)), (11, sc (.int .i64 (sumK b way k))), (12, sc (.int .i64 ((k : Int) + 1)))], [some ⟨30, a.length, fun q => .row (u q) (Z q) 1 a.length fun c => vi (mixX a b way k q c)⟩], 94⟩)
          (fun k => k ≤ way.length - 1) (fun k => way.length - k) 0 (by omega) ⟨rfl, by decide, by simp [EntSR, SlR, VE, lookup, upd, sc, VE.rfl', sumK], ⟨rfl, Nat.le_refl _, fun q hq => VE.of_eq (hFe q hq)⟩, trivial⟩ ?_
        intro k hk
        by_cases hkl : k + 1 < way.length
        · have v1 := vtx_lt w2 (i := k) (by omega)
          have v2 := vtx_lt w2 (i := k + 1) (by omega)
          have rb := pb.2.1 (vtx way k) (by omega)
          have hst := mixX_succ a b way k
          have hsk : sumK b way (k + 1) = sumK b way k + ent b (vtx way k) (vtx way (k + 1)) := rfl
          have hs1 := hsb k (by omega)
          have hs2 := hsb (k + 1) (by omega)
          rw [hsk] at hs2
          generalize hY : mixX a b way k = Y at *
          unfold vtx at v1 v2 rb hst hsk hs2
          have hs3 : -9223372036854775808 ≤ sumK b way k + ent b (way.getD k 0).toNat (way.getD (k + 1) 0).toNat ∧ sumK b way k + ent b (way.getD k 0).toNat (way.getD (k + 1) 0).toNat ≤ 9223372036854775807 := by omega
          repeat' (first | ((with_reducible show Ax _ _ _ _ _); (refine ax_setRow (j := (way.getD (k + 1) 0).toNat) 54 ⟨[(0, .one (.pv (.old (fun b => b < N) (rows a)))), (1, .one (.pv (.old (fun b => b < N) (rows b)))), (2, .one (.pv (.old (fun b => b < N) (ints way)))), (10, .one (.own 0 1 0 a.length)), (11, sc (.int .i64 (sumK b way k))), (12, sc (.int .i64 ((k : Int) + 1))), (13, sc (.int .i64 (way.getD k 0))), (14, sc (.int .i64 (way.getD (k + 1) 0)))], [some ⟨30, a.length, fun q => .row (u q) (Z q) 1 a.length fun r => vi (updM Y (way.getD k 0).toNat (way.getD (k + 1) 0).toNat (ent b (way.getD k 0).toNat (way.getD (k + 1) 0).toNat) q r)⟩], 94⟩ (u0 := u (way.getD k 0).toNat) (v := .int .i64 (ent b (way.getD k 0).toNat (way.getD (k + 1) 0).toNat)) (f := fun r => vi (Y (way.getD k 0).toNat r)) (Z := Z (way.getD k 0).toNat) (n := a.length) (by rfl) (by rfl) (by rfl) rfl v2.2 (fun _ _ => ⟨_, rfl⟩) (by kernel_rfl) (hRw (way.getD k 0).toNat v1.2).1 (by rfl) (by exact ⟨hzo _ _ _ v1.2, hzo _ _ _ v1.2, hzo _ _ _ v1.2, ⟨rfl, rfl, rfl, rfl⟩, hz _ _ _, hz _ _ _, hz _ _ _, hz _ _ _, trivial⟩) (by exact ⟨⟨rfl, Nat.le_refl _, fun q hq => rw_sw (X := Y) (u := u) (c := (way.getD (k + 1) 0).toNat) (v := ent b (way.getD k 0).toNat (way.getD (k + 1) 0).toNat) hRw v1.2 q hq⟩, trivial⟩) ?_)) | ((with_reducible show evNx _ _ _ _ _ _); first | (with_reducible refine nx_done ?_) | (refine nx_one rfl ?_) | (refine nx_alt rfl ?_ ?_) | (with_reducible refine nx_st ?_)) | ((with_reducible show evSx _ _ _ _ _ _); first | (with_reducible refine sx_done ?_) | (with_reducible refine sx_st ?_) | (with_reducible refine sx_op ?_)) | ((with_reducible show evTake _ _ _ _ _); with_reducible refine take_nil ?_) | ((with_reducible show evSy _ _ _ _ _ _ _); first | (with_reducible refine sy_done ?_) | (refine sy_last rfl ?_) | (refine sy_one (by decide) rfl ?_) | (refine sy_alt (by decide) rfl ?_ ?_) | (with_reducible refine sy_st ?_)) | ((with_reducible show StK _ _ _); first | fail) | (with_reducible first | refine then_normal ?_ | refine then_ret ?_ | refine then_exit ?_ | refine block_normal ?_ | refine block_ret ?_) | ((with_reducible show blockQ _ _ _ _); first | refine block_exit ?_ | refine block_exit_ne rfl ?_) | ((with_reducible show AWP _ _ _ _ _); first | (refine AWP.drawn_sy (id := 12) 13 [0, 1, 2, 3, 4, 5, 6, 7, 8, 9, 10, 11] (.one 12 (.one 13 .done)) rfl (by kernel_rfl) ?_) | (with_reducible first | refine AWP.seq ?_ | refine AWP.block ?_ | refine AWP.region ?_ | refine AWP.ret ?_ | refine AWP.exit ?_ | refine AWP.skip ?_) | refine AWP.drawn rfl (by kernel_rfl) ?_ | refine AWP.cond rfl ?_ ?_) | with_reducible refine ev_nil ?_ | ((first | ((with_reducible show evNx _ _ _ _ _ _); refine nx_take rfl ?_; intro K hK) | ((with_reducible show Ax _ _ _ _ _); first | (refine ax_op rfl ?_; intro K hK)) | ((with_reducible show evTake _ _ _ _ _); refine take_step rfl ?_; intro K hK) | ((with_reducible show evSy _ _ _ _ _ _ _); refine sy_take rfl ?_; intro K hK) | ((with_reducible show AxB _ _ _ _ _); first | (refine axb_ptr rfl rfl sz_ints (by omega) (by omega) (Nat.le_of_ble_eq_true rfl) ?_) | (refine axb_op rfl rfl ?_; intro K hK)) | ((with_reducible show evOps _ _ _ _ _ _); (first | refine ev_step rfl ?_ | refine ev_undef rfl rfl rfl ?_); intro K hK) | ((with_reducible show EvOpen _ _ _ _ _ _ _); refine ev_open ?_; intro K hK) | ((with_reducible show SkOpen _ _ _ _ _ _ _); refine sk_open ?_; intro K hK) | ((with_reducible show callK _ _ _ _ _ _ _ _); first  | fail)); simp only [evOp, oldZ, evQ, evB, binK, withS, opd, kput, putS, upd, lookup, argsK, loadOwn, InK_i64, sz_ints, c_int, sz_rows, c_ints, nat_pp, nat_p1, List.getElem?_cons_zero, List.reverse_cons, List.reverse_nil, List.nil_append, Nat.reduceEqDiff, Nat.reduceLT, Nat.mul_one, Nat.add_zero, Nat.zero_add, ↓reduceIte, eq_self, true_and, Option.isSome_some]) | refine ev_guard rfl rfl rfl ?_ ?_ | ((with_reducible show retQ _ _ _ _); simp only [eq_self]) | (with_reducible refine hK _ ?_; clear hK K) | (with_reducible refine And.intro ?_ ?_) | (with_reducible intro hc; try simp only [decide_eq_true_eq, decide_eq_false_iff_not, Int.not_lt] at hc) | omega)
          all_goals first
            | (exfalso; omega)
            | omega
            | (rw [rb]; omega)
            | exact hs3.1
            | exact hs3.2
            | (exact ⟨k + 1, by omega, by omega, [0], rfl, by decide, by simp [EntSR, SlR, VE, lookup, sc, VE.rfl', hsk], by rw [hst]; exact BE.rfl' _, trivial⟩)
            | trace_state
        · obtain rfl : k = way.length - 1 := by omega
          have v0 := vtx_lt w2 (i := 0) (by omega)
          have vl := vtx_lt w2 (i := way.length - 1) (by omega)
          have r0 := lM.2 (vtx way 0) (by omega)
          have l0 := lM.1.trans hM.2.1
          unfold vtx at v0 vl r0
          repeat' (first | (with_reducible first | refine then_normal ?_ | refine then_ret ?_ | refine then_exit ?_ | refine block_normal ?_ | refine block_ret ?_) | ((with_reducible show blockQ _ _ _ _); first | refine block_exit ?_ | refine block_exit_ne rfl ?_) | ((with_reducible show AWP _ _ _ _ _); first | (refine AWP.letRow_seqW (id := 14) 10 rfl rfl (by simp) ?_ ; intro u1 Z1 hZ1 hD1 ; simp only [upd, List.set_cons_zero, Nat.reduceEqDiff, ↓reduceIte, eq_self]) | (with_reducible first | refine AWP.seq ?_ | refine AWP.block ?_ | refine AWP.region ?_ | refine AWP.ret ?_ | refine AWP.exit ?_ | refine AWP.skip ?_) | refine AWP.drawn rfl (by kernel_rfl) ?_ | refine AWP.cond rfl ?_ ?_) | with_reducible refine ev_nil ?_ | ((first | ((with_reducible show evOps _ _ _ _ _ _); (first | refine ev_step rfl ?_ | refine ev_undef rfl rfl rfl ?_); intro K hK) | ((with_reducible show EvOpen _ _ _ _ _ _ _); refine ev_open ?_; intro K hK) | ((with_reducible show SkOpen _ _ _ _ _ _ _); refine sk_open ?_; intro K hK) | ((with_reducible show callK _ _ _ _ _ _ _ _); first  | (refine call_pure ( hcM.bare (vs' := [_]) ⟨bare_mat, trivial⟩) (Nat.le_of_ble_eq_true rfl) ?_))); simp only [evOp, oldZ, evQ, evB, binK, withS, opd, kput, putS, upd, lookup, argsK, loadOwn, bringIn, bring, Res.list, Res.slot, InK_i64, storeK, sz_ints, c_int, sz_rows, c_ints, nat_pp, nat_p1, nat_m1, List.getElem?_cons_zero, List.getElem?_cons_succ, List.reverse_cons, List.reverse_nil, List.nil_append, Nat.reduceEqDiff, Nat.reduceLT, Nat.mul_one, Nat.add_zero, Nat.zero_add, ↓reduceIte, eq_self, true_and, Bool.true_eq_false, Int.toNat_zero, Option.isSome_some]) | refine ev_guard rfl rfl rfl ?_ ?_ | ((with_reducible show retQ _ _ _ _); simp only [eq_self]) | (with_reducible refine hK _ ?_; clear hK K) | (with_reducible refine And.intro ?_ ?_) | (with_reducible intro hc; try simp only [decide_eq_true_eq, decide_eq_false_iff_not, Int.not_lt] at hc) | omega)
          all_goals first
            | (exfalso; omega)
            | exact v0.1.1
            | exact vl.1.1
            | (rw [l0]; exact v0.1.2)
            | (rw [r0, hM.2.1]; exact vl.1.2)
            | skip
          refine ⟨_, rfl, ⟨trivial, trivial, trivial⟩, ?_⟩
          simp only [retOk, getL, lookup, Option.map_some, fitsL, fits, ND, srcs, Res.list, VE, Value.bool.injEq, Nat.reduceEqDiff, ↓reduceIte, and_true]
          first | exact rfl | exact ⟨rfl, trivial⟩ | exact ⟨rfl, rfl⟩ | trace_state
end Go.Proofs.Ytlomkebhopaliaa
