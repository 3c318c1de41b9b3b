/- Parts of the proof of LawFnCatalogues: contracts of functions, laws of an abstract state, plain facts. No conditions. -/
import Derived.Test.YteapdildbfimnaaGreatDoorB03
import Derived.Lib.ItoaNum
import Derived.Lib.Bytealg
import Derived.Test.YteapdildbfimnaaGreatDoorShelf
namespace Go.Proofs.YteapdildbfimnaaGreatDoor
open Go.RowKit Go.Proofs
set_option linter.unusedSimpArgs false
set_option linter.unusedVariables false

theorem toldPlane_pass (v : V) (ok : Bool) (hf : Fn Tryz.prog 53 [v] (.one (.pv (vb ok)))) : FnPass Tryz.prog 75 v ok := by
  refine ⟨Tryz.call75, fun w u hg hu => ?_⟩
  go_enter Tryz.func75, Tryz.ntmps75
  go_wp2_with fail
  refine Calls.mono (hf.runs _ (fun _ => True) [u] ⟨hu, hg⟩) ?_
  rintro e w' ⟨u', φ, rfl, hh, hr⟩
  obtain rfl : u' = .bool ok := hr
  have hb := hh.below
  cases ok
  · go_wp2
    go_ret2
    exact ⟨rfl, hb⟩
  · go_wp2
    go_ret2
    exact ⟨rfl, hb⟩

theorem plIf_pass (v : V) (ok : Bool) (hf : Fn Tryz.prog 51 [v] (.one (.pv (vb ok)))) : FnPass Tryz.prog 71 v ok := by
  refine ⟨Tryz.call71, fun w u hg hu => ?_⟩
  go_enter Tryz.func71, Tryz.ntmps71
  go_wp2_with fail
  refine Calls.mono (hf.runs _ (fun _ => True) [u] ⟨hu, hg⟩) ?_
  rintro e w' ⟨u', φ, rfl, hh, hr⟩
  obtain rfl : u' = .bool ok := hr
  have hb := hh.below
  cases ok
  · go_wp2
    go_ret2
    exact ⟨rfl, hb⟩
  · go_wp2
    go_ret2
    exact ⟨rfl, hb⟩

theorem lowI_bnd {l : List T3} (h : ∀ k, k < l.length → termB (tAt l k) = true) {b : Int} (hb : 0 ≤ b ∧ b ≤ 6) {k : Nat} (hk : k ≤ l.length) : 0 ≤ lowI l b k ∧ lowI l b k ≤ 6 := by
  have h1 := lowN_le (fun j => (tAt l j).1) b k
  have h2 := lowN_ge (fun j => (tAt l j).1) b 0 hb.1 k fun j hj => (termB_iff.1 (h j (by omega))).1
  unfold lowI; omega
theorem lowJ_bnd {l : List T3} (h : ∀ k, k < l.length → termB (tAt l k) = true) {b : Int} (hb : 0 ≤ b ∧ b ≤ 6) {k : Nat} (hk : k ≤ l.length) : 0 ≤ lowJ l b k ∧ lowJ l b k ≤ 6 := by
  have h1 := lowN_le (fun j => (tAt l j).2.1) b k
  have h2 := lowN_ge (fun j => (tAt l j).2.1) b 0 hb.1 k fun j hj => (termB_iff.1 (h j (by omega))).2.1
  unfold lowJ; omega

theorem toldN_pass (l : List T3) (hl : l.length ≤ 1099511627776) (n : Nat) (hn : n = l.length) : FnPass Tryz.prog 75 (.seq 3 n fun i => vi (tf (normL l) (0 + i))) (planeB (normL l)) :=
  toldPlane_pass _ _ ((isPlane_fn (normL l) (by simp; omega)).of_ve ⟨⟨rfl, by simp [hn], fun i _ => VE.of_eq (by simp)⟩, trivial⟩)
theorem plIfN_pass (l : List T3) (hl : l.length ≤ 1099511627776) (n : Nat) (hn : n = l.length) : FnPass Tryz.prog 71 (.seq 3 n fun i => vi (tf (normL l) (0 + i))) (planeB (normL l)) :=
  plIf_pass _ _ ((plGood_fn (normL l) (by simp; omega)).of_ve ⟨⟨rfl, by simp [hn], fun i _ => VE.of_eq (by simp)⟩, trivial⟩)

theorem EntHR.one {h : List (Option Blk)} {j : Nat} {b b' : Blk} (hb : h[j]? = some (some b)) (hbe : BE b b') : EntHR h [j] [some b'] := by
  refine ⟨?_, trivial⟩
  rw [hb]; exact hbe

theorem normGrow {l : List T3} {k : Nat} {e : TypeId} {y z : Nat → V} (hkl : k < l.length) :
    BE ⟨e, (k + 1) * 3, fun i => if i < k * 3 then vi (tf (normL l) i) else if i - k * 3 < 3 then (if i - k * 3 = 2 then vi ((tAt l k).2.2 - (tAt l 0).2.2) else if i - k * 3 = 1 then vi ((tAt l k).2.1 - lowJ l 6 l.length) else if i - k * 3 = 0 then vi ((tAt l k).1 - lowI l 6 l.length) else y i) else z i⟩ ⟨e, (k + 1) * 3, fun i => vi (tf (normL l) i)⟩ := by
  refine ⟨rfl, Nat.le_refl _, fun i hi => VE.of_eq ?_⟩
  have hi' : i < (k + 1) * 3 := hi
  show (if i < k * 3 then vi (tf (normL l) i) else _) = vi (tf (normL l) i)
  by_cases h1 : i < k * 3
  · rw [if_pos h1]
  · rw [if_neg h1, if_pos (by omega)]
    have e1 : i = k * 3 + (i - k * 3) := by omega
    have hj : i - k * 3 < 3 := by omega
    generalize i - k * 3 = j at e1 hj
    subst e1
    rw [tf_t3 _ _ hj, normL_get hkl]
    rcases three hj with rfl | rfl | rfl <;> rfl

set_option maxHeartbeats 2000000 in
theorem normalPlane_fn (l : List T3) (hp : planeB l = true) : Fn Tryz.prog 54 [terms l] (.many [.fr 3 (normR l).1.length (bterms (normR l).1), .pv (vb (normR l).2)]) := by
  have hpp := planeB_parts hp
  refine Fn.of_body Tryz.call54 Tryz.func54 rfl Tryz.ntmps54 (ts := [2, 3]) rfl (by simp) rfl (fun N => ?_)
  repeat' (first | (with_reducible first | refine then_normal ?_ | refine then_ret ?_ | refine then_exit ?_ | refine block_normal ?_ | refine block_ret ?_) | ((with_reducible show blockQ _ _ _ _); first | refine block_exit ?_ | refine block_exit_ne rfl ?_) | ((with_reducible show AWP _ _ _ _ _); first | (with_reducible first | refine AWP.seq ?_ | refine AWP.block ?_ | refine AWP.region ?_ | refine AWP.ret ?_ | refine AWP.exit ?_ | refine AWP.skip ?_) | refine AWP.drawn rfl (by kernel_rfl) ?_ | refine AWP.cond rfl ?_ ?_) | with_reducible refine ev_nil ?_ | ((first | ((with_reducible show evOps _ _ _ _ _ _); (first | refine ev_step rfl ?_ | refine ev_undef rfl rfl rfl ?_); intro K hK) | ((with_reducible show EvOpen _ _ _ _ _ _ _); refine ev_open ?_; intro K hK) | ((with_reducible show SkOpen _ _ _ _ _ _ _); refine sk_open ?_; intro K hK) | ((with_reducible show callK _ _ _ _ _ _ _ _); first | fail)); simp only [evOp, evQ, evB, withS, opd, kput, putS, upd, lookup, slotsOf, sz_terms, Nat.reduceEqDiff, Nat.reduceLT, ↓reduceIte, eq_self, true_and, Option.isSome_some]) | refine ev_guard rfl rfl rfl ?_ ?_ | ((with_reducible show retQ _ _ _ _); simp only [eq_self]) | (with_reducible refine hK _ ?_; clear hK K) | (with_reducible refine And.intro ?_ ?_) | (with_reducible intro hc; try simp only [eq_self] at hc) | omega)
  refine AWP.loop_entR [] (fun k : Nat => ⟨[(0, .one (.pv (terms l))), (4, sc (.int .i64 (lowI l 6 k))), (5, sc (.int .i64 (lowJ l 6 k))), (11, .one (.pv (terms l))), (12, sc (.int .i64 l.length)), (13, sc (.int .i64 k))], [], 57⟩)
    (fun k => k ≤ l.length) (fun k => l.length - k) 0 (by omega) (by simp [EntR, EntSR, EntHR, SlR, VE, VE.rfl', lookup, BE, upd, sc, lowI, lowJ, lowN]) ?_
  intro k hk
  repeat' (first | (with_reducible first | refine then_normal ?_ | refine then_ret ?_ | refine then_exit ?_ | refine block_normal ?_ | refine block_ret ?_) | ((with_reducible show blockQ _ _ _ _); first | refine block_exit ?_ | refine block_exit_ne rfl ?_) | ((with_reducible show AWP _ _ _ _ _); first | (with_reducible first | refine AWP.seq ?_ | refine AWP.block ?_ | refine AWP.region ?_ | refine AWP.ret ?_ | refine AWP.exit ?_ | refine AWP.skip ?_) | refine AWP.drawn rfl (by kernel_rfl) ?_ | refine AWP.cond rfl ?_ ?_) | with_reducible refine ev_nil ?_ | ((first | ((with_reducible show evOps _ _ _ _ _ _); (first | refine ev_step rfl ?_ | refine ev_undef rfl rfl rfl ?_); intro K hK) | ((with_reducible show EvOpen _ _ _ _ _ _ _); refine ev_open ?_; intro K hK) | ((with_reducible show SkOpen _ _ _ _ _ _ _); refine sk_open ?_; intro K hK) | ((with_reducible show callK _ _ _ _ _ _ _ _); first | fail)); simp only [evOp, evQ, evB, binK, withS, opd, kput, putS, upd, lookup, loadOwn, InK_i64, storeK, frz, storeV, setBlk, newBlk, allocK, partsK, buildSliceK, V.one, Value.oneCell', List.set_cons_zero, c_int, sz_terms, ei_terms, ea_terms, c_term, fi0, fi1, z_term, tf_0, tf_1, Nat.zero_le, List.getElem?_cons_zero, List.nil_append, List.length_cons, List.length_nil, Nat.reduceEqDiff, Nat.reduceAdd, Nat.reduceLT, Nat.reduceLeDiff, Nat.zero_mul, Nat.add_zero, Nat.zero_add, Nat.sub_zero, ↓reduceIte, eq_self, true_and, forall_const, implies_true, Int.toNat_natCast, Option.isSome_some]) | refine ev_guard rfl rfl rfl ?_ ?_ | ((with_reducible show retQ _ _ _ _); simp only [eq_self]) | (with_reducible refine hK _ ?_; clear hK K) | (with_reducible refine And.intro ?_ ?_) | (with_reducible intro hc; try simp only [decide_eq_true_eq, decide_eq_false_iff_not, Int.not_lt] at hc) | omega)
  · exact ⟨k + 1, by omega, by omega, [], rfl, by decide, by simp [EntSR, SlR, VE, VE.rfl', lookup, sc, lowI, lowJ, lowN], trivial⟩
  obtain rfl : k = l.length := by omega
  have hI := lowI_bnd hpp.2 (b := 6) (by omega) (Nat.le_refl l.length)
  have hJ := lowJ_bnd hpp.2 (b := 6) (by omega) (Nat.le_refl l.length)
  have hc0 := termB_iff.1 (hpp.2 0 (by omega))
  refine AWP.loop_entR [0] (fun k : Nat => ⟨[(0, .one (.pv (terms l))), (4, sc (.int .i64 (lowI l 6 l.length))), (5, sc (.int .i64 (lowJ l 6 l.length))), (8, .one (.own 0 3 0 k)), (27, .one (.pv (terms l))), (28, sc (.int .i64 l.length)), (29, sc (.int .i64 k))], [some ⟨55, k * 3, fun i => vi (tf (normL l) i)⟩], 57⟩)
    (fun k => k ≤ l.length) (fun k => l.length - k) 0 (by omega) (by simp [EntR, EntSR, EntHR, SlR, VE, VE.rfl', lookup, BE, upd, sc]) ?_
  intro k hk
  by_cases hkl : k < l.length
  · have hck := termB_iff.1 (hpp.2 k hkl)
    repeat' (first | ((with_reducible show evNd _ _ _ _ _); first | (with_reducible refine nd_done ?_) | (refine nd_take rfl ?_; intro K hK; simp only [evOp, evQ, binK, withS, opd, kput, putS, upd, lookup, InK_i64, sz_terms, fi0, fi1, fi2, Nat.reduceEqDiff, Nat.reduceLT, Nat.reduceLeDiff, Nat.zero_mul, Nat.add_zero, Nat.zero_add, ↓reduceIte, eq_self, true_and, Int.toNat_zero]) | (refine nd_one rfl ?_; intro K hK; simp only [evOp, evQ, opd, kput, putS, upd, lookup, loadOwn, appendK, srcK, growK, frz, newBlk, buildK, partsK, buildSliceK, plSlice, V.one, Value.oneCell', List.set_cons_zero, c_int, ei_terms, ea_terms, fi0, fi1, fi2, z_term, pl_term, tf_0, tf_1, tf_2, tf_02, Nat.zero_le, List.getElem?_cons_zero, List.getElem?_cons_succ, List.nil_append, List.cons_append, List.length_cons, List.length_nil, Nat.reduceEqDiff, Nat.reduceAdd, Nat.reduceLT, Nat.reduceLeDiff, Nat.one_mul, Nat.zero_mul, Nat.add_zero, Nat.zero_add, Nat.sub_zero, ↓reduceIte, eq_self, true_and, forall_const, implies_true, Option.isSome_some]) | (refine nd_alt rfl ?_ ?_)) | ((with_reducible show NdOpen _ _ _ _ _ _); refine nd_open ?_; intro K hK; simp only [evOp, evQ, opd, kput, putS, upd, lookup, loadOwn, c_int, tf_0, tf_1, tf_2, List.getElem?_cons_zero, List.getElem?_cons_succ, Nat.reduceEqDiff, Nat.reduceLT, Nat.add_zero, ↓reduceIte, eq_self, true_and]) | (with_reducible first | refine then_normal ?_ | refine then_ret ?_ | refine then_exit ?_ | refine block_normal ?_ | refine block_ret ?_) | ((with_reducible show blockQ _ _ _ _); first | refine block_exit ?_ | refine block_exit_ne rfl ?_) | ((with_reducible show AWP _ _ _ _ _); first | (refine AWP.drawn_nd (id := 11) (.take 0 (.take 1 (.take 3 (.take 5 (.take 7 (.take 9 (.take 11 (.take 12 (.take 13 (.alt 2 (.take 4 (.alt 6 (.take 8 (.alt 10 (.one 14 (.take 15 (.one 16 (.one 17 (.one 18 (.take 19 .done)))))) (.one 14 (.one 10 (.take 15 (.one 16 (.one 17 (.one 18 (.take 19 .done))))))))) (.alt 10 (.alt 6 (.take 8 (.one 14 (.take 15 (.one 16 (.one 17 (.one 18 (.take 19 .done))))))) (.one 14 (.take 15 (.one 6 (.take 8 (.one 16 (.one 17 (.one 18 (.take 19 .done))))))))) (.one 14 (.alt 6 (.take 8 (.one 10 (.take 15 (.one 16 (.one 17 (.one 18 (.take 19 .done))))))) (.one 10 (.take 15 (.one 6 (.take 8 (.one 16 (.one 17 (.one 18 (.take 19 .done))))))))))))) (.alt 6 (.take 8 (.alt 2 (.take 4 (.alt 10 (.one 14 (.take 15 (.one 16 (.one 17 (.one 18 (.take 19 .done)))))) (.one 14 (.one 10 (.take 15 (.one 16 (.one 17 (.one 18 (.take 19 .done))))))))) (.alt 10 (.alt 2 (.take 4 (.one 14 (.take 15 (.one 16 (.one 17 (.one 18 (.take 19 .done))))))) (.one 14 (.take 15 (.one 2 (.take 4 (.one 16 (.one 17 (.one 18 (.take 19 .done))))))))) (.one 14 (.alt 2 (.take 4 (.one 10 (.take 15 (.one 16 (.one 17 (.one 18 (.take 19 .done))))))) (.one 10 (.take 15 (.one 2 (.take 4 (.one 16 (.one 17 (.one 18 (.take 19 .done))))))))))))) (.alt 10 (.alt 2 (.take 4 (.alt 6 (.take 8 (.one 14 (.take 15 (.one 16 (.one 17 (.one 18 (.take 19 .done))))))) (.one 14 (.take 15 (.one 6 (.take 8 (.one 16 (.one 17 (.one 18 (.take 19 .done)))))))))) (.alt 6 (.take 8 (.alt 2 (.take 4 (.one 14 (.take 15 (.one 16 (.one 17 (.one 18 (.take 19 .done))))))) (.one 14 (.take 15 (.one 2 (.take 4 (.one 16 (.one 17 (.one 18 (.take 19 .done)))))))))) (.one 14 (.take 15 (.alt 2 (.take 4 (.one 6 (.take 8 (.one 16 (.one 17 (.one 18 (.take 19 .done))))))) (.one 6 (.take 8 (.one 2 (.take 4 (.one 16 (.one 17 (.one 18 (.take 19 .done))))))))))))) (.one 14 (.alt 2 (.take 4 (.alt 6 (.take 8 (.one 10 (.take 15 (.one 16 (.one 17 (.one 18 (.take 19 .done))))))) (.one 10 (.take 15 (.one 6 (.take 8 (.one 16 (.one 17 (.one 18 (.take 19 .done)))))))))) (.alt 6 (.take 8 (.alt 2 (.take 4 (.one 10 (.take 15 (.one 16 (.one 17 (.one 18 (.take 19 .done))))))) (.one 10 (.take 15 (.one 2 (.take 4 (.one 16 (.one 17 (.one 18 (.take 19 .done)))))))))) (.one 10 (.take 15 (.alt 2 (.take 4 (.one 6 (.take 8 (.one 16 (.one 17 (.one 18 (.take 19 .done))))))) (.one 6 (.take 8 (.one 2 (.take 4 (.one 16 (.one 17 (.one 18 (.take 19 .done)))))))))))))))))))))))))) rfl (by kernel_rfl) ?_) | (with_reducible first | refine AWP.seq ?_ | refine AWP.block ?_ | refine AWP.region ?_ | refine AWP.ret ?_ | refine AWP.exit ?_ | refine AWP.skip ?_) | refine AWP.drawn rfl (by kernel_rfl) ?_ | refine AWP.cond rfl ?_ ?_) | with_reducible refine ev_nil ?_ | ((first | ((with_reducible show evOps _ _ _ _ _ _); (first | refine ev_step rfl ?_ | refine ev_undef rfl rfl rfl ?_); intro K hK) | ((with_reducible show EvOpen _ _ _ _ _ _ _); refine ev_open ?_; intro K hK) | ((with_reducible show SkOpen _ _ _ _ _ _ _); refine sk_open ?_; intro K hK) | ((with_reducible show callK _ _ _ _ _ _ _ _); first  | fail)); simp only [evOp, evQ, binK, withS, opd, kput, putS, upd, lookup, argsK, InK_i64, storeK, frz, storeV, setBlk, newBlk, allocK, V.one, Value.oneCell', List.set_cons_zero, List.set_cons_succ, sz_terms, c_term, z_term, Nat.zero_le, List.getElem?_cons_zero, List.getElem?_cons_succ, List.reverse_cons, List.reverse_nil, List.nil_append, List.cons_append, List.length_cons, List.length_nil, Nat.reduceEqDiff, Nat.reduceAdd, Nat.reduceLT, Nat.reduceLeDiff, Nat.zero_add, Nat.sub_zero, ↓reduceIte, eq_self, true_and, forall_const, implies_true, Int.toNat_natCast]) | refine ev_guard rfl rfl rfl ?_ ?_ | ((with_reducible show retQ _ _ _ _); simp only [eq_self]) | (with_reducible refine hK _ ?_; clear hK K) | (with_reducible refine And.intro ?_ ?_) | (with_reducible intro hc; try simp only [decide_eq_true_eq, decide_eq_false_iff_not, Int.not_lt] at hc) | omega)
    all_goals first
      | (rename_i i; rcases three ‹i < 3› with rfl | rfl | rfl <;> rfl)
      | (refine ⟨k + 1, by omega, by omega, [3], rfl, by decide, by simp [EntSR, SlR, VE, VE.rfl', lookup, sc], EntHR.one rfl (normGrow hkl)⟩)
      | trace_state
  · obtain rfl : k = l.length := by omega
    repeat' (first | ((with_reducible show passK _ _ _ _ _ _); refine pass_go rfl rfl (by first | omega | simp) (Nat.le_of_ble_eq_true rfl) (toldN_pass l (by omega) l.length rfl) ?_ ?_) | (with_reducible first | refine then_normal ?_ | refine then_ret ?_ | refine then_exit ?_ | refine block_normal ?_ | refine block_ret ?_) | ((with_reducible show blockQ _ _ _ _); first | refine block_exit ?_ | refine block_exit_ne rfl ?_) | ((with_reducible show AWP _ _ _ _ _); first | (refine AWP.region_pass1 (f := 75) ?_) | (with_reducible first | refine AWP.seq ?_ | refine AWP.block ?_ | refine AWP.region ?_ | refine AWP.ret ?_ | refine AWP.exit ?_ | refine AWP.skip ?_) | refine AWP.drawn rfl (by kernel_rfl) ?_ | refine AWP.cond rfl ?_ ?_) | with_reducible refine ev_nil ?_ | ((first | ((with_reducible show evOps _ _ _ _ _ _); (first | refine ev_step rfl ?_ | refine ev_undef rfl rfl rfl ?_); intro K hK) | ((with_reducible show EvOpen _ _ _ _ _ _ _); refine ev_open ?_; intro K hK) | ((with_reducible show SkOpen _ _ _ _ _ _ _); refine sk_open ?_; intro K hK) | ((with_reducible show callK _ _ _ _ _ _ _ _); first  | fail)); simp only [evOp, evQ, binK, withS, opd, kput, putS, upd, lookup, loadOwn, InK_i64, appendK, srcK, growK, storeK, frz, storeV, setBlk, newBlk, allocK, buildK, partsK, buildSliceK, plSlice, V.one, Value.oneCell', List.set_cons_zero, List.set_cons_succ, c_int, sz_terms, ei_terms, ea_terms, c_term, fi0, fi1, fi2, z_term, pl_term, tf_0, tf_1, tf_2, tf_02, Nat.zero_le, List.getElem?_cons_zero, List.getElem?_cons_succ, List.nil_append, List.cons_append, List.length_cons, List.length_nil, Nat.reduceEqDiff, Nat.reduceAdd, Nat.reduceLT, Nat.reduceLeDiff, Nat.one_mul, Nat.zero_mul, Nat.add_zero, Nat.zero_add, Nat.sub_zero, ↓reduceIte, eq_self, true_and, Bool.true_eq_false, forall_const, implies_true, Int.toNat_natCast, Int.toNat_zero, Option.isSome_some]) | refine ev_guard rfl rfl rfl ?_ ?_ | ((with_reducible show retQ _ _ _ _); simp only [retQ, retOk, getL, lookup, Option.map_some, fitsL, fits, ND, srcs, Res.list, VE, List.getElem?_cons_zero, Value.bool.injEq, Nat.reduceEqDiff, ↓reduceIte, and_true, true_and]) | (with_reducible refine hK _ ?_; clear hK K) | (with_reducible refine And.intro ?_ ?_) | (with_reducible intro hc; try simp only [decide_eq_true_eq, decide_eq_false_iff_not, Int.not_lt] at hc) | omega)
    all_goals first
      | (simp [normR_no2 ‹planeB (normL l) = false›, bterms]; done)
      | (simp [normR_yes hp ‹planeB (normL l) = true›]; done)
      | (rw [normR_yes hp ‹planeB (normL l) = true›]; exact ⟨_, rfl, rfl, by simp [bterms], fun i hi => VE.of_eq rfl⟩)
      | (exfalso; omega)
      | trace_state

set_option maxHeartbeats 2000000 in
theorem ctNormal_fn (l : List T3) (hp : planeB l = true) : Fn Tryz.prog 52 [terms l] (.many [.fr 3 (normR l).1.length (bterms (normR l).1), .pv (vb (normR l).2)]) := by
  have hpp := planeB_parts hp
  have hlow := low_first hp
  refine Fn.of_body Tryz.call52 Tryz.func52 rfl Tryz.ntmps52 (ts := [2, 3]) rfl (by simp) rfl (fun N => ?_)
  repeat' (first | (with_reducible first | refine then_normal ?_ | refine then_ret ?_ | refine then_exit ?_ | refine block_normal ?_ | refine block_ret ?_) | ((with_reducible show blockQ _ _ _ _); first | refine block_exit ?_ | refine block_exit_ne rfl ?_) | ((with_reducible show AWP _ _ _ _ _); first | (with_reducible first | refine AWP.seq ?_ | refine AWP.block ?_ | refine AWP.region ?_ | refine AWP.ret ?_ | refine AWP.exit ?_ | refine AWP.skip ?_) | refine AWP.drawn rfl (by kernel_rfl) ?_ | refine AWP.cond rfl ?_ ?_) | with_reducible refine ev_nil ?_ | ((first | ((with_reducible show evOps _ _ _ _ _ _); (first | refine ev_step rfl ?_ | refine ev_undef rfl rfl rfl ?_); intro K hK) | ((with_reducible show EvOpen _ _ _ _ _ _ _); refine ev_open ?_; intro K hK) | ((with_reducible show SkOpen _ _ _ _ _ _ _); refine sk_open ?_; intro K hK) | ((with_reducible show callK _ _ _ _ _ _ _ _); first | fail)); simp only [evOp, evQ, evB, withS, opd, kput, putS, upd, lookup, slotsOf, c_int, sz_terms, fi0, fi1, tf_00, tf_01, Nat.zero_le, Nat.reduceEqDiff, Nat.reduceLT, Nat.reduceLeDiff, Nat.zero_mul, Nat.add_zero, Nat.zero_add, Nat.sub_zero, ↓reduceIte, eq_self, true_and, Int.toNat_zero, Option.isSome_some]) | refine ev_guard rfl rfl rfl ?_ ?_ | ((with_reducible show retQ _ _ _ _); simp only [eq_self]) | (with_reducible refine hK _ ?_; clear hK K) | (with_reducible refine And.intro ?_ ?_) | (with_reducible intro hc; try simp only [eq_self] at hc) | omega)
  refine AWP.loop_entR [] (fun k : Nat => ⟨[(0, .one (.pv (terms l))), (4, sc (.int .i64 (lowI l (tAt l 0).1 k))), (5, sc (.int .i64 (lowJ l (tAt l 0).2.1 k))), (19, .one (.pv (terms l))), (20, sc (.int .i64 l.length)), (21, sc (.int .i64 k))], [], 64⟩)
    (fun k => k ≤ l.length) (fun k => l.length - k) 0 (by omega) (by simp [EntR, EntSR, EntHR, SlR, VE, VE.rfl', lookup, BE, upd, sc, lowI, lowJ, lowN]) ?_
  intro k hk
  repeat' (first | (with_reducible first | refine then_normal ?_ | refine then_ret ?_ | refine then_exit ?_ | refine block_normal ?_ | refine block_ret ?_) | ((with_reducible show blockQ _ _ _ _); first | refine block_exit ?_ | refine block_exit_ne rfl ?_) | ((with_reducible show AWP _ _ _ _ _); first | (with_reducible first | refine AWP.seq ?_ | refine AWP.block ?_ | refine AWP.region ?_ | refine AWP.ret ?_ | refine AWP.exit ?_ | refine AWP.skip ?_) | refine AWP.drawn rfl (by kernel_rfl) ?_ | refine AWP.cond rfl ?_ ?_) | with_reducible refine ev_nil ?_ | ((first | ((with_reducible show evOps _ _ _ _ _ _); (first | refine ev_step rfl ?_ | refine ev_undef rfl rfl rfl ?_); intro K hK) | ((with_reducible show EvOpen _ _ _ _ _ _ _); refine ev_open ?_; intro K hK) | ((with_reducible show SkOpen _ _ _ _ _ _ _); refine sk_open ?_; intro K hK) | ((with_reducible show callK _ _ _ _ _ _ _ _); first  | (refine call_scalar (l1Least_fn _ _) (Nat.le_of_ble_eq_true rfl) rfl ?_))); simp only [evOp, evQ, evB, binK, withS, opd, kput, putS, upd, lookup, argsK, loadOwn, bringIn, bring, Res.list, Res.slot, InK_i64, storeK, frz, storeV, setBlk, newBlk, allocK, V.one, Value.oneCell', List.set_cons_zero, c_int, sz_terms, c_term, fi0, fi1, z_term, tf_0, tf_1, Nat.zero_le, List.getElem?_cons_zero, List.reverse_cons, List.reverse_nil, List.nil_append, List.cons_append, List.length_cons, List.length_nil, Nat.reduceEqDiff, Nat.reduceAdd, Nat.reduceLT, Nat.reduceLeDiff, Nat.add_zero, Nat.zero_add, Nat.sub_zero, ↓reduceIte, eq_self, true_and, forall_const, implies_true, Int.toNat_natCast, Option.isSome_some]) | refine ev_guard rfl rfl rfl ?_ ?_ | ((with_reducible show retQ _ _ _ _); simp only [eq_self]) | (with_reducible refine hK _ ?_; clear hK K) | (with_reducible refine And.intro ?_ ?_) | (with_reducible intro hc; try simp only [decide_eq_true_eq, decide_eq_false_iff_not, Int.not_lt] at hc) | omega)
  · exact ⟨k + 1, by omega, by omega, [], rfl, by decide, by simp [EntSR, SlR, VE, VE.rfl', lookup, sc, lowI, lowJ, lowN, min_if], trivial⟩
  obtain rfl : k = l.length := by omega
  rw [← hlow.1, ← hlow.2]
  have hI := lowI_bnd hpp.2 (b := 6) (by omega) (Nat.le_refl l.length)
  have hJ := lowJ_bnd hpp.2 (b := 6) (by omega) (Nat.le_refl l.length)
  have hc0 := termB_iff.1 (hpp.2 0 (by omega))
  refine AWP.virtual 8 55 3 rfl ?_
  refine AWP.loop_entR [0] (fun k : Nat => ⟨[(0, .one (.pv (terms l))), (4, sc (.int .i64 (lowI l 6 l.length))), (5, sc (.int .i64 (lowJ l 6 l.length))), (8, .one (.own 0 3 0 k)), (34, .one (.pv (terms l))), (35, sc (.int .i64 l.length)), (36, sc (.int .i64 k))], [some ⟨55, k * 3, fun i => vi (tf (normL l) i)⟩], 64⟩)
    (fun k => k ≤ l.length) (fun k => l.length - k) 0 (by omega) (by simp [EntR, EntSR, EntHR, SlR, VE, VE.rfl', lookup, BE, upd, sc]) ?_
  intro k hk
  by_cases hkl : k < l.length
  · have hck := termB_iff.1 (hpp.2 k hkl)
    repeat' (first | ((with_reducible show evNd _ _ _ _ _); first | (with_reducible refine nd_done ?_) | (refine nd_take rfl ?_; intro K hK; simp only [evOp, evQ, binK, withS, opd, kput, putS, upd, lookup, InK_i64, sz_terms, fi0, fi1, fi2, Nat.reduceEqDiff, Nat.reduceLT, Nat.reduceLeDiff, Nat.zero_mul, Nat.add_zero, Nat.zero_add, ↓reduceIte, eq_self, true_and, Int.toNat_zero]) | (refine nd_one rfl ?_; intro K hK; simp only [evOp, evQ, opd, kput, putS, upd, lookup, loadOwn, appendK, srcK, growK, frz, newBlk, buildK, partsK, buildSliceK, plSlice, V.one, Value.oneCell', List.set_cons_zero, c_int, ei_terms, ea_terms, fi0, fi1, fi2, z_term, pl_term, tf_0, tf_1, tf_2, tf_02, Nat.zero_le, List.getElem?_cons_zero, List.getElem?_cons_succ, List.nil_append, List.cons_append, List.length_cons, List.length_nil, Nat.reduceEqDiff, Nat.reduceAdd, Nat.reduceLT, Nat.reduceLeDiff, Nat.one_mul, Nat.zero_mul, Nat.add_zero, Nat.zero_add, Nat.sub_zero, ↓reduceIte, eq_self, true_and, forall_const, implies_true, Option.isSome_some]) | (refine nd_alt rfl ?_ ?_)) | ((with_reducible show NdOpen _ _ _ _ _ _); refine nd_open ?_; intro K hK; simp only [evOp, evQ, opd, kput, putS, upd, lookup, loadOwn, c_int, tf_0, tf_1, tf_2, List.getElem?_cons_zero, List.getElem?_cons_succ, Nat.reduceEqDiff, Nat.reduceLT, Nat.add_zero, ↓reduceIte, eq_self, true_and]) | (with_reducible first | refine then_normal ?_ | refine then_ret ?_ | refine then_exit ?_ | refine block_normal ?_ | refine block_ret ?_) | ((with_reducible show blockQ _ _ _ _); first | refine block_exit ?_ | refine block_exit_ne rfl ?_) | ((with_reducible show AWP _ _ _ _ _); first | (refine AWP.drawn_nd (id := 12) (.take 0 (.take 1 (.take 3 (.take 5 (.take 7 (.take 9 (.take 11 (.take 12 (.take 13 (.alt 2 (.take 4 (.alt 6 (.take 8 (.alt 10 (.one 14 (.take 15 (.one 16 (.one 17 (.one 18 (.take 19 .done)))))) (.one 14 (.one 10 (.take 15 (.one 16 (.one 17 (.one 18 (.take 19 .done))))))))) (.alt 10 (.alt 6 (.take 8 (.one 14 (.take 15 (.one 16 (.one 17 (.one 18 (.take 19 .done))))))) (.one 14 (.take 15 (.one 6 (.take 8 (.one 16 (.one 17 (.one 18 (.take 19 .done))))))))) (.one 14 (.alt 6 (.take 8 (.one 10 (.take 15 (.one 16 (.one 17 (.one 18 (.take 19 .done))))))) (.one 10 (.take 15 (.one 6 (.take 8 (.one 16 (.one 17 (.one 18 (.take 19 .done))))))))))))) (.alt 6 (.take 8 (.alt 2 (.take 4 (.alt 10 (.one 14 (.take 15 (.one 16 (.one 17 (.one 18 (.take 19 .done)))))) (.one 14 (.one 10 (.take 15 (.one 16 (.one 17 (.one 18 (.take 19 .done))))))))) (.alt 10 (.alt 2 (.take 4 (.one 14 (.take 15 (.one 16 (.one 17 (.one 18 (.take 19 .done))))))) (.one 14 (.take 15 (.one 2 (.take 4 (.one 16 (.one 17 (.one 18 (.take 19 .done))))))))) (.one 14 (.alt 2 (.take 4 (.one 10 (.take 15 (.one 16 (.one 17 (.one 18 (.take 19 .done))))))) (.one 10 (.take 15 (.one 2 (.take 4 (.one 16 (.one 17 (.one 18 (.take 19 .done))))))))))))) (.alt 10 (.alt 2 (.take 4 (.alt 6 (.take 8 (.one 14 (.take 15 (.one 16 (.one 17 (.one 18 (.take 19 .done))))))) (.one 14 (.take 15 (.one 6 (.take 8 (.one 16 (.one 17 (.one 18 (.take 19 .done)))))))))) (.alt 6 (.take 8 (.alt 2 (.take 4 (.one 14 (.take 15 (.one 16 (.one 17 (.one 18 (.take 19 .done))))))) (.one 14 (.take 15 (.one 2 (.take 4 (.one 16 (.one 17 (.one 18 (.take 19 .done)))))))))) (.one 14 (.take 15 (.alt 2 (.take 4 (.one 6 (.take 8 (.one 16 (.one 17 (.one 18 (.take 19 .done))))))) (.one 6 (.take 8 (.one 2 (.take 4 (.one 16 (.one 17 (.one 18 (.take 19 .done))))))))))))) (.one 14 (.alt 2 (.take 4 (.alt 6 (.take 8 (.one 10 (.take 15 (.one 16 (.one 17 (.one 18 (.take 19 .done))))))) (.one 10 (.take 15 (.one 6 (.take 8 (.one 16 (.one 17 (.one 18 (.take 19 .done)))))))))) (.alt 6 (.take 8 (.alt 2 (.take 4 (.one 10 (.take 15 (.one 16 (.one 17 (.one 18 (.take 19 .done))))))) (.one 10 (.take 15 (.one 2 (.take 4 (.one 16 (.one 17 (.one 18 (.take 19 .done)))))))))) (.one 10 (.take 15 (.alt 2 (.take 4 (.one 6 (.take 8 (.one 16 (.one 17 (.one 18 (.take 19 .done))))))) (.one 6 (.take 8 (.one 2 (.take 4 (.one 16 (.one 17 (.one 18 (.take 19 .done)))))))))))))))))))))))))) rfl (by kernel_rfl) ?_) | (with_reducible first | refine AWP.seq ?_ | refine AWP.block ?_ | refine AWP.region ?_ | refine AWP.ret ?_ | refine AWP.exit ?_ | refine AWP.skip ?_) | refine AWP.drawn rfl (by kernel_rfl) ?_ | refine AWP.cond rfl ?_ ?_) | with_reducible refine ev_nil ?_ | ((first | ((with_reducible show evOps _ _ _ _ _ _); (first | refine ev_step rfl ?_ | refine ev_undef rfl rfl rfl ?_); intro K hK) | ((with_reducible show EvOpen _ _ _ _ _ _ _); refine ev_open ?_; intro K hK) | ((with_reducible show SkOpen _ _ _ _ _ _ _); refine sk_open ?_; intro K hK) | ((with_reducible show callK _ _ _ _ _ _ _ _); first  | fail)); simp only [evOp, evQ, binK, withS, opd, kput, putS, upd, lookup, argsK, InK_i64, storeK, frz, storeV, setBlk, newBlk, allocK, V.one, Value.oneCell', List.set_cons_zero, List.set_cons_succ, sz_terms, c_term, z_term, Nat.zero_le, List.getElem?_cons_zero, List.getElem?_cons_succ, List.reverse_cons, List.reverse_nil, List.nil_append, List.cons_append, List.length_cons, List.length_nil, Nat.reduceEqDiff, Nat.reduceAdd, Nat.reduceLT, Nat.reduceLeDiff, Nat.zero_add, Nat.sub_zero, ↓reduceIte, eq_self, true_and, forall_const, implies_true, Int.toNat_natCast]) | refine ev_guard rfl rfl rfl ?_ ?_ | ((with_reducible show retQ _ _ _ _); simp only [eq_self]) | (with_reducible refine hK _ ?_; clear hK K) | (with_reducible refine And.intro ?_ ?_) | (with_reducible intro hc; try simp only [decide_eq_true_eq, decide_eq_false_iff_not, Int.not_lt] at hc) | omega)
    all_goals first
      | (rename_i i; rcases three ‹i < 3› with rfl | rfl | rfl <;> rfl)
      | (refine ⟨k + 1, by omega, by omega, [3], rfl, by decide, by simp [EntSR, SlR, VE, VE.rfl', lookup, sc], EntHR.one rfl (normGrow hkl)⟩)
      | trace_state
  · obtain rfl : k = l.length := by omega
    repeat' (first | ((with_reducible show passK _ _ _ _ _ _); refine pass_go rfl rfl (by first | omega | simp) (Nat.le_of_ble_eq_true rfl) (plIfN_pass l (by omega) l.length rfl) ?_ ?_) | (with_reducible first | refine then_normal ?_ | refine then_ret ?_ | refine then_exit ?_ | refine block_normal ?_ | refine block_ret ?_) | ((with_reducible show blockQ _ _ _ _); first | refine block_exit ?_ | refine block_exit_ne rfl ?_) | ((with_reducible show AWP _ _ _ _ _); first | (refine AWP.region_pass1 (f := 71) ?_) | (with_reducible first | refine AWP.seq ?_ | refine AWP.block ?_ | refine AWP.region ?_ | refine AWP.ret ?_ | refine AWP.exit ?_ | refine AWP.skip ?_) | refine AWP.drawn rfl (by kernel_rfl) ?_ | refine AWP.cond rfl ?_ ?_) | with_reducible refine ev_nil ?_ | ((first | ((with_reducible show evOps _ _ _ _ _ _); (first | refine ev_step rfl ?_ | refine ev_undef rfl rfl rfl ?_); intro K hK) | ((with_reducible show EvOpen _ _ _ _ _ _ _); refine ev_open ?_; intro K hK) | ((with_reducible show SkOpen _ _ _ _ _ _ _); refine sk_open ?_; intro K hK) | ((with_reducible show callK _ _ _ _ _ _ _ _); first  | fail)); simp only [evOp, evQ, binK, withS, opd, kput, putS, upd, lookup, loadOwn, InK_i64, appendK, srcK, growK, storeK, frz, storeV, setBlk, newBlk, allocK, buildK, partsK, buildSliceK, plSlice, V.one, Value.oneCell', List.set_cons_zero, List.set_cons_succ, c_int, sz_terms, ei_terms, ea_terms, c_term, fi0, fi1, fi2, z_term, pl_term, tf_0, tf_1, tf_2, tf_02, Nat.zero_le, List.getElem?_cons_zero, List.getElem?_cons_succ, List.nil_append, List.cons_append, List.length_cons, List.length_nil, Nat.reduceEqDiff, Nat.reduceAdd, Nat.reduceLT, Nat.reduceLeDiff, Nat.one_mul, Nat.zero_mul, Nat.add_zero, Nat.zero_add, Nat.sub_zero, ↓reduceIte, eq_self, true_and, Bool.true_eq_false, forall_const, implies_true, Int.toNat_natCast, Int.toNat_zero, Option.isSome_some]) | refine ev_guard rfl rfl rfl ?_ ?_ | ((with_reducible show retQ _ _ _ _); simp only [retQ, retOk, getL, lookup, Option.map_some, fitsL, fits, ND, srcs, Res.list, VE, List.getElem?_cons_zero, Value.bool.injEq, Nat.reduceEqDiff, ↓reduceIte, and_true, true_and]) | (with_reducible refine hK _ ?_; clear hK K) | (with_reducible refine And.intro ?_ ?_) | (with_reducible intro hc; try simp only [decide_eq_true_eq, decide_eq_false_iff_not, Int.not_lt] at hc) | omega)
    all_goals first
      | (simp [normR_no2 ‹planeB (normL l) = false›, bterms]; done)
      | (simp [normR_yes hp ‹planeB (normL l) = true›]; done)
      | (rw [normR_yes hp ‹planeB (normL l) = true›]; exact ⟨_, rfl, rfl, by simp [bterms], fun i hi => VE.of_eq rfl⟩)
      | (exfalso; omega)
      | trace_state

theorem implNormalPlane_fn (l : List T3) (hl : l.length ≤ 1099511627776) : Fn Tryz.prog 29 [terms l] (.many [.fr 3 (normR l).1.length (bterms (normR l).1), .pv (vb (normR l).2)]) := by
  refine Fn.of_body Tryz.call29 Tryz.func29 rfl Tryz.ntmps29 (ts := [2, 3]) rfl (by simp) rfl (fun N => ?_)
  repeat' (first | (with_reducible first | refine then_normal ?_ | refine then_ret ?_ | refine then_exit ?_ | refine block_normal ?_ | refine block_ret ?_) | ((with_reducible show blockQ _ _ _ _); first | refine block_exit ?_ | refine block_exit_ne rfl ?_) | ((with_reducible show AWP _ _ _ _ _); first | (with_reducible first | refine AWP.seq ?_ | refine AWP.block ?_ | refine AWP.region ?_ | refine AWP.ret ?_ | refine AWP.exit ?_ | refine AWP.skip ?_) | refine AWP.drawn rfl (by kernel_rfl) ?_ | refine AWP.cond rfl ?_ ?_) | with_reducible refine ev_nil ?_ | ((first | ((with_reducible show evOps _ _ _ _ _ _); (first | refine ev_step rfl ?_ | refine ev_undef rfl rfl rfl ?_); intro K hK) | ((with_reducible show EvOpen _ _ _ _ _ _ _); refine ev_open ?_; intro K hK) | ((with_reducible show SkOpen _ _ _ _ _ _ _); refine sk_open ?_; intro K hK) | ((with_reducible show callK _ _ _ _ _ _ _ _); first  | (refine call_scalar (isPlane_fn l hl) (Nat.le_of_ble_eq_true rfl) rfl ?_) | (refine call_safe ( normalPlane_fn l ‹planeB l = true›) (Nat.le_of_ble_eq_true rfl) (by repeat' (first | exact trivial | refine ⟨fun _ _ => ⟨_, rfl⟩, ?_⟩)) ?_))); simp only [evOp, evQ, withS, opd, kput, putS, upd, lookup, argsK, bringIn, bring, Res.list, Res.slot, slotsOf, bterms, List.getElem?_cons_zero, List.getElem?_cons_succ, List.reverse_cons, List.reverse_nil, List.nil_append, List.length_nil, Nat.reduceEqDiff, Nat.reduceLT, ↓reduceIte, eq_self, true_and]) | refine ev_guard rfl rfl rfl ?_ ?_ | ((with_reducible show retQ _ _ _ _); simp only [retQ, retOk, getL, lookup, Option.map_some, fitsL, fits, ND, srcs, Res.list, VE, List.getElem?_cons_zero, Value.bool.injEq, Nat.reduceEqDiff, ↓reduceIte, and_true, true_and]) | (with_reducible refine hK _ ?_; clear hK K) | (with_reducible refine And.intro ?_ ?_) | (with_reducible intro hc; try simp only [Bool.not_eq_true', Bool.not_eq_false'] at hc) | omega)
  all_goals first
    | (simp [normR_no ‹planeB l = false›, bterms]; done)
    | exact ⟨_, rfl, BE.rfl' _⟩
    | (simp; done)
    | trace_state

theorem specNormalPlane_fn (l : List T3) (hl : l.length ≤ 1099511627776) : Fn Tryz.prog 24 [terms l] (.many [.fr 3 (normR l).1.length (bterms (normR l).1), .pv (vb (normR l).2)]) := by
  refine Fn.of_body Tryz.call24 Tryz.func24 rfl Tryz.ntmps24 (ts := [2, 3]) rfl (by simp) rfl (fun N => ?_)
  repeat' (first | (with_reducible first | refine then_normal ?_ | refine then_ret ?_ | refine then_exit ?_ | refine block_normal ?_ | refine block_ret ?_) | ((with_reducible show blockQ _ _ _ _); first | refine block_exit ?_ | refine block_exit_ne rfl ?_) | ((with_reducible show AWP _ _ _ _ _); first | (with_reducible first | refine AWP.seq ?_ | refine AWP.block ?_ | refine AWP.region ?_ | refine AWP.ret ?_ | refine AWP.exit ?_ | refine AWP.skip ?_) | refine AWP.drawn rfl (by kernel_rfl) ?_ | refine AWP.cond rfl ?_ ?_) | with_reducible refine ev_nil ?_ | ((first | ((with_reducible show evOps _ _ _ _ _ _); (first | refine ev_step rfl ?_ | refine ev_undef rfl rfl rfl ?_); intro K hK) | ((with_reducible show EvOpen _ _ _ _ _ _ _); refine ev_open ?_; intro K hK) | ((with_reducible show SkOpen _ _ _ _ _ _ _); refine sk_open ?_; intro K hK) | ((with_reducible show callK _ _ _ _ _ _ _ _); first  | (refine call_scalar (plGood_fn l hl) (Nat.le_of_ble_eq_true rfl) rfl ?_) | (refine call_safe ( ctNormal_fn l ‹planeB l = true›) (Nat.le_of_ble_eq_true rfl) (by repeat' (first | exact trivial | refine ⟨fun _ _ => ⟨_, rfl⟩, ?_⟩)) ?_))); simp only [evOp, evQ, withS, opd, kput, putS, upd, lookup, argsK, bringIn, bring, Res.list, Res.slot, slotsOf, bterms, List.getElem?_cons_zero, List.getElem?_cons_succ, List.reverse_cons, List.reverse_nil, List.nil_append, List.length_nil, Nat.reduceEqDiff, Nat.reduceLT, ↓reduceIte, eq_self, true_and]) | refine ev_guard rfl rfl rfl ?_ ?_ | ((with_reducible show retQ _ _ _ _); simp only [retQ, retOk, getL, lookup, Option.map_some, fitsL, fits, ND, srcs, Res.list, VE, List.getElem?_cons_zero, Value.bool.injEq, Nat.reduceEqDiff, ↓reduceIte, and_true, true_and]) | (with_reducible refine hK _ ?_; clear hK K) | (with_reducible refine And.intro ?_ ?_) | (with_reducible intro hc; try simp only [Bool.not_eq_true', Bool.not_eq_false'] at hc) | omega)
  all_goals first
    | (simp [normR_no ‹planeB l = false›, bterms]; done)
    | exact ⟨_, rfl, BE.rfl' _⟩
    | (simp; done)
    | trace_state

end Go.Proofs.YteapdildbfimnaaGreatDoor
namespace Go.Proofs.YteapdildbfimnaaGreatDoor
open Go.RowKit Go.Proofs
set_option linter.unusedSimpArgs false
set_option linter.unusedVariables false

theorem sameB_eqT (a b : List T3) (k : Nat) : sameB 3 (fun j => vi (tf a (k * 3 + j))) (fun j => vi (tf b (k * 3 + j))) = eqT (tAt a k) (tAt b k) := by
  show ((vInt (vi (tf a (k * 3 + 0))) == vInt (vi (tf b (k * 3 + 0)))) && ((vInt (vi (tf a (k * 3 + 1))) == vInt (vi (tf b (k * 3 + 1)))) && ((vInt (vi (tf a (k * 3 + 2))) == vInt (vi (tf b (k * 3 + 2)))) && true))) = _
  show ((tf a (k * 3 + 0) == tf b (k * 3 + 0)) && ((tf a (k * 3 + 1) == tf b (k * 3 + 1)) && ((tf a (k * 3 + 2) == tf b (k * 3 + 2)) && true))) = _
  rw [Nat.add_zero, tf_0, tf_0, tf_1, tf_1, tf_2, tf_2]
  unfold eqT
  rw [Bool.and_true, Bool.and_assoc]

theorem ctSame_fn (a b : List T3) (ha : a.length ≤ 1099511627776) (_hb : b.length ≤ 1099511627776) : Fn Tryz.prog 33 [terms a, terms b] (.one (.pv (vb (eqTL a b)))) := by
  refine Fn.of_body Tryz.call33 Tryz.func33 rfl Tryz.ntmps33 (ts := [4]) rfl (by simp) rfl (fun N => ?_)
  repeat' (first | (with_reducible first | refine then_normal ?_ | refine then_ret ?_ | refine then_exit ?_ | refine block_normal ?_ | refine block_ret ?_) | ((with_reducible show blockQ _ _ _ _); first | refine block_exit ?_ | refine block_exit_ne rfl ?_) | ((with_reducible show AWP _ _ _ _ _); first | (with_reducible first | refine AWP.seq ?_ | refine AWP.block ?_ | refine AWP.region ?_ | refine AWP.ret ?_ | refine AWP.exit ?_ | refine AWP.skip ?_) | refine AWP.drawn rfl (by kernel_rfl) ?_ | refine AWP.cond rfl ?_ ?_) | with_reducible refine ev_nil ?_ | ((first | ((with_reducible show evOps _ _ _ _ _ _); (first | refine ev_step rfl ?_ | refine ev_undef rfl rfl rfl ?_); intro K hK) | ((with_reducible show EvOpen _ _ _ _ _ _ _); refine ev_open ?_; intro K hK) | ((with_reducible show SkOpen _ _ _ _ _ _ _); refine sk_open ?_; intro K hK) | ((with_reducible show callK _ _ _ _ _ _ _ _); first | fail)); simp only [evOp, evQ, evB, binK, withS, opd, kput, putS, upd, lookup, slotsOf, sz_terms, Nat.reduceEqDiff, Nat.reduceLT, Nat.zero_add, ↓reduceIte, eq_self, true_and, Option.isSome_some]) | refine ev_guard rfl rfl rfl ?_ ?_ | ((with_reducible show retQ _ _ _ _); simp only [retQ, retOk, getL, lookup, Option.map_some, fitsL, fits, ND, srcs, Res.list, VE, Value.bool.injEq, Nat.reduceEqDiff, ↓reduceIte, and_true]) | (with_reducible refine hK _ ?_; clear hK K) | (with_reducible refine And.intro ?_ ?_) | (with_reducible intro hc; try simp only [bne_iff_ne, bne_eq_false_iff_eq, ne_eq] at hc) | omega)
  · exact (eqTL_len ‹_›).symm
  refine AWP.loop_ent (fun k : Nat => ⟨[(0, .one (.pv (terms a))), (1, .one (.pv (terms b))), (11, .one (.pv (terms a))), (12, sc (.int .i64 a.length)), (13, sc (.int .i64 k))], [], 26⟩)
    (fun k => k ≤ a.length ∧ ∀ j, j < k → eqT (tAt a j) (tAt b j) = true) (fun k => a.length - k) 0 ⟨by omega, by simp⟩ (by simp [Ent, EntS, EntH, SlE, VE, lookup, BE, VE.rfl']) ?_
  rintro k ⟨hk, hall⟩
  repeat' (first | (with_reducible first | refine then_normal ?_ | refine then_ret ?_ | refine then_exit ?_ | refine block_normal ?_ | refine block_ret ?_) | ((with_reducible show blockQ _ _ _ _); first | refine block_exit ?_ | refine block_exit_ne rfl ?_) | ((with_reducible show AWP _ _ _ _ _); first | (with_reducible first | refine AWP.seq ?_ | refine AWP.block ?_ | refine AWP.region ?_ | refine AWP.ret ?_ | refine AWP.exit ?_ | refine AWP.skip ?_) | refine AWP.drawn rfl (by kernel_rfl) ?_ | refine AWP.cond rfl ?_ ?_) | with_reducible refine ev_nil ?_ | ((first | ((with_reducible show evOps _ _ _ _ _ _); (first | refine ev_step rfl ?_ | refine ev_undef rfl rfl rfl ?_); intro K hK) | ((with_reducible show EvOpen _ _ _ _ _ _ _); refine ev_open ?_; intro K hK) | ((with_reducible show SkOpen _ _ _ _ _ _ _); refine sk_open ?_; intro K hK) | ((with_reducible show callK _ _ _ _ _ _ _ _); first | fail)); simp only [evOp, evQ, eqStK, vInt, binK, withS, opd, kput, putS, upd, lookup, InK_i64, sz_terms, c_term, is_term, Nat.reduceEqDiff, Nat.reduceLT, Nat.reduceLeDiff, ↓reduceIte, eq_self, true_and, forall_const, implies_true, Int.toNat_natCast]) | refine ev_guard rfl rfl rfl ?_ ?_ | ((with_reducible show retQ _ _ _ _); simp only [retQ, retOk, getL, lookup, Option.map_some, fitsL, fits, ND, srcs, Res.list, VE, Value.bool.injEq, Nat.reduceEqDiff, ↓reduceIte, and_true]) | (with_reducible refine hK _ ?_; clear hK K) | (with_reducible refine And.intro ?_ ?_) | (with_reducible intro hc; try simp only [decide_eq_true_eq, decide_eq_false_iff_not, Bool.not_eq_true', Bool.not_eq_false', Int.not_lt] at hc) | omega)
  all_goals first
    | (intro i hi; rfl)
    | exact (eqTL_no (k := k) (by omega) ((sameB_eqT a b k).symm.trans ‹_›)).symm
    | exact ⟨k + 1, ⟨by omega, upto_succ hall ((sameB_eqT a b k).symm.trans ‹_›)⟩, by omega, by simp [Ent, EntS, EntH, SlE, VE, lookup, BE, VE.rfl']⟩
    | exact (eqTL_yes ‹_› fun j hj => hall j (by omega)).symm
    | rfl
    | trace_state

theorem slicesEqual_fn (a b : List T3) (ha : a.length ≤ 1099511627776) (_hb : b.length ≤ 1099511627776) : Fn Tryz.prog 27 [terms a, terms b] (.one (.pv (vb (eqTL a b)))) := by
  refine Fn.of_body Tryz.call27 Tryz.func27 rfl Tryz.ntmps27 (ts := [4]) rfl (by simp) rfl (fun N => ?_)
  repeat' (first | (with_reducible first | refine then_normal ?_ | refine then_ret ?_ | refine then_exit ?_ | refine block_normal ?_ | refine block_ret ?_) | ((with_reducible show blockQ _ _ _ _); first | refine block_exit ?_ | refine block_exit_ne rfl ?_) | ((with_reducible show AWP _ _ _ _ _); first | (with_reducible first | refine AWP.seq ?_ | refine AWP.block ?_ | refine AWP.region ?_ | refine AWP.ret ?_ | refine AWP.exit ?_ | refine AWP.skip ?_) | refine AWP.drawn rfl (by kernel_rfl) ?_ | refine AWP.cond rfl ?_ ?_) | with_reducible refine ev_nil ?_ | ((first | ((with_reducible show evOps _ _ _ _ _ _); (first | refine ev_step rfl ?_ | refine ev_undef rfl rfl rfl ?_); intro K hK) | ((with_reducible show EvOpen _ _ _ _ _ _ _); refine ev_open ?_; intro K hK) | ((with_reducible show SkOpen _ _ _ _ _ _ _); refine sk_open ?_; intro K hK) | ((with_reducible show callK _ _ _ _ _ _ _ _); first | fail)); simp only [evOp, evQ, evB, binK, withS, opd, kput, putS, upd, lookup, slotsOf, sz_terms, Nat.reduceEqDiff, Nat.reduceLT, Nat.zero_add, ↓reduceIte, eq_self, true_and, Option.isSome_some]) | refine ev_guard rfl rfl rfl ?_ ?_ | ((with_reducible show retQ _ _ _ _); simp only [retQ, retOk, getL, lookup, Option.map_some, fitsL, fits, ND, srcs, Res.list, VE, Value.bool.injEq, Nat.reduceEqDiff, ↓reduceIte, and_true]) | (with_reducible refine hK _ ?_; clear hK K) | (with_reducible refine And.intro ?_ ?_) | (with_reducible intro hc; try simp only [bne_iff_ne, bne_eq_false_iff_eq, ne_eq] at hc) | omega)
  · exact (eqTL_len ‹_›).symm
  refine AWP.loop_ent (fun k : Nat => ⟨[(0, .one (.pv (terms a))), (1, .one (.pv (terms b))), (11, .one (.pv (terms a))), (12, sc (.int .i64 a.length)), (13, sc (.int .i64 k))], [], 26⟩)
    (fun k => k ≤ a.length ∧ ∀ j, j < k → eqT (tAt a j) (tAt b j) = true) (fun k => a.length - k) 0 ⟨by omega, by simp⟩ (by simp [Ent, EntS, EntH, SlE, VE, lookup, BE, VE.rfl']) ?_
  rintro k ⟨hk, hall⟩
  repeat' (first | (with_reducible first | refine then_normal ?_ | refine then_ret ?_ | refine then_exit ?_ | refine block_normal ?_ | refine block_ret ?_) | ((with_reducible show blockQ _ _ _ _); first | refine block_exit ?_ | refine block_exit_ne rfl ?_) | ((with_reducible show AWP _ _ _ _ _); first | (with_reducible first | refine AWP.seq ?_ | refine AWP.block ?_ | refine AWP.region ?_ | refine AWP.ret ?_ | refine AWP.exit ?_ | refine AWP.skip ?_) | refine AWP.drawn rfl (by kernel_rfl) ?_ | refine AWP.cond rfl ?_ ?_) | with_reducible refine ev_nil ?_ | ((first | ((with_reducible show evOps _ _ _ _ _ _); (first | refine ev_step rfl ?_ | refine ev_undef rfl rfl rfl ?_); intro K hK) | ((with_reducible show EvOpen _ _ _ _ _ _ _); refine ev_open ?_; intro K hK) | ((with_reducible show SkOpen _ _ _ _ _ _ _); refine sk_open ?_; intro K hK) | ((with_reducible show callK _ _ _ _ _ _ _ _); first | fail)); simp only [evOp, evQ, eqStK, vInt, binK, withS, opd, kput, putS, upd, lookup, InK_i64, sz_terms, c_term, is_term, Nat.reduceEqDiff, Nat.reduceLT, Nat.reduceLeDiff, ↓reduceIte, eq_self, true_and, forall_const, implies_true, Int.toNat_natCast]) | refine ev_guard rfl rfl rfl ?_ ?_ | ((with_reducible show retQ _ _ _ _); simp only [retQ, retOk, getL, lookup, Option.map_some, fitsL, fits, ND, srcs, Res.list, VE, Value.bool.injEq, Nat.reduceEqDiff, ↓reduceIte, and_true]) | (with_reducible refine hK _ ?_; clear hK K) | (with_reducible refine And.intro ?_ ?_) | (with_reducible intro hc; try simp only [decide_eq_true_eq, decide_eq_false_iff_not, Bool.not_eq_true', Bool.not_eq_false', Int.not_lt] at hc) | omega)
  all_goals first
    | (intro i hi; rfl)
    | exact (eqTL_no (k := k) (by omega) ((sameB_eqT a b k).symm.trans ‹_›)).symm
    | exact ⟨k + 1, ⟨by omega, upto_succ hall ((sameB_eqT a b k).symm.trans ‹_›)⟩, by omega, by simp [Ent, EntS, EntH, SlE, VE, lookup, BE, VE.rfl']⟩
    | exact (eqTL_yes ‹_› fun j hj => hall j (by omega)).symm
    | rfl
    | trace_state

theorem normR_le (l : List T3) : (normR l).1.length ≤ l.length := by
  unfold normR; split <;> simp

end Go.Proofs.YteapdildbfimnaaGreatDoor
namespace Go.Proofs.YteapdildbfimnaaGreatDoor
set_option linter.unusedSimpArgs false
set_option linter.unusedVariables false
open Go.RowKit

section
variable {P : Program} {w0 : World} {S0 : Nat → Prop} {s : ASt} {φ : List (Option (Nat × Nat))} {a : Act} {w : World}

/-! ### Let go -/
def letGrowK (N : Nat) (t : Nat) (s : ASt) (K : ASt → Prop) : Prop :=
  ∃ (id sz len : Nat) (blk : Blk), lookup s.σ t = some (.one (.own id sz 0 len)) ∧ s.h[id]? = some (some blk) ∧ len * sz ≤ blk.n ∧
    ∀ (u0 : Value) (Z : Nat → Prop), (∀ b, Z b → N ≤ b) → (∀ Z', ZSt Z' s → Disj Z' Z) → K ⟨upd s.σ t (.one (.pv (.grow u0 Z blk.elem sz len blk.f))), s.h.set id none, s.nt⟩

theorem letGrow_ok {N : Nat} {t : Nat} {K : ASt → Prop} (hN : w0.heap.size = N) (sim : SimAt w0 S0 s φ a w) (h : letGrowK N t s K) : ∃ s', K s' ∧ SimAt w0 S0 s' φ a w := by
  obtain ⟨id, sz, len, blk, ht, hb, hl, h⟩ := h
  obtain ⟨sv, hst⟩ := sim.letgo id
  obtain ⟨u, hu, hr⟩ := sim.slots t _ ht
  have fin : ∀ Z : Nat → Prop, (∀ b, Z b → N ≤ b) → (∀ Z', ZSt Z' s → Disj Z' Z) → Rd w (Stab w0 S0 (s.h.set id none) φ) (.grow u Z blk.elem sz len blk.f) u → ∃ s', K s' ∧ SimAt w0 S0 s' φ a w := fun Z h1 h2 h3 => by
    refine ⟨_, h u Z h1 h2, ⟨sv.heap, fun t' v hv => ?_, sv.defers, sv.size⟩⟩
    rw [lookup_upd] at hv
    split at hv
    · rename_i et; subst et; injection hv with hv; subst hv
      exact ⟨u, hu, h3⟩
    · exact sv.slots t' v hv
  rcases hr with ⟨hφ, _, hl0, rfl⟩ | ⟨b', c, z, hφ, rfl, hc, hm, hz⟩
  · subst hl0
    exact fin (fun _ => False) (fun _ h => h.elim) (fun _ _ _ _ h => h) ⟨rfl, fun _ h => h.elim, .inl ⟨rfl, rfl⟩⟩
  · obtain ⟨cur, hcz, hB, hcur, hn, hx⟩ := sim.blkAt hb hφ
    have hlive : Live s.h φ b' := ⟨id, blk, _, hb, hφ⟩
    refine fin (fun b => b = b') (fun b hb' => by subst hb'; omega) (fun Z' hZ' b hz hb' => ?_) ⟨rfl, fun b hb' => ?_, .inr ⟨b', c, cur, rfl, hc, hm, rfl, hcur, by omega, fun i hi => ?_⟩⟩
    · have hb' : b = b' := hb'
      subst hb'
      exact (hZ'.there sim b hz).1.2 hlive
    · have hb' : b = b' := hb'
      subst hb'
      refine ⟨⟨.inr hB, ?_⟩, cur, blk.elem, hcur⟩
      rintro ⟨i, x, z', h1, h2⟩
      by_cases ei : id = i
      · subst ei
        have := (List.getElem?_eq_some_iff.1 hb).1
        simp [this] at h1
      · rw [List.getElem?_set_ne ei] at h1
        exact ei (sim.heap.inj id i blk x b _ _ hb h1 hφ h2)
    · obtain ⟨x, hx1, hx2⟩ := hx i (by omega)
      exact ⟨x, hx1, Rd.mono (fun b hb _ => ⟨hst b hb, rfl⟩) _ _ hx2⟩

/-- What lies outside T is read without T. -/
theorem Keeps.less {T S S' : Nat → Prop} (hS : ∀ b, S b → ¬ T b → S' b) : ∀ (v : V) (u : Value), Keeps T v → Rd w S v u → Rd w S' v u
  | .val _, _, _, hr => hr
  | .old Z v, u, hk, hr => ⟨fun b hb => ⟨hS b (hr.1 b hb).1 (hk b hb), (hr.1 b hb).2⟩, hr.2⟩
  | .row u0 Z sz n f, u, hk, hr => by
    obtain ⟨e, hz, A, c, hu, hc, hr⟩ := hr
    refine ⟨e, fun b hb => ⟨hS b (hz b hb).1 (hk.1 b hb), (hz b hb).2⟩, A, c, hu, hc, fun hp => ?_⟩
    obtain ⟨b, off, hA, hZ, hr⟩ := hr hp
    refine ⟨b, off, hA, hZ, fun i hi => ?_⟩
    obtain ⟨x, hx, hr⟩ := hr i hi
    exact ⟨x, hx, Keeps.less hS (f i) x (hk.2 i hi) hr⟩
  | .grow u0 Z e sz n f, u, hk, hr => by
    obtain ⟨hu, hz, hr⟩ := hr
    refine ⟨hu, fun b hb => ⟨hS b (hz b hb).1 (hk.1 b hb), (hz b hb).2⟩, ?_⟩
    rcases hr with hr | ⟨b, c, cur, h1, h2, h3, h4, h5, h6, h7⟩
    · exact .inl hr
    · refine .inr ⟨b, c, cur, h1, h2, h3, h4, h5, h6, fun i hi => ?_⟩
      obtain ⟨x, hx, hr⟩ := h7 i hi
      exact ⟨x, hx, Keeps.less hS (f i) x (hk.2 i hi) hr⟩
  | .agg n f, u, hk, hr => by
    obtain ⟨cs, hu, hn, hr⟩ := hr
    refine ⟨cs, hu, hn, fun i hi => ?_⟩
    obtain ⟨x, hx, hr⟩ := hr i hi
    exact ⟨x, hx, Keeps.less hS (f i) x (hk i hi) hr⟩
  | .seq _ _ _, _, hk, _ => hk.elim
  | .pin _ _, _, hk, _ => hk.elim
  | .clo _ _ _, _, hk, _ => hk.elim
  | .cur b k Z c, u, hk, hr => by
    obtain ⟨hu, hb, hz, h⟩ := hr
    exact ⟨hu, hS b hb hk.1, fun j hj => ⟨hS j (hz j hj).1 (hk.2 j hj), (hz j hj).2⟩, h⟩

/-- The slice in slot t is taken back; s1: what else is known. -/
def takeK (N : Nat) (t : Nat) (s : ASt) (K : ASt → Prop) : Prop :=
  ∃ (u0 : Value) (Z : Nat → Prop) (e : TypeId) (sz n : Nat) (f : Nat → V) (s1 : ASt), lookup s.σ t = some (.one (.pv (.grow u0 Z e sz n f))) ∧ (∀ b, Z b → N ≤ b) ∧ (∀ i, i < n * sz → Keeps Z (f i)) ∧
    s1.nt = s.nt ∧ SwS Z [(.grow u0 Z e sz n f, .val u0)] s.σ s1.σ ∧ SwH Z [(.grow u0 Z e sz n f, .val u0)] s.h s1.h ∧ K ⟨upd s1.σ t (.one (.own s1.h.length sz 0 n)), s1.h ++ [some ⟨e, n * sz, f⟩], s1.nt⟩

theorem take_ok {N : Nat} {t : Nat} {K : ASt → Prop} (hN : w0.heap.size = N) (sim : SimAt w0 S0 s φ a w) (h : takeK N t s K) : ∃ s' φ', K s' ∧ SimAt w0 S0 s' φ' a w := by
  obtain ⟨u0, Z, e, sz, n, f, s1, ht, hZ, hf, hnt, hσ, hh, hK⟩ := h
  obtain ⟨u, hu, hr⟩ := sim.slots t _ ht
  obtain ⟨hu0, hz, hr⟩ : Rd w (Stab w0 S0 s.h φ) (.grow u0 Z e sz n f) u := hr
  subst hu0
  have hlen : φ.length = s1.h.length := by rw [sim.heap.len, hh.len]
  -- the parts of a world that are read as before
  have gen : ∀ (x : Option (Nat × Nat)) (hx : ∀ b z, x = some (b, z) → Z b), ∀ b, Stab w0 S0 s.h φ b → ¬ Z b → Stab w0 S0 (s1.h ++ [some ⟨e, n * sz, f⟩]) (φ ++ [x]) b := fun x hx b hb hnz => by
    refine ⟨hb.1, fun hl => ?_⟩
    rcases (live_append hlen).1 hl with ⟨id, blk, z, hi, hp⟩ | ⟨id, blk, z, hi, hp⟩
    · obtain ⟨b0, h4, _⟩ := hh.get hi
      exact hb.2 ⟨id, b0, z, h4, hp⟩
    · have : id = 0 := by
        rcases Nat.eq_zero_or_pos id with h | h
        · exact h
        · rw [List.getElem?_eq_none (by simp; omega)] at hp; cases hp
      subst this
      have hp : x = some (b, z) := by simpa using hp
      exact hnz (hx b z hp)
  have main : ∀ (x : Option (Nat × Nat)) (hx : ∀ b z, x = some (b, z) → Z b),
      ((x = none ∧ n * sz = 0) ∨ ∃ b cur, x = some (b, cur.size) ∧ w0.heap.size ≤ b ∧ ¬ Live s.h φ b ∧ w.heap[b]? = some (.cells cur e (0, 0)) ∧ n * sz ≤ cur.size ∧ ∀ i, i < n * sz → ∃ y, cur[i]? = some y ∧ Rd w (Stab w0 S0 s.h φ) (f i) y) →
      RdS w (Stab w0 S0 (s1.h ++ [some ⟨e, n * sz, f⟩]) (φ ++ [x])) (φ ++ [x]) (.own s1.h.length sz 0 n) u → ∃ s' φ', K s' ∧ SimAt w0 S0 s' φ' a w := fun x hx hb hown => by
    have hst := gen x hx
    have step : ∀ (v v' : V) (y : Value), ZStep Z [(.grow u Z e sz n f, .val u)] v v' → Rd w (Stab w0 S0 s.h φ) v y → Rd w (Stab w0 S0 (s1.h ++ [some ⟨e, n * sz, f⟩]) (φ ++ [x])) v' y := fun v v' y hz hr => by
      rcases hz with ⟨hk, rfl⟩ | hz
      · exact Keeps.less hst v y hk hr
      · simp only [List.mem_singleton, Prod.mk.injEq] at hz
        obtain ⟨rfl, rfl⟩ := hz
        exact hr.1
    have hnew : ∀ {id : Nat} {blk : Blk}, (s1.h ++ [some ⟨e, n * sz, f⟩])[id]? = some (some blk) → (id < s1.h.length ∧ s1.h[id]? = some (some blk)) ∨ (id = s1.h.length ∧ blk = ⟨e, n * sz, f⟩) := fun {id blk} hi => by
      rcases Nat.lt_or_ge id s1.h.length with h | h
      · rw [List.getElem?_append_left h] at hi; exact .inl ⟨h, hi⟩
      · rw [List.getElem?_append_right h] at hi
        have h0 : id - s1.h.length = 0 := by
          rcases Nat.eq_zero_or_pos (id - s1.h.length) with h | h
          · exact h
          · rw [List.getElem?_eq_none (by simp; omega)] at hi; cases hi
        rw [h0] at hi
        simp at hi
        exact .inr ⟨by omega, hi.symm⟩
    refine ⟨_, φ ++ [x], hK, ⟨⟨by simp [hlen], sim.heap.below, fun id blk hi => ?_, fun i j bi bj b z z' hi hj hi' hj' => ?_⟩, fun t' v hv => ?_, sim.defers, by rw [sim.size, hnt]⟩⟩
    · rcases hnew hi with ⟨hlt, hi⟩ | ⟨rfl, rfl⟩
      · obtain ⟨b0, h4, h5, h6, h7⟩ := hh.get hi
        rcases sim.heap.blk id b0 h4 with ⟨h8, h9⟩ | ⟨b, cur, h8, h9, h10, h11, h12⟩
        · exact .inl ⟨by rw [List.getElem?_append_left (by omega)]; exact h8, by omega⟩
        · refine .inr ⟨b, cur, by rw [List.getElem?_append_left (by omega)]; exact h8, h9, by rw [← h5]; exact h10, by omega, fun i hi' => ?_⟩
          obtain ⟨y, hy, hr⟩ := h12 i (by omega)
          exact ⟨y, hy, step _ _ _ (h7 i hi') hr⟩
      · have hat : (φ ++ [x])[s1.h.length]? = some x := by rw [← hlen]; simp
        rcases hb with ⟨hx0, h0⟩ | ⟨b, cur, hx0, hB, hl, hcur, hle, hcells⟩
        · exact .inl ⟨by rw [hat, hx0], h0⟩
        · refine .inr ⟨b, cur, by rw [hat, hx0], hB, hcur, hle, fun i hi' => ?_⟩
          obtain ⟨y, hy, hr⟩ := hcells i hi'
          exact ⟨y, hy, Keeps.less hst _ _ (hf i hi') hr⟩
    · have hat : (φ ++ [x])[s1.h.length]? = some x := by rw [← hlen]; simp
      have old : ∀ {k : Nat} {bk : Blk} {zz : Nat}, k < s1.h.length → s1.h[k]? = some (some bk) → (φ ++ [x])[k]? = some (some (b, zz)) → Live s.h φ b ∧ φ[k]? = some (some (b, zz)) ∧ ∃ b0, s.h[k]? = some (some b0) := fun {k bk zz} h1 h2 h3 => by
        rw [List.getElem?_append_left (by omega)] at h3
        obtain ⟨b0, h4, _⟩ := hh.get h2
        exact ⟨⟨k, b0, _, h4, h3⟩, h3, b0, h4⟩
      have new : ∀ {zz : Nat}, (φ ++ [x])[s1.h.length]? = some (some (b, zz)) → ¬ Live s.h φ b := fun {zz} h => by
        rw [hat] at h
        injection h with h
        rcases hb with ⟨hx0, _⟩ | ⟨b', cur, hx0, _, hl, _⟩
        · rw [hx0] at h; cases h
        · rw [hx0] at h; injection h with h; injection h with h1 h2; rw [← h1]; exact hl
      rcases hnew hi with ⟨h1, h2⟩ | ⟨rfl, _⟩ <;> rcases hnew hj with ⟨h3, h4⟩ | ⟨rfl, _⟩
      · obtain ⟨_, q1, b1, q2⟩ := old h1 h2 hi'
        obtain ⟨_, q3, b2, q4⟩ := old h3 h4 hj'
        exact sim.heap.inj i j b1 b2 b z z' q2 q4 q1 q3
      · exact absurd (old h1 h2 hi').1 (new hj')
      · exact absurd (old h3 h4 hj').1 (new hi')
      · rfl
    · rw [lookup_upd] at hv
      split at hv
      · rename_i et; subst et; injection hv with hv; subst hv
        exact ⟨u, hu, hown⟩
      · obtain ⟨v0, h4, h5⟩ := hσ.get hv
        obtain ⟨y, hy, hr⟩ := sim.slots t' v0 h4
        refine ⟨y, hy, ?_⟩
        unfold SwSl at h5
        have hid : ∀ {i : Nat} {p : Nat × Nat}, φ[i]? = some (some p) → (φ ++ [x])[i]? = some (some p) := fun {i p} h => by rw [List.getElem?_append_left (List.getElem?_eq_some_iff.1 h).1]; exact h
        split at h5
        · exact step _ _ _ h5 hr
        · obtain ⟨rfl, rfl, rfl, rfl⟩ := h5
          rcases hr with ⟨q1, q2⟩ | ⟨b, c, z, q1, q2⟩
          · exact .inl ⟨by rw [List.getElem?_append_left (List.getElem?_eq_some_iff.1 q1).1]; exact q1, q2⟩
          · exact .inr ⟨b, c, z, hid q1, q2⟩
        · obtain ⟨rfl, rfl⟩ := h5
          obtain ⟨b, z, q1, q2⟩ := hr
          exact ⟨b, z, hid q1, q2⟩
        · exact h5.elim
  rcases hr with ⟨rfl, hn⟩ | ⟨b, c, cur, rfl, h2, h3, h4, h5, h6, h7⟩
  · exact main none (fun _ _ h => by cases h) (.inl ⟨rfl, by rw [hn]; omega⟩) (.inl ⟨by rw [← hlen]; simp, rfl, hn, rfl⟩)
  · have hle : n * sz ≤ cur.size := by rw [h6]; exact Nat.mul_le_mul_right _ h2
    exact main (some (b, cur.size)) (fun b' z h => by injection h with h; injection h with h1 h2; subst h1; exact h4) (.inr ⟨b, cur, rfl, by have := hZ b h4; omega, (hz b h4).1.2, h5, hle, h7⟩)
      (.inr ⟨b, c, cur.size, by rw [← hlen]; simp, rfl, h2, h3, by omega⟩)

theorem AWP.take [Cx] {N : Nat} {c : Code} {Q : Exit → ASt → Prop} {s : ASt} (t : Nat) (h : takeK N t s (AWP N P c Q)) : AWP N P c Q s := by
  exact AWP.of_step fun w0 S0 φ a w hN sim => take_ok hN sim h
theorem take_go {N t : Nat} {s : ASt} {K : ASt → Prop} {u0 : Value} {Z : Nat → Prop} {e : TypeId} {sz n : Nat} {f : Nat → V} (s1 : ASt) (ht : lookup s.σ t = some (.one (.pv (.grow u0 Z e sz n f)))) (hZ : ∀ b, Z b → N ≤ b) (hf : ∀ i, i < n * sz → Keeps Z (f i))
    (hnt : s1.nt = s.nt) (hσ : SwS Z [(.grow u0 Z e sz n f, .val u0)] s.σ s1.σ) (hh : SwH Z [(.grow u0 Z e sz n f, .val u0)] s.h s1.h) (h : K ⟨upd s1.σ t (.one (.own s1.h.length sz 0 n)), s1.h ++ [some ⟨e, n * sz, f⟩], s1.nt⟩) : takeK N t s K :=
  ⟨u0, Z, e, sz, n, f, s1, ht, hZ, hf, hnt, hσ, hh, h⟩
theorem letGrow_go {N t : Nat} {s : ASt} {K : ASt → Prop} {id sz len : Nat} {blk : Blk} (ht : lookup s.σ t = some (.one (.own id sz 0 len))) (hb : s.h[id]? = some (some blk)) (hl : len * sz ≤ blk.n)
    (h : ∀ (u0 : Value) (Z : Nat → Prop), (∀ b, Z b → N ≤ b) → (∀ Z', ZSt Z' s → Disj Z' Z) → K ⟨upd s.σ t (.one (.pv (.grow u0 Z blk.elem sz len blk.f))), s.h.set id none, s.nt⟩) : letGrowK N t s K := ⟨id, sz, len, blk, ht, hb, hl, h⟩
end
end Go.Proofs.YteapdildbfimnaaGreatDoor
namespace Go.Proofs.YteapdildbfimnaaGreatDoor
set_option linter.unusedSimpArgs false
set_option linter.unusedVariables false
open Go.RowKit

/-- Orders, as Nd; st: the state is told in other words. -/
inductive Nx where
  | done
  | take (i : Nat) (t : Nx)
  | one (i : Nat) (t : Nx)
  | alt (i : Nat) (t u : Nx)
  | st (t : Nx)

def Nx.heads : Nx → List Nat
  | .one i _ => [i]
  | .alt i _ u => i :: u.heads
  | _ => []

/-- The tree tells all orders. -/
def okNx (ops : Array Oper) : Bool → Nat → Array Bool → Nx → Bool
  | _, _, listed, .done => decide (Region.ready .any ops listed = [])
  | false, f + 1, listed, .take i t => (match ops[i]? with | some o => noCall o && noLoad o | none => false) && (Region.ready .any ops listed).contains i && Region.free .any ops listed i && okNx ops false f (listed.setIfInBounds i true) t
  | b, f + 1, listed, .one i t => (b || decide (Region.ready .any ops listed = [i])) && okNx ops false f (listed.setIfInBounds i true) t
  | b, f + 1, listed, .alt i t u => (b || decide (Region.ready .any ops listed = i :: u.heads)) && okNx ops false f (listed.setIfInBounds i true) t && okNx ops true (f + 1) listed u
  | false, f, listed, .st t => okNx ops false f listed t
  | _, _, _, _ => false

/-- An operation is done, by whatever rule. -/
def OpAny [Cx] (N : Nat) (P : Program) (o : Oper) (K : ASt → Prop) (s : ASt) : Prop :=
  o.guard = none ∧ ∀ (w0 : World) (S0 : Nat → Prop) (φ : List (Option (Nat × Nat))) (a : Act) (w : World), w0.heap.size = N → SimAt w0 S0 s φ a w → ∀ (next : Act → World → Prop) (Q : Exit → Act → World → Prop),
    (∀ s' a' w', K s' → SimR w0 S0 s' a' w' → next a' w') → o.wp P a w next Q
/-- The state in other words. -/
def StK (N : Nat) (s : ASt) (K : ASt → Prop) : Prop :=
  ∀ (w0 : World) (S0 : Nat → Prop) (φ : List (Option (Nat × Nat))) (a : Act) (w : World), w0.heap.size = N → SimAt w0 S0 s φ a w → ∃ s' φ', K s' ∧ SimAt w0 S0 s' φ' a w

def evAx [Cx] (N : Nat) (P : Program) (ops : List Oper) (i : Nat) (K : ASt → Prop) (s : ASt) : Prop :=
  match ops[i]? with
  | some o => OpAny N P o K s
  | none => False

def evNx [Cx] (N : Nat) (P : Program) (ops : List Oper) (K : ASt → Prop) : Nx → ASt → Prop
  | .done, s => K s
  | .take i t, s => evAt P true ops i (evNx N P ops K t) s
  | .one i t, s => evAx N P ops i (evNx N P ops K t) s
  | .alt i t u, s => evAx N P ops i (evNx N P ops K t) s ∧ evNx N P ops K u s
  | .st t, s => StK N s (evNx N P ops K t)

section
variable {P : Program} {w0 : World} {S0 : Nat → Prop} {N : Nat}

/-- All is done, in such a state. -/
def EndsR [Cx] (w0 : World) (S0 : Nat → Prop) (K : ASt → Prop) : Exit → Act → World → Prop := fun e a w => e = .normal ∧ ∃ s, K s ∧ SimR w0 S0 s a w

theorem evAx_ok [Cx] (hN : w0.heap.size = N) {ops : List Oper} {i : Nat} {K : ASt → Prop} {s : ASt} {φ : List (Option (Nat × Nat))} {a : Act} {w : World} (sim : SimAt w0 S0 s φ a w) (h : evAx N P ops i K s)
    {next : Act → World → Prop} {Q : Exit → Act → World → Prop} (hn : ∀ s' a' w', K s' → SimR w0 S0 s' a' w' → next a' w') : wpOp P ops.toArray Q i next a w := by
  unfold evAx at h
  split at h
  · rename_i o ho
    unfold wpOp
    rw [show ops.toArray[i]? = some o by simpa using ho]
    simp only []
    rw [if_pos (by simp [Region.wanted, h.1])]
    exact .inl (h.2 w0 S0 φ a w hN sim _ _ hn)
  · exact h.elim

theorem evNx_ok [Cx] {wb : World} {ops : List Oper} (hu : unguarded ops = true) (hs : Region.noSelect ops.toArray = true) {K : ASt → Prop} : ∀ (t : Nx) (b : Bool) (f : Nat) (listed : Array Bool) (w0 : World) (s : ASt) (φ : List (Option (Nat × Nat))) (a : Act) (w : World), w0.heap.size = N → Reb wb w0 →
    okNx ops.toArray b f listed t = true → SimAt w0 S0 s φ a w → evNx N P ops K t s →
    (b = false → wpAny P .any ops.toArray (EndsR wb S0 K) f listed a w) ∧
    (b = true → ∀ g, f = g + 1 → ∀ j ∈ t.heads, wpOp P ops.toArray (EndsR wb S0 K) j (fun a' w' => wpAny P .any ops.toArray (EndsR wb S0 K) g (listed.setIfInBounds j true) a' w') a w)
  | .done, b, f, listed, w0, s, φ, a, w, hN, hR, hB, sim, h => by
    refine ⟨fun _ => ?_, fun _ g _ j hj => by simp [Nx.heads] at hj⟩
    have hr : Region.ready .any ops.toArray listed = [] := by
      cases b <;> cases f <;> exact of_decide_eq_true hB
    exact wpAny_done hr ⟨rfl, s, h, w0, hR, φ, sim⟩ f
  | .st t, true, f, listed, w0, s, φ, a, w, hN, hR, hB, sim, h => by cases f <;> simp [okNx] at hB
  | .st t, false, f, listed, w0, s, φ, a, w, hN, hR, hB, sim, h => by
    refine ⟨fun _ => ?_, fun hb => by cases hb⟩
    have hB' : okNx ops.toArray false f listed t = true := by cases f <;> simpa [okNx] using hB
    obtain ⟨s', φ', hK, sim'⟩ := h w0 S0 φ a w hN sim
    exact (evNx_ok hu hs t false f listed w0 s' φ' a w hN hR hB' sim' hK).1 rfl
  | .take i t, true, f, listed, w0, s, φ, a, w, hN, hR, hB, sim, h => by cases f <;> simp [okNx] at hB
  | .take i t, false, 0, listed, w0, s, φ, a, w, hN, hR, hB, sim, h => by simp [okNx] at hB
  | .take i t, false, f + 1, listed, w0, s, φ, a, w, hN, hR, hB, sim, h => by
    refine ⟨fun _ => ?_, fun hb => by cases hb⟩
    simp only [okNx, Bool.and_eq_true] at hB
    obtain ⟨⟨⟨h1, hr⟩, hf⟩, hB⟩ := hB
    change evAt P true ops i (evNx N P ops K t) s at h
    unfold evAt at h
    split at h
    · rename_i o ho
      have ho' : ops.toArray[i]? = some o := by simpa using ho
      rw [ho'] at h1
      simp only [Bool.and_eq_true] at h1
      obtain ⟨s', v, hK, sim', hy⟩ := evOp_pure (ops := ops.toArray) sim (unguarded_get hu ho) h1.1 h1.2 h
      exact wpAny_take ho' hs hf hr (fun c a w hq => by cases hq.1) hy ((evNx_ok hu hs t false f _ w0 s' φ _ w hN hR hB sim' hK).1 rfl)
    · exact h.elim
  | .one i t, b, 0, listed, w0, s, φ, a, w, hN, hR, hB, sim, h => by cases b <;> simp [okNx] at hB
  | .one i t, b, f + 1, listed, w0, s, φ, a, w, hN, hR, hB, sim, h => by
    have hB' : (b || decide (Region.ready .any ops.toArray listed = [i])) = true ∧ okNx ops.toArray false f (listed.setIfInBounds i true) t = true := by
      cases b <;> simpa [okNx] using hB
    have hop : wpOp P ops.toArray (EndsR wb S0 K) i (fun a' w' => wpAny P .any ops.toArray (EndsR wb S0 K) f (listed.setIfInBounds i true) a' w') a w :=
      evAx_ok hN sim h fun s' a' w' hK ⟨w1, hR1, φ', sim'⟩ => (evNx_ok hu hs t false f _ w1 s' φ' a' w' (hR1.size.trans hN) (hR.trans hR1) hB'.2 sim' hK).1 rfl
    refine ⟨fun hb => ?_, fun _ g hg j hj => ?_⟩
    · subst hb
      have hr : Region.ready .any ops.toArray listed = [i] := by simpa using hB'.1
      refine wpAny_all hr (by simp) fun j hj => ?_
      obtain rfl : j = i := by simpa using hj
      exact hop
    · obtain rfl : f = g := by omega
      obtain rfl : j = i := by simpa [Nx.heads] using hj
      exact hop
  | .alt i t u, b, 0, listed, w0, s, φ, a, w, hN, hR, hB, sim, h => by cases b <;> simp [okNx] at hB
  | .alt i t u, b, f + 1, listed, w0, s, φ, a, w, hN, hR, hB, sim, h => by
    have hB' : ((b || decide (Region.ready .any ops.toArray listed = i :: u.heads)) = true ∧ okNx ops.toArray false f (listed.setIfInBounds i true) t = true) ∧ okNx ops.toArray true (f + 1) listed u = true := by
      cases b <;> simpa [okNx] using hB
    have hop : wpOp P ops.toArray (EndsR wb S0 K) i (fun a' w' => wpAny P .any ops.toArray (EndsR wb S0 K) f (listed.setIfInBounds i true) a' w') a w :=
      evAx_ok hN sim h.1 fun s' a' w' hK ⟨w1, hR1, φ', sim'⟩ => (evNx_ok hu hs t false f _ w1 s' φ' a' w' (hR1.size.trans hN) (hR.trans hR1) hB'.1.2 sim' hK).1 rfl
    have hoth := (evNx_ok hu hs u true (f + 1) listed w0 s φ a w hN hR hB'.2 sim h.2).2 rfl f rfl
    refine ⟨fun hb => ?_, fun _ g hg j hj => ?_⟩
    · subst hb
      have hr : Region.ready .any ops.toArray listed = i :: u.heads := by simpa using hB'.1.1
      refine wpAny_all hr (by simp) fun j hj => ?_
      rcases List.mem_cons.1 hj with rfl | hj
      · exact hop
      · exact hoth j hj
    · obtain rfl : f = g := by omega
      rcases List.mem_cons.1 (show j ∈ i :: u.heads from hj) with rfl | hj
      · exact hop
      · exact hoth j hj

/-- A region whose order is open: the tree tells all its orders. -/
theorem AWP.drawn_nx [Cx] {id : Nat} {ops : List Oper} {Q : Exit → ASt → Prop} {s : ASt} (t : Nx) (hm : P.follows .mixedOrders = true)
    (hB : (unguarded ops && Region.noSelect ops.toArray && okNx ops.toArray false ops.toArray.size (Array.replicate ops.toArray.size false) t) = true)
    (h : evNx N P ops (Q .normal) t s) : AWP N P (.region id ops.toArray true) Q s := by
  simp only [Bool.and_eq_true] at hB
  rintro wb S0 a w hN ⟨w0, hR, φ, sim⟩
  have sim1 : SimAt w0 S0 s φ a { w with drawn := w.drawn + 1 } := sim.after ⟨rfl, rfl, rfl, Nat.le_refl _, fun _ _ => rfl⟩
  have := wp_region_any (P := P) (id := id) hm ((evNx_ok hB.1.1 hB.1.2 t false _ _ w0 s φ a _ (hR.size.trans hN) hR hB.2 sim1 h).1 rfl)
  refine wp_mono this fun e a' w' ⟨he, s', hK, hsim⟩ => ?_
  subst he
  exact ⟨s', hK, hsim⟩

/-! ### A region in its own order -/
/-- Operations one after the other, by whatever rules; st: the state in other words first. -/
inductive Sx where
  | op
  | st
def evSx [Cx] (N : Nat) (P : Program) (K : ASt → Prop) : List Sx → List Oper → ASt → Prop
  | [], [], s => K s
  | .st :: xs, os, s => StK N s (evSx N P K xs os)
  | .op :: xs, o :: os, s => OpAny N P o (evSx N P K xs os) s
  | _, _, _ => False
theorem evSx_ok [Cx] {wb : World} {l : List Oper} {K : ASt → Prop} : ∀ (xs : List Sx) (os : List Oper) (w0 : World) (s : ASt) (φ : List (Option (Nat × Nat))) (a : Act) (w : World), w0.heap.size = N → Reb wb w0 → SimAt w0 S0 s φ a w → evSx N P K xs os s → wpList P l.toArray (EndsR wb S0 K) os a w
  | [], [], w0, s, φ, a, w, hN, hR, sim, h => wpList_nil ⟨rfl, s, h, w0, hR, φ, sim⟩
  | [], _ :: _, w0, s, φ, a, w, hN, hR, sim, h => h.elim
  | .st :: xs, os, w0, s, φ, a, w, hN, hR, sim, h => by
    have h : StK N s (evSx N P K xs os) := by cases os <;> exact h
    obtain ⟨s', φ', hK, sim'⟩ := h w0 S0 φ a w hN sim
    exact evSx_ok xs os w0 s' φ' a w hN hR sim' hK
  | .op :: xs, [], w0, s, φ, a, w, hN, hR, sim, h => h.elim
  | .op :: xs, o :: os, w0, s, φ, a, w, hN, hR, sim, h => by
    obtain ⟨hg, h⟩ : OpAny N P o (evSx N P K xs os) s := h
    exact wpList_plain hg fun K1 hK1 => h w0 S0 φ a w hN sim _ _ fun s' a' w' hK ⟨w1, hR1, φ', sim'⟩ => hK1 _ _ (evSx_ok xs os w1 s' φ' a' w' (hR1.size.trans hN) (hR.trans hR1) sim' hK)
theorem AWP.region_sx [Cx] {id : Nat} {ops : List Oper} {Q : Exit → ASt → Prop} {s : ASt} (xs : List Sx) (h : evSx N P (Q .normal) xs ops s) : AWP N P (.region id ops.toArray false) Q s := by
  rintro wb S0 a w hN ⟨w0, hR, φ, sim⟩
  refine wp_mono (wp_region_lit (evSx_ok xs ops w0 s φ a w (hR.size.trans hN) hR sim h)) fun e a' w' ⟨he, s', hK, hsim⟩ => ?_
  subst he
  exact ⟨s', hK, hsim⟩

/-! ### Steps -/
def Ax [Cx] (N : Nat) (P : Program) (K : ASt → Prop) (o : Oper) (s : ASt) : Prop := OpAny N P o K s
theorem nx_done [Cx] {ops : List Oper} {K : ASt → Prop} {s : ASt} (h : K s) : evNx N P ops K .done s := h
theorem nx_take [Cx] {ops : List Oper} {K : ASt → Prop} {k : Nat} {t : Nx} {s : ASt} {o : Oper} (ho : ops[k]? = some o) (h : ∀ K' : ASt → Prop, (∀ s', evNx N P ops K t s' → K' s') → evOp P true o K' s) : evNx N P ops K (.take k t) s := by
  show evAt P true ops k _ s
  unfold evAt; rw [ho]; exact h _ fun _ h => h
theorem nx_one [Cx] {ops : List Oper} {K : ASt → Prop} {k : Nat} {t : Nx} {s : ASt} {o : Oper} (ho : ops[k]? = some o) (h : Ax N P (evNx N P ops K t) o s) : evNx N P ops K (.one k t) s := by
  show evAx N P ops k _ s
  unfold evAx; rw [ho]; exact h
theorem nx_alt [Cx] {ops : List Oper} {K : ASt → Prop} {k : Nat} {t u : Nx} {s : ASt} {o : Oper} (ho : ops[k]? = some o) (h : Ax N P (evNx N P ops K t) o s) (h' : evNx N P ops K u s) : evNx N P ops K (.alt k t u) s := by
  refine ⟨?_, h'⟩
  unfold evAx; rw [ho]; exact h
theorem nx_st [Cx] {ops : List Oper} {K : ASt → Prop} {t : Nx} {s : ASt} (h : StK N s (evNx N P ops K t)) : evNx N P ops K (.st t) s := h
theorem sx_done [Cx] {K : ASt → Prop} {s : ASt} (h : K s) : evSx N P K [] [] s := h
theorem sx_st [Cx] {K : ASt → Prop} {xs : List Sx} {os : List Oper} {s : ASt} (h : StK N s (evSx N P K xs os)) : evSx N P K (.st :: xs) os s := by cases os <;> exact h
theorem sx_op [Cx] {K : ASt → Prop} {xs : List Sx} {o : Oper} {os : List Oper} {s : ASt} (h : Ax N P (evSx N P K xs os) o s) : evSx N P K (.op :: xs) (o :: os) s := h
theorem ax_op [Cx] {K : ASt → Prop} {o : Oper} {s : ASt} (hg : o.guard = none) (h : ∀ K' : ASt → Prop, (∀ s', K s' → K' s') → evOp P false o K' s) : Ax N P K o s :=
  ⟨hg, fun w0 S0 φ a w hN sim next Q hn => evOp_plain sim (h _ fun _ h => h) fun s' a' w' hK hs => hn s' a' w' hK hs.R⟩
theorem ax_rule [Cx] {K : ASt → Prop} {o : Oper} {s : ASt} {X : ASt → (ASt → Prop) → Prop} (hX : OpRule N P o X) (h : X s K) : Ax N P K o s :=
  ⟨hX.1, fun w0 S0 φ a w hN sim next Q hn => hX.2 w0 S0 s φ a w K next Q hN sim h fun s' a' w' hK hs => hn s' a' w' hK hs.R⟩
theorem ax_callE [Cx] {K : ASt → Prop} {f : FuncId} {args : Array Operand} {d ty : Nat} {ts : Array TypeId} {pos : String} {after : Array Edge} {s : ASt} (h : callEK N P f args.toList d s K) :
    Ax N P K ⟨some d, .call ⟨.value (.func f), args, ts⟩, ty, pos, after, none⟩ s := ax_rule callE_rule h
theorem stk_take {s : ASt} {K : ASt → Prop} {t : Nat} (h : takeK N t s K) : StK N s K := fun w0 S0 φ a w hN sim => take_ok hN sim h
theorem stk_letGrow {s : ASt} {K : ASt → Prop} {t : Nat} (h : letGrowK N t s K) : StK N s K := fun w0 S0 φ a w hN sim => by
  obtain ⟨s', h1, h2⟩ := letGrow_ok hN sim h; exact ⟨s', φ, h1, h2⟩
theorem stk_letRow {s : ASt} {K : ASt → Prop} {t : Nat} (h : letRowK N t s K) : StK N s K := fun w0 S0 φ a w hN sim => by
  obtain ⟨s', h1, h2⟩ := letRow_ok hN sim h; exact ⟨s', φ, h1, h2⟩
end
end Go.Proofs.YteapdildbfimnaaGreatDoor
namespace Go.Proofs.YteapdildbfimnaaGreatDoor
set_option linter.unusedSimpArgs false
set_option linter.unusedVariables false
open Go.RowKit

/-- A goal that is put off. -/
def Later (p : Prop) : Prop := p
section
variable {P : Program}
end
end Go.Proofs.YteapdildbfimnaaGreatDoor
namespace Go.Proofs.YteapdildbfimnaaGreatDoor
open Go.RowKit Go.Proofs
set_option linter.unusedSimpArgs false
set_option linter.unusedVariables false

/-- A list of numbers that may grow. -/
def isG (l : List Int) (v : V) : Prop := ∃ (u : Value) (Z : Nat → Prop), v = .grow u Z 3 1 l.length fun j => vi (l.getD j 0)
def gL (N n : Nat) (p : Nat → List Int) (F : Nat → V) : Prop := ∀ q, q < n → isG (p q) (F q) ∧ (∀ b, Zof (F q) b → N ≤ b) ∧ ∀ r, r < n → r ≠ q → Apart (F q) (F r)
theorem isG.one {l : List Int} {v : V} (h : isG l v) : v.one = true := by obtain ⟨u, Z, rfl⟩ := h; rfl
theorem Zof.grow {u : Value} {Z : Nat → Prop} {e : TypeId} {n : Nat} {g : Nat → Int} {b : Nat} : Zof (.grow u Z e 1 n fun j => vi (g j)) b ↔ Z b := by
  constructor
  · rintro ⟨Z', h, hb⟩
    cases h with
    | grow => exact hb
    | inGrow _ _ _ _ _ _ i _ h => cases h
  · intro h; exact ⟨Z, .grow _ _ _ _ _, h⟩
theorem isG.keeps {l : List Int} {v : V} {T : Nat → Prop} (h : isG l v) (hT : Disj (Zof v) T) : Keeps T v := by
  obtain ⟨u, Z, rfl⟩ := h
  exact ⟨fun b hb => hT b (Zof.grow.2 hb), fun _ _ => trivial⟩
theorem isG.new {l : List Int} {v : V} (h : isG l v) : NewV (fun _ => True) v := by obtain ⟨u, Z, rfl⟩ := h; exact ⟨trivial, fun _ _ => trivial⟩
/-- Let go as a row. -/
def rowOfG : V → V
  | .grow u Z _ sz n f => .row u Z sz n f
  | v => v
theorem isG.row {l : List Int} {v : V} (h : isG l v) : isRow l (rowOfG v) ∧ VE v (rowOfG v) ∧ ∀ b, Zof (rowOfG v) b ↔ Zof v b := by
  obtain ⟨u, Z, rfl⟩ := h
  refine ⟨⟨u, Z, rfl⟩, ⟨rfl, rfl, rfl, rfl, fun i _ => VE.rfl' _⟩, fun b => ⟨?_, ?_⟩⟩
  · rintro ⟨Z', h, hb⟩
    cases h with
    | row => exact Zof.grow.2 hb
    | inRow _ _ _ _ _ i _ h => cases h
  · intro h; exact ⟨Z, .row _ _ _ _, Zof.grow.1 h⟩
/-- One of the lists has grown. -/
theorem gL.step {N n k : Nat} {p p' : Nat → List Int} {F : Nat → V} {u1 : Value} {Z1 : Nat → Prop} (h : gL N n p F) (hk : k < n) (hp : ∀ q, q < n → q ≠ k → p' q = p q) (hN : ∀ b, Z1 b → N ≤ b) (hd : ∀ q, q < n → q ≠ k → Disj (Zof (F q)) Z1) :
    gL N n p' fun q => if q = k then .grow u1 Z1 3 1 (p' k).length fun j => vi ((p' k).getD j 0) else F q := by
  intro q hq
  by_cases e : q = k
  · subst e
    simp only [if_pos]
    refine ⟨⟨u1, Z1, rfl⟩, fun b hb => hN b (Zof.grow.1 hb), fun r hr hne => ?_⟩
    rw [if_neg hne]
    exact fun b hb hb' => hd r hr hne b hb' (Zof.grow.1 hb)
  · obtain ⟨h1, h2, h3⟩ := h q hq
    simp only [if_neg e]
    refine ⟨by rw [hp q hq e]; exact h1, h2, fun r hr hne => ?_⟩
    by_cases e' : r = k
    · rw [if_pos e']
      exact fun b hb hb' => hd q hq e b hb (Zof.grow.1 hb')
    · rw [if_neg e']; exact h3 r hr hne

theorem letRow_go {N t : Nat} {s : ASt} {K : ASt → Prop} {id sz len : Nat} {blk : Blk} (ht : lookup s.σ t = some (.one (.own id sz 0 len))) (hb : s.h[id]? = some (some blk)) (hl : len * sz ≤ blk.n)
    (h : ∀ (u0 : Value) (Z : Nat → Prop), (∀ b, Z b → N ≤ b) → (∀ Z', ZSt Z' s → Disj Z' Z) → K ⟨upd s.σ t (.one (.pv (.row u0 Z sz len blk.f))), s.h.set id none, s.nt⟩) : letRowK N t s K := ⟨id, sz, len, blk, ht, hb, hl, h⟩
theorem grow_if {e : TypeId} {k : Nat} {F : Nat → V} {v v' z : V} (h : VE v v') : BE ⟨e, k + 1, fun i => if i < k then F i else if i - k = 0 then v else z⟩ ⟨e, k + 1, fun i => if i = k then v' else F i⟩ := by
  refine ⟨rfl, Nat.le_refl _, fun i hi => ?_⟩
  have hi : i < k + 1 := hi
  show VE (if i < k then F i else if i - k = 0 then v else z) (if i = k then v' else F i)
  by_cases e : i = k
  · subst e; rw [if_neg (by omega), if_pos (by omega), if_pos rfl]; exact h
  · rw [if_pos (by omega), if_neg e]; exact VE.rfl' _
open Go.RowKit Go.Proofs
set_option linter.unusedSimpArgs false
set_option linter.unusedVariables false
def gS (N k : Nat) (p : Nat → V → Prop) (v : V) : Prop := ∃ (u : Value) (Z : Nat → Prop) (F : Nat → V), v = .grow u Z 28 1 k F ∧ (∀ b, Z b → N ≤ b) ∧ ∀ i, i < k → p i (F i) ∧ (∀ b, Zof (F i) b → N ≤ b) ∧ Disj Z (Zof (F i)) ∧ ∀ j, j < k → j ≠ i → Apart (F i) (F j)

theorem Zof.growF {u : Value} {Z : Nat → Prop} {e : TypeId} {n : Nat} {F : Nat → V} {b : Nat} : Zof (.grow u Z e 1 n F) b ↔ Z b ∨ ∃ i, i < n ∧ Zof (F i) b := by
  constructor
  · rintro ⟨Z', h, hb⟩
    cases h with
    | grow => exact .inl hb
    | inGrow _ _ _ _ _ _ i hi h => exact .inr ⟨i, by omega, Z', h, hb⟩
  · rintro (h | ⟨i, hi, Z', h, hb⟩)
    · exact ⟨Z, .grow _ _ _ _ _, h⟩
    · exact ⟨Z', .inGrow _ _ _ _ _ _ i (by omega) h, hb⟩
theorem gS.nil (N : Nat) (p : Nat → V → Prop) : gS N 0 p (.grow (.slice none 0 0) (fun _ => False) 28 1 0 fun _ => .val undef) := ⟨_, _, _, rfl, fun _ h => h.elim, fun i hi => by omega⟩
theorem gS.step {N k : Nat} {p : Nat → V → Prop} {Z Z2 : Nat → Prop} {u2 : Value} {F : Nat → V} {v : V} (h : ∀ i, i < k → p i (F i) ∧ (∀ b, Zof (F i) b → N ≤ b) ∧ Disj Z (Zof (F i)) ∧ ∀ j, j < k → j ≠ i → Apart (F i) (F j)) (hv : p k v) (hN : ∀ b, Zof v b → N ≤ b) (ha : ∀ i, i < k → Apart (F i) v)
    (hZ : ∀ b, Z2 b → N ≤ b) (hd : ∀ i, i < k → Disj Z2 (Zof (F i))) (hdv : Disj Z2 (Zof v)) : gS N (k + 1) p (.grow u2 Z2 28 1 (k + 1) fun i => if i = k then v else F i) := by
  refine ⟨u2, Z2, _, rfl, hZ, fun i hi => ?_⟩
  by_cases e : i = k
  · subst e
    simp only [if_pos]
    exact ⟨hv, hN, hdv, fun j hj hne => by rw [if_neg hne]; exact (ha j (by omega)).symm⟩
  · obtain ⟨q1, q2, q3, q4⟩ := h i (by omega)
    simp only [if_neg e]
    refine ⟨q1, q2, hd i (by omega), fun j hj hne => ?_⟩
    by_cases e' : j = k
    · rw [if_pos e']; exact ha i (by omega)
    · rw [if_neg e']; exact q4 j (by omega) hne
theorem gS.new {N k : Nat} {p : Nat → V → Prop} {v : V} (hp : ∀ i v, p i v → NewV (fun _ => True) v) (h : gS N k p v) : NewV (fun _ => True) v := by
  obtain ⟨u, Z, F, rfl, h1, h2⟩ := h
  exact ⟨trivial, fun i hi => hp i _ (h2 i (by omega)).1⟩
theorem gS.ge {N k : Nat} {p : Nat → V → Prop} {v : V} (h : gS N k p v) : ∀ b, Zof v b → N ≤ b := by
  obtain ⟨u, Z, F, rfl, h1, h2⟩ := h
  intro b hb
  rcases Zof.growF.1 hb with hb | ⟨i, hi, hb⟩
  · exact h1 b hb
  · exact (h2 i hi).2.1 b hb
theorem gS.one {N k : Nat} {p : Nat → V → Prop} {v : V} (h : gS N k p v) : v.one = true := by obtain ⟨u, Z, F, rfl, h⟩ := h; rfl
theorem one_sw {Z : Nat → Prop} {ps : List (V × V)} {v z : V} (h : Keeps Z v) : ∀ i, i < 1 → ZStep Z ps (if i = 0 then v else z) v := fun i hi => by
  obtain rfl : i = 0 := by omega
  exact .inl ⟨h, rfl⟩
/-- The rows that are being made, apart from what is there. -/
def pU (N n cnt : Nat) (m : List (List Int)) (O : Nat → V) (F : Nat → V) : Prop := partL N n cnt (fun q => isRow (rowAt m q)) F ∧ ∀ q, q < cnt → ∀ i, i < 3 → Apart (O i) (F q)
theorem pU.nil (N n : Nat) (m : List (List Int)) (O F : Nat → V) : pU N n 0 m O F := ⟨⟨by omega, fun i hi => by omega⟩, fun q hq => by omega⟩
theorem pU.grow {N n cnt : Nat} {m : List (List Int)} {O F : Nat → V} {v : V} (h : pU N n cnt m O F) (hc : cnt < n) (hv : isRow (rowAt m cnt) v) (hN : ∀ b, Zof v b → N ≤ b) (hd : ∀ i, i < cnt → Apart (F i) v) (ho : ∀ i, i < 3 → Apart (O i) v) : pU N n (cnt + 1) m O (fun i => if i = cnt then v else F i) := by
  refine ⟨h.1.grow hc hv hN hd, fun q hq i hi => ?_⟩
  show Apart (O i) (if q = cnt then v else F q)
  by_cases e : q = cnt
  · rw [if_pos e]; exact ho i hi
  · rw [if_neg e]; exact h.2 q (by omega) i hi
end Go.Proofs.YteapdildbfimnaaGreatDoor
namespace Go.Proofs.YteapdildbfimnaaGreatDoor
open Go.RowKit Go.Proofs
set_option linter.unusedSimpArgs false
set_option linter.unusedVariables false

def nfAt (L : List (List T3)) (i : Nat) : List T3 := (normR (tsAt L i)).1
def okAt (L : List (List T3)) (i : Nat) : Bool := (normR (tsAt L i)).2
def nfB (L : List (List T3)) : Bool := decide (L.length ≤ 10) && allN L.length fun i => okAt L i
theorem nfB_no {L : List (List T3)} {k : Nat} (hk : k < L.length) (h : okAt L k = false) : nfB L = false := by unfold nfB; rw [allN_false hk h, Bool.and_false]
theorem nfB_yes {L : List (List T3)} (h : L.length ≤ 10) (h2 : ∀ i, i < L.length → okAt L i = true) : nfB L = true := by unfold nfB; rw [allN_true h2]; simp [h]
theorem nfB_long {L : List (List T3)} (h : ¬ L.length ≤ 10) : nfB L = false := by unfold nfB; simp [h]
theorem nfAt_le (L : List (List T3)) (i : Nat) : (nfAt L i).length ≤ (tsAt L i).length := normR_le _
/-- Lists of terms in new memory, or none, and whether they are there. -/
def tfE (n : Nat) (fs : Nat → List T3) (ok : Bool) : Res → Prop := fun r => ∃ F : Nat → V, (∀ i, i < n → isT (fs i) (F i) ∧ ∀ j, j < n → j ≠ i → Apart (F i) (F j)) ∧ r = .many [.fr 1 n ⟨32, n, F⟩, .pv (vb ok)]
theorem tfE.shape {n : Nat} {fs : Nat → List T3} {ok : Bool} (r : Res) (h : tfE n fs ok r) : r.shape 2 = true := by obtain ⟨F, _, rfl⟩ := h; rfl
set_option maxHeartbeats 2000000 in
theorem normalForms_E (L : List (List T3)) (hl : L.length ≤ 1099511627776) (hr : ∀ i, i < L.length → (tsAt L i).length ≤ 1099511627776) : FnE Tryz.prog 22 [termss L] (tfE (if nfB L then L.length else 0) (nfAt L) (nfB L)) := by
  refine FnE.of_body (fun N => [.old (fun b => b < N) (termss L)]) (fun _ us h => oldL_rd _ us h) Tryz.call22 Tryz.func22 rfl Tryz.ntmps22 (ts := [2, 3]) rfl (fun _ => by simp) (tfE.shape) (fun N => ?_)
  by_cases h10 : L.length ≤ 10
  · repeat' (first | (with_reducible first | refine then_normal ?_ | refine then_ret ?_ | refine then_exit ?_ | refine block_normal ?_ | refine block_ret ?_) | ((with_reducible show blockQ _ _ _ _); first | refine block_exit ?_ | refine block_exit_ne rfl ?_) | ((with_reducible show AWP _ _ _ _ _); first | (with_reducible first | refine AWP.seq ?_ | refine AWP.block ?_ | refine AWP.region ?_ | refine AWP.ret ?_ | refine AWP.exit ?_ | refine AWP.skip ?_) | refine AWP.drawn rfl (by kernel_rfl) ?_ | refine AWP.cond rfl ?_ ?_) | with_reducible refine ev_nil ?_ | ((first | ((with_reducible show evOps _ _ _ _ _ _); (first | refine ev_step rfl ?_ | refine ev_undef rfl rfl rfl ?_); intro K hK) | ((with_reducible show EvOpen _ _ _ _ _ _ _); refine ev_open ?_; intro K hK) | ((with_reducible show SkOpen _ _ _ _ _ _ _); refine sk_open ?_; intro K hK) | ((with_reducible show callK _ _ _ _ _ _ _ _); first | fail)); simp only [evOp, evQ, evB, binK, withS, opd, kput, putS, upd, lookup, slotsOf, newBlk, partsK, buildSliceK, Nat.zero_le, sz_termss, ei_termss, ea_termss, List.nil_append, List.length_cons, List.length_nil, Nat.reduceEqDiff, Nat.reduceLT, Nat.reduceLeDiff, Nat.mul_one, Nat.zero_add, Nat.mod_one, List.getD_cons_zero, ↓reduceIte, eq_self, true_and, Option.isSome_some]) | refine ev_guard rfl rfl rfl ?_ ?_ | ((with_reducible show retQ _ _ _ _); simp only [eq_self]) | (with_reducible refine hK _ ?_; clear hK K) | (with_reducible refine And.intro ?_ ?_) | (with_reducible intro hc; try simp only [decide_eq_true_eq, decide_eq_false_iff_not, Int.not_lt, gt_iff_lt] at hc) | omega)
    all_goals try (exfalso; omega; done)
    refine AWP.loop_entR [0] (fun x : Nat × (Nat → V) => ⟨[(4, .one (.own 0 1 0 x.1)), (13, .one (.pv (.old (fun b => b < N) (termss L)))), (14, sc (.int .i64 L.length)), (15, sc (.int .i64 x.1))], [some ⟨32, x.1, x.2⟩], 32⟩)
      (fun x => partL N L.length x.1 (fun i => isT (nfAt L i)) x.2 ∧ ∀ j, j < x.1 → okAt L j = true) (fun x => L.length - x.1) (0, fun _ => .val undef) ⟨⟨by omega, fun i hi => by omega⟩, fun j hj => by omega⟩ (by simp [EntR, EntSR, EntHR, SlR, VE, lookup, BE, upd, sc, VE.rfl']) ?_
    rintro ⟨k, F⟩ ⟨hG, hok⟩
    have hk := hG.1
    have hok : ∀ j, j < k → okAt L j = true := hok
    by_cases hkm : k < L.length
    · have hnp := (implNormalPlane_fn (tsAt L k) (hr k hkm)).bare (vs' := [.old (fun b => b < N) (terms (tsAt L k))]) ⟨VE.rfl' (terms (tsAt L k)), trivial⟩
      have e1 : (normR (tsAt L k)).1 = nfAt L k := rfl
      have e2 : (normR (tsAt L k)).2 = okAt L k := rfl
      rw [e1, e2] at hnp
      cases hb : okAt L k with
      | true =>
        rw [hb] at hnp
        repeat' (first | ((with_reducible show evNx _ _ _ _ _ _); first | (with_reducible refine nx_done ?_) | (refine nx_one rfl ?_) | (refine nx_alt rfl ?_ ?_) | (with_reducible refine nx_st ?_)) | ((with_reducible show evSx _ _ _ _ _ _); first | (with_reducible refine sx_done ?_) | (with_reducible refine sx_st ?_) | (with_reducible refine sx_op ?_)) | ((with_reducible show evTake _ _ _ _ _); with_reducible refine take_nil ?_) | ((with_reducible show evSy _ _ _ _ _ _ _); first | (with_reducible refine sy_done ?_) | (refine sy_last rfl ?_) | (refine sy_one (by decide) rfl ?_) | (refine sy_alt (by decide) rfl ?_ ?_) | (with_reducible refine sy_st ?_)) | ((with_reducible show StK _ _ _); first | (refine stk_letRow (letRow_go (t := 7) rfl rfl (by simp [bterms]) ?_) ; intro u1 Z1 hZ1 hD1 ; simp only [upd, List.set_cons_zero, List.set_cons_succ, Nat.reduceEqDiff, ↓reduceIte, eq_self]) | fail) | (with_reducible first | refine then_normal ?_ | refine then_ret ?_ | refine then_exit ?_ | refine block_normal ?_ | refine block_ret ?_) | ((with_reducible show blockQ _ _ _ _); first | refine block_exit ?_ | refine block_exit_ne rfl ?_) | ((with_reducible show AWP _ _ _ _ _); first | (refine AWP.region_sx (id := 10) [.st, .op, .op, .op, .op, .op] ?_) | (with_reducible first | refine AWP.seq ?_ | refine AWP.block ?_ | refine AWP.region ?_ | refine AWP.ret ?_ | refine AWP.exit ?_ | refine AWP.skip ?_) | refine AWP.drawn rfl (by kernel_rfl) ?_ | refine AWP.cond rfl ?_ ?_) | with_reducible refine ev_nil ?_ | ((first | ((with_reducible show evNx _ _ _ _ _ _); refine nx_take rfl ?_; intro K hK) | ((with_reducible show Ax _ _ _ _ _); first | (refine ax_op rfl ?_; intro K hK)) | ((with_reducible show evTake _ _ _ _ _); refine take_step rfl ?_; intro K hK) | ((with_reducible show evSy _ _ _ _ _ _ _); refine sy_take rfl ?_; intro K hK) | ((with_reducible show AxB _ _ _ _ _); first | (refine axb_op rfl rfl ?_; intro K hK)) | ((with_reducible show evOps _ _ _ _ _ _); (first | refine ev_step rfl ?_ | refine ev_undef rfl rfl rfl ?_); intro K hK) | ((with_reducible show EvOpen _ _ _ _ _ _ _); refine ev_open ?_; intro K hK) | ((with_reducible show SkOpen _ _ _ _ _ _ _); refine sk_open ?_; intro K hK) | ((with_reducible show callK _ _ _ _ _ _ _ _); first  | (refine call_safe ( hnp) (Nat.le_of_ble_eq_true rfl) (by repeat' (first | ((with_reducible show evNx _ _ _ _ _ _); first | (with_reducible refine nx_done ?_) | (refine nx_one rfl ?_) | (refine nx_alt rfl ?_ ?_) | (with_reducible refine nx_st ?_)) | ((with_reducible show evSx _ _ _ _ _ _); first | (with_reducible refine sx_done ?_) | (with_reducible refine sx_st ?_) | (with_reducible refine sx_op ?_)) | ((with_reducible show evTake _ _ _ _ _); with_reducible refine take_nil ?_) | ((with_reducible show evSy _ _ _ _ _ _ _); first | (with_reducible refine sy_done ?_) | (refine sy_last rfl ?_) | (refine sy_one (by decide) rfl ?_) | (refine sy_alt (by decide) rfl ?_ ?_) | (with_reducible refine sy_st ?_)) | ((with_reducible show StK _ _ _); first | (refine stk_letRow (letRow_go (t := 7) rfl rfl (by simp [bterms]) ?_) ; intro u1 Z1 hZ1 hD1 ; simp only [eq_self]) | fail) | exact trivial | refine ⟨fun _ _ => ⟨_, rfl⟩, ?_⟩)) ?_))); simp only [evOp, oldZ, evQ, binK, withS, opd, kput, putS, upd, lookup, argsK, bringIn, bring, Res.list, Res.slot, InK_i64, appendK, srcK, growK, frz, newBlk, partsK, buildSliceK, plSlice, V.one, List.set_cons_zero, bterms, sz_termss, c_terms, ei_termss, ea_termss, List.getElem?_cons_zero, List.getElem?_cons_succ, List.reverse_cons, List.reverse_nil, List.nil_append, List.cons_append, List.length_cons, List.length_nil, Nat.reduceEqDiff, Nat.reduceAdd, Nat.reduceLT, Nat.reduceLeDiff, Nat.mul_one, Nat.add_zero, Nat.zero_add, Nat.mod_one, List.getD_cons_zero, ↓reduceIte, eq_self, true_and, Bool.not_true, Bool.false_eq_true, Int.toNat_natCast]) | refine ev_guard rfl rfl rfl ?_ ?_ | ((with_reducible show retQ _ _ _ _); simp only [eq_self]) | (with_reducible refine hK _ ?_; clear hK K) | (with_reducible refine And.intro ?_ ?_) | (with_reducible intro hc; try simp only [decide_eq_true_eq, decide_eq_false_iff_not, Int.not_lt, reduceCtorEq] at hc) | omega)
        all_goals first
          | (exfalso; omega)
          | exact isT.one (hG.2 _ (by assumption)).1
          | (rename_i q; obtain rfl : q = 0 := (by omega); rfl)
          | skip
        exact ⟨(k + 1, _), ⟨hG.grow hkm (v := .row u1 Z1 3 (nfAt L k).length fun i => vi (tf (nfAt L k) i)) ⟨u1, Z1, rfl⟩ (fun b hb => hZ1 b (zofT.1 hb)) (fun q hq b ⟨Z', h1, h2⟩ hb' => hD1 Z' (zst_blk (id := 0) (i := q) rfl hq rfl h1) b h2 (zofT.1 hb')), fun j hj => by
          by_cases e : j = k
          · subst e; exact hb
          · exact hok j (by have hj : j < k + 1 := hj; omega)⟩, by show L.length - (k + 1) < L.length - k; omega, [3], rfl, by decide, by simp [EntSR, SlR, VE, lookup, sc, VE.rfl'], grow_if (VE.rfl' _), trivial⟩
      | false =>
        rw [hb] at hnp
        rw [nfB_no hkm hb]
        repeat' (first | (with_reducible first | refine then_normal ?_ | refine then_ret ?_ | refine then_exit ?_ | refine block_normal ?_ | refine block_ret ?_) | ((with_reducible show blockQ _ _ _ _); first | refine block_exit ?_ | refine block_exit_ne rfl ?_) | ((with_reducible show AWP _ _ _ _ _); first | (with_reducible first | refine AWP.seq ?_ | refine AWP.block ?_ | refine AWP.region ?_ | refine AWP.ret ?_ | refine AWP.exit ?_ | refine AWP.skip ?_) | refine AWP.drawn rfl (by kernel_rfl) ?_ | refine AWP.cond rfl ?_ ?_) | with_reducible refine ev_nil ?_ | ((first | ((with_reducible show evOps _ _ _ _ _ _); (first | refine ev_step rfl ?_ | refine ev_undef rfl rfl rfl ?_); intro K hK) | ((with_reducible show EvOpen _ _ _ _ _ _ _); refine ev_open ?_; intro K hK) | ((with_reducible show SkOpen _ _ _ _ _ _ _); refine sk_open ?_; intro K hK) | ((with_reducible show callK _ _ _ _ _ _ _ _); first  | (refine call_safe ( hnp) (Nat.le_of_ble_eq_true rfl) (by repeat' (first | exact trivial | refine ⟨fun _ _ => ⟨_, rfl⟩, ?_⟩)) ?_))); simp only [evOp, oldZ, evQ, binK, withS, opd, kput, putS, upd, lookup, argsK, bringIn, bring, Res.list, Res.slot, bterms, sz_termss, c_terms, List.getElem?_cons_zero, List.getElem?_cons_succ, List.reverse_cons, List.reverse_nil, List.nil_append, List.cons_append, List.length_cons, List.length_nil, Nat.reduceEqDiff, Nat.reduceLT, Nat.mul_one, Nat.add_zero, Nat.zero_add, ↓reduceIte, eq_self, true_and, Bool.not_false, Int.toNat_natCast]) | refine ev_guard rfl rfl rfl ?_ ?_ | ((with_reducible show retQ _ _ _ _); simp only [eq_self]) | (with_reducible refine hK _ ?_; clear hK K) | (with_reducible refine And.intro ?_ ?_) | (with_reducible intro hc; try simp only [decide_eq_true_eq, decide_eq_false_iff_not, Int.not_lt, Bool.true_eq_false] at hc) | omega)
        all_goals first
          | (exfalso; omega)
          | skip
        all_goals
          refine ⟨_, ⟨fun _ => .val undef, fun i hi => by simp at hi, rfl⟩, ⟨fun i hi => by simp at hi, trivial, trivial⟩, ?_⟩
          simp only [retOk, getL, lookup, Option.map_some, fitsL, fits, ND, srcs, Res.list, VE, Nat.reduceEqDiff, ↓reduceIte, and_true]
          simp
    · obtain rfl : k = L.length := by omega
      rw [nfB_yes h10 hok]
      repeat' (first | (with_reducible first | refine then_normal ?_ | refine then_ret ?_ | refine then_exit ?_ | refine block_normal ?_ | refine block_ret ?_) | ((with_reducible show blockQ _ _ _ _); first | refine block_exit ?_ | refine block_exit_ne rfl ?_) | ((with_reducible show AWP _ _ _ _ _); first | (with_reducible first | refine AWP.seq ?_ | refine AWP.block ?_ | refine AWP.region ?_ | refine AWP.ret ?_ | refine AWP.exit ?_ | refine AWP.skip ?_) | refine AWP.drawn rfl (by kernel_rfl) ?_ | refine AWP.cond rfl ?_ ?_) | with_reducible refine ev_nil ?_ | ((first | ((with_reducible show evOps _ _ _ _ _ _); (first | refine ev_step rfl ?_ | refine ev_undef rfl rfl rfl ?_); intro K hK) | ((with_reducible show EvOpen _ _ _ _ _ _ _); refine ev_open ?_; intro K hK) | ((with_reducible show SkOpen _ _ _ _ _ _ _); refine sk_open ?_; intro K hK) | ((with_reducible show callK _ _ _ _ _ _ _ _); first | fail)); simp only [evOp, oldZ, evQ, binK, withS, opd, kput, putS, upd, lookup, argsK, sz_termss, c_terms, List.reverse_cons, List.reverse_nil, List.nil_append, Nat.reduceEqDiff, Nat.reduceLT, Nat.mul_one, Nat.add_zero, ↓reduceIte, eq_self, true_and, Int.toNat_natCast]) | refine ev_guard rfl rfl rfl ?_ ?_ | ((with_reducible show retQ _ _ _ _); simp only [eq_self]) | (with_reducible refine hK _ ?_; clear hK K) | (with_reducible refine And.intro ?_ ?_) | (with_reducible intro hc; try simp only [decide_eq_true_eq, decide_eq_false_iff_not, Int.not_lt] at hc) | omega)
      all_goals first
        | (exfalso; omega)
        | skip
      refine ⟨_, ⟨F, fun i hi => ⟨(hG.2 i hi).1, (hG.2 i hi).2.2⟩, rfl⟩, ⟨fun i hi => NewV.of_zof (isT.new (hG.2 i hi).1) (hG.2 i hi).2.1, trivial, trivial⟩, ?_⟩
      simp only [retOk, getL, lookup, Option.map_some, fitsL, fits, ND, srcs, Res.list, VE, List.getElem?_cons_zero, Nat.reduceEqDiff, ↓reduceIte, and_true, true_and]
      exact ⟨⟨_, rfl, BE.rfl' _⟩, by simp⟩
  · rw [nfB_long h10]
    repeat' (first | (with_reducible first | refine then_normal ?_ | refine then_ret ?_ | refine then_exit ?_ | refine block_normal ?_ | refine block_ret ?_) | ((with_reducible show blockQ _ _ _ _); first | refine block_exit ?_ | refine block_exit_ne rfl ?_) | ((with_reducible show AWP _ _ _ _ _); first | (with_reducible first | refine AWP.seq ?_ | refine AWP.block ?_ | refine AWP.region ?_ | refine AWP.ret ?_ | refine AWP.exit ?_ | refine AWP.skip ?_) | refine AWP.drawn rfl (by kernel_rfl) ?_ | refine AWP.cond rfl ?_ ?_) | with_reducible refine ev_nil ?_ | ((first | ((with_reducible show evOps _ _ _ _ _ _); (first | refine ev_step rfl ?_ | refine ev_undef rfl rfl rfl ?_); intro K hK) | ((with_reducible show EvOpen _ _ _ _ _ _ _); refine ev_open ?_; intro K hK) | ((with_reducible show SkOpen _ _ _ _ _ _ _); refine sk_open ?_; intro K hK) | ((with_reducible show callK _ _ _ _ _ _ _ _); first | fail)); simp only [evOp, evQ, evB, binK, withS, opd, kput, putS, upd, lookup, slotsOf, newBlk, partsK, buildSliceK, Nat.zero_le, sz_termss, ei_termss, ea_termss, List.nil_append, List.length_cons, List.length_nil, Nat.reduceEqDiff, Nat.reduceLT, Nat.reduceLeDiff, Nat.mul_one, Nat.zero_add, Nat.mod_one, List.getD_cons_zero, ↓reduceIte, eq_self, true_and, Option.isSome_some]) | refine ev_guard rfl rfl rfl ?_ ?_ | ((with_reducible show retQ _ _ _ _); simp only [eq_self]) | (with_reducible refine hK _ ?_; clear hK K) | (with_reducible refine And.intro ?_ ?_) | (with_reducible intro hc; try simp only [decide_eq_true_eq, decide_eq_false_iff_not, Int.not_lt, gt_iff_lt] at hc) | omega)
    all_goals first
      | (exfalso; omega)
      | skip
    all_goals
      refine ⟨_, ⟨fun _ => .val undef, fun i hi => by simp at hi, rfl⟩, ⟨fun i hi => by simp at hi, trivial, trivial⟩, ?_⟩
      simp only [retOk, getL, lookup, Option.map_some, fitsL, fits, ND, srcs, Res.list, VE, Nat.reduceEqDiff, ↓reduceIte, and_true]
      simp
end Go.Proofs.YteapdildbfimnaaGreatDoor
namespace Go.Proofs.YteapdildbfimnaaGreatDoor
set_option linter.unusedSimpArgs false
set_option linter.unusedVariables false
open Go.Proofs

def decB (u : Nat) : ByteArray := ⟨(Lib.decDigits u).toArray⟩
def itoaB (n : Int) : ByteArray := ⟨(Lib.itoa n).toArray⟩
theorem bx_ext {a b : ByteArray} (h : bytesOf a = bytesOf b) : a = b := ByteArray.ext (Array.toList_inj.1 h)
theorem bx_app (a b : ByteArray) : bytesOf (a ++ b) = bytesOf a ++ bytesOf b := by simp [bytesOf]
theorem itoaB_nonneg {n : Int} (h : 0 ≤ n) : itoaB n = decB n.toNat := by
  unfold itoaB decB Lib.itoa; rw [if_neg (by omega)]
theorem itoaB_neg {n : Int} (h : n < 0) : itoaB n = ⟨#[45]⟩ ++ decB (-n).toNat := by
  apply bx_ext
  rw [bx_app]
  unfold itoaB decB Lib.itoa bytesOf
  rw [if_pos h, show n.natAbs = (-n).toNat by omega]
  rfl
theorem decB_small {u : Nat} (h : u < 10) : decB u = strOfNums [48 + (u : Int)] := by
  apply bx_ext
  unfold decB strOfNums bytesOf
  rw [Lib.decDigits, dif_pos h]
  show [UInt8.ofNat (48 + u)] = [UInt8.ofNat ((48 + (u : Int)).toNat)]
  rw [show (48 + (u : Int)).toNat = 48 + u by omega]
theorem decB_big {u : Nat} (h : ¬ u < 10) : decB u = decB (u / 10) ++ strOfNums [48 + ((u % 10 : Nat) : Int)] := by
  apply bx_ext
  rw [bx_app]
  show Lib.decDigits u = Lib.decDigits (u / 10) ++ [UInt8.ofNat ((48 + ((u % 10 : Nat) : Int)).toNat)]
  rw [Lib.decDigits, dif_neg h]
  congr 2
theorem decB_size (u : Nat) : (decB u).size ≤ u + 1 := by
  show (Lib.decDigits u).length ≤ _
  induction u using Nat.strongRecOn with
  | _ u ih =>
    rw [Lib.decDigits]
    split
    · simp
    · rw [List.length_append, List.length_singleton]
      have := ih (u / 10) (by omega)
      omega
theorem itoaB_size (n : Int) : (itoaB n).size ≤ n.natAbs + 2 := by
  by_cases h : n < 0
  · rw [itoaB_neg h, ByteArray.size_append]
    have := decB_size (-n).toNat
    show 1 + _ ≤ _
    omega
  · rw [itoaB_nonneg (by omega)]
    have := decB_size n.toNat
    omega

/-- The text of a term. -/
def ttx (t : T3) : ByteArray := itoaB t.2.2 ++ ⟨#[58]⟩ ++ itoaB t.1 ++ ⟨#[44]⟩ ++ itoaB t.2.1 ++ ⟨#[59]⟩
/-- The text of the first k terms. -/
def txK (l : List T3) : Nat → ByteArray
  | 0 => ⟨#[]⟩
  | k + 1 => txK l k ++ ttx (tAt l k)
def tx (l : List T3) : ByteArray := txK l l.length
/-- Terms of small numbers. -/
def Sml (l : List T3) : Prop := ∀ k, k < l.length → 0 ≤ (tAt l k).1 ∧ (tAt l k).1 ≤ 1000000 ∧ 0 ≤ (tAt l k).2.1 ∧ (tAt l k).2.1 ≤ 1000000 ∧ -1000000 ≤ (tAt l k).2.2 ∧ (tAt l k).2.2 ≤ 1000000
theorem ttx_size {t : T3} (h : 0 ≤ t.1 ∧ t.1 ≤ 1000000 ∧ 0 ≤ t.2.1 ∧ t.2.1 ≤ 1000000 ∧ -1000000 ≤ t.2.2 ∧ t.2.2 ≤ 1000000) : (ttx t).size ≤ 4000000 := by
  have h1 := itoaB_size t.1
  have h2 := itoaB_size t.2.1
  have h3 := itoaB_size t.2.2
  have e1 : (⟨#[58]⟩ : ByteArray).size = 1 := rfl
  have e2 : (⟨#[44]⟩ : ByteArray).size = 1 := rfl
  have e3 : (⟨#[59]⟩ : ByteArray).size = 1 := rfl
  unfold ttx
  simp only [ByteArray.size_append, e1, e2, e3]
  omega
theorem txK_size {l : List T3} (h : Sml l) : ∀ k, k ≤ l.length → (txK l k).size ≤ 4000000 * k
  | 0, _ => Nat.zero_le _
  | k + 1, hk => by
    have h1 := txK_size h k (by omega)
    have h2 := ttx_size (h k (by omega))
    show (txK l k ++ ttx (tAt l k)).size ≤ _
    rw [ByteArray.size_append]; omega
theorem Sml.of_plane {l : List T3} (h : planeB l = true) : Sml l := fun k hk => by
  have := termB_iff.1 ((planeB_parts h).2 k hk)
  omega

/-- The order of texts. -/
def ltB (a b : ByteArray) : Bool := Op.bytesLess (bytesOf a) (bytesOf b)
theorem cmp_less : ∀ a b : List UInt8, (decide (Lib.compareBytes a b ≥ 0)) = !Op.bytesLess a b
  | [], [] => rfl
  | [], _ :: _ => rfl
  | _ :: _, [] => rfl
  | a :: x, b :: y => by
    unfold Lib.compareBytes Op.bytesLess
    by_cases h1 : a < b
    · simp [h1]
    · by_cases h2 : b < a
      · have : ¬ a = b := fun e => by subst e; exact h1 h2
        simp [h1, h2, this]
      · have e : a = b := by
          have h1' : ¬ a.toNat < b.toNat := fun h => h1 (UInt8.lt_iff_toNat_lt.2 h)
          have h2' : ¬ b.toNat < a.toNat := fun h => h2 (UInt8.lt_iff_toNat_lt.2 h)
          exact UInt8.toNat_inj.1 (by omega)
        subst e
        have := cmp_less x y
        simp [h1, this]
theorem cmp_ge {a b : ByteArray} : decide (Lib.compareBytes a.data.toList b.data.toList ≥ 0) = !ltB a b := cmp_less _ _

/-- Place i of a catalogue is in order. -/
def ctkB (L : List (List T3)) (i : Nat) : Bool := okAt L i && (eqTL (nfAt L i) (tsAt L i) && (decide (i = 0) || ltB (tx (tsAt L (i - 1))) (tx (tsAt L i))))
def ctB (L : List (List T3)) : Bool := decide (L.length ≤ 10) && allN L.length (ctkB L)
theorem ctB_no {L : List (List T3)} {k : Nat} (hk : k < L.length) (h : ctkB L k = false) : ctB L = false := by unfold ctB; rw [allN_false hk h, Bool.and_false]
theorem ctB_yes {L : List (List T3)} (h2 : ∀ i, i < L.length → ctkB L i = true) : ctB L = decide (L.length ≤ 10) := by unfold ctB; rw [allN_true h2]; simp
theorem ctB_long {L : List (List T3)} (h : ¬ L.length ≤ 10) : ctB L = false := by unfold ctB; simp [h]
theorem ctB_nf {L : List (List T3)} (h : nfB L = false) : ctB L = false := by
  by_cases h10 : L.length ≤ 10
  · cases e : ctB L with
    | false => rfl
    | true =>
      unfold ctB at e
      simp only [Bool.and_eq_true] at e
      have : nfB L = true := nfB_yes h10 fun i hi => by
        have := allN_iff.1 e.2 i hi
        unfold ctkB at this
        simp only [Bool.and_eq_true] at this
        exact this.1
      rw [this] at h; cases h
  · exact ctB_long h10
theorem ctkB_eq {L : List (List T3)} {i : Nat} (h : ctkB L i = true) : okAt L i = true ∧ nfAt L i = tsAt L i := by
  unfold ctkB at h
  simp only [Bool.and_eq_true] at h
  refine ⟨h.1, ?_⟩
  have h2 := h.2.1
  unfold eqTL at h2
  simp only [Bool.and_eq_true, beq_iff_eq] at h2
  obtain ⟨h1, h2⟩ := h2
  apply List.ext_getElem h1
  intro j hj hj'
  have h3 := allN_iff.1 h2 j hj
  unfold eqT at h3
  simp only [Bool.and_eq_true, beq_iff_eq] at h3
  obtain ⟨⟨p1, p2⟩, p3⟩ := h3
  have q1 : tAt (nfAt L i) j = (nfAt L i)[j] := by unfold tAt; rw [List.getD_eq_getElem?_getD, List.getElem?_eq_getElem hj]; rfl
  have q2 : tAt (tsAt L i) j = (tsAt L i)[j] := by unfold tAt; rw [List.getD_eq_getElem?_getD, List.getElem?_eq_getElem hj']; rfl
  rw [q1, q2] at p1 p2 p3
  exact Prod.ext p1 (Prod.ext p2 p3)
/-- A normal form's terms are small. -/
theorem Sml.of_nf {L : List (List T3)} {i : Nat} (h : okAt L i = true) : Sml (nfAt L i) := by
  unfold okAt normR at h
  unfold nfAt normR
  split at h
  · rename_i e
    rw [if_pos e]
    simp only [Bool.and_eq_true] at e
    exact Sml.of_plane e.2
  · cases h
theorem nf_len {L : List (List T3)} {i : Nat} (h : okAt L i = true) : (nfAt L i).length ≤ 12 := by
  unfold okAt normR at h
  unfold nfAt normR
  split at h
  · rename_i e
    rw [if_pos e]
    simp only [Bool.and_eq_true] at e
    exact (planeB_parts e.2).1.2
  · cases h
theorem ctkB_no1 {L : List (List T3)} {i : Nat} (h : okAt L i = false) : ctkB L i = false := by unfold ctkB; rw [h]; rfl
theorem ctkB_no2 {L : List (List T3)} {i : Nat} (h : eqTL (nfAt L i) (tsAt L i) = false) : ctkB L i = false := by unfold ctkB; rw [h]; simp
theorem ctkB_no3 {L : List (List T3)} {i : Nat} (hi : ¬ i = 0) (h : ltB (tx (tsAt L (i - 1))) (tx (tsAt L i)) = false) : ctkB L i = false := by unfold ctkB; rw [h]; simp [hi]
theorem ctkB_yes0 {L : List (List T3)} {i : Nat} (h1 : okAt L i = true) (h2 : eqTL (nfAt L i) (tsAt L i) = true) (hi : i = 0) : ctkB L i = true := by unfold ctkB; rw [h1, h2]; simp [hi]
theorem ctkB_yes {L : List (List T3)} {i : Nat} (h1 : okAt L i = true) (h2 : eqTL (nfAt L i) (tsAt L i) = true) (h : ltB (tx (tsAt L (i - 1))) (tx (tsAt L i)) = true) : ctkB L i = true := by unfold ctkB; rw [h1, h2, h]; simp
/-- The text of a catalogue: the first k texts, each ended by a newline. -/
def catK (L : List (List T3)) : Nat → ByteArray
  | 0 => ⟨#[]⟩
  | k + 1 => catK L k ++ (tx (tsAt L k) ++ ⟨#[10]⟩)
theorem catK_size {L : List (List T3)} (h : ctB L = true) : ∀ k, k ≤ L.length → (catK L k).size ≤ 50000000 * k
  | 0, _ => Nat.zero_le _
  | k + 1, hk => by
    have h1 := catK_size h k (by omega)
    unfold ctB at h
    simp only [Bool.and_eq_true] at h
    obtain ⟨h2, h3⟩ := ctkB_eq (allN_iff.1 h.2 k (by omega))
    have h4 := nf_len h2
    have h5 := txK_size (Sml.of_nf h2) _ (Nat.le_refl _)
    rw [h3] at h4 h5
    show (catK L k ++ (tx (tsAt L k) ++ ⟨#[10]⟩)).size ≤ _
    rw [ByteArray.size_append, ByteArray.size_append]
    have e : (⟨#[10]⟩ : ByteArray).size = 1 := rfl
    rw [e]
    unfold tx
    omega
def ctxR (L : List (List T3)) : ByteArray × Bool := if ctB L then (catK L L.length, true) else (⟨#[]⟩, false)
/-- The place of a normal form in a catalogue. -/
def plcN (L : List (List T3)) (l : List T3) : Int := firstN (fun i => eqTL (tsAt L i) (normR l).1) L.length
def plcR (L : List (List T3)) (l : List T3) : Int × Bool := if ctB L && (normR l).2 then (max 0 (plcN L l), decide (plcN L l ≥ 0)) else (0, false)
theorem plcR_no1 {L : List (List T3)} {l : List T3} (h : ctB L = false) : plcR L l = (0, false) := by unfold plcR; rw [h]; rfl
theorem plcR_no2 {L : List (List T3)} {l : List T3} (h : (normR l).2 = false) : plcR L l = (0, false) := by unfold plcR; rw [h, Bool.and_false]; rfl
theorem plcR_yes {L : List (List T3)} {l : List T3} (h : ctB L = true) (h2 : (normR l).2 = true) : plcR L l = (max 0 (plcN L l), decide (plcN L l ≥ 0)) := by unfold plcR; rw [h, h2]; rfl
theorem ctB_is {L : List (List T3)} (h : ctB L = true) : L.length ≤ 10 ∧ ∀ i, i < L.length → ctkB L i = true := by
  unfold ctB at h
  simp only [Bool.and_eq_true, decide_eq_true_eq] at h
  exact ⟨h.1, fun i hi => allN_iff.1 h.2 i hi⟩
theorem ctx_no {L : List (List T3)} (h : ctB L = false) : ctxR L = (⟨#[]⟩, false) := by unfold ctxR; rw [h]; rfl
theorem ctx_yes {L : List (List T3)} (h : ctB L = true) : ctxR L = (catK L L.length, true) := by unfold ctxR; rw [h]; rfl
theorem ctk_sml {L : List (List T3)} {i : Nat} (h : ctkB L i = true) : Sml (tsAt L i) ∧ (tsAt L i).length ≤ 12 := by
  obtain ⟨h1, h2⟩ := ctkB_eq h
  rw [← h2]; exact ⟨Sml.of_nf h1, nf_len h1⟩
theorem eq_ts {L : List (List T3)} {i : Nat} (h1 : okAt L i = true) (h : eqTL (nfAt L i) (tsAt L i) = true) : nfAt L i = tsAt L i ∧ Sml (tsAt L i) ∧ (tsAt L i).length ≤ 12 := by
  have h2 : nfAt L i = tsAt L i := by
    unfold eqTL at h
    simp only [Bool.and_eq_true, beq_iff_eq] at h
    obtain ⟨h1, h2⟩ := h
    apply List.ext_getElem h1
    intro j hj hj'
    have h3 := allN_iff.1 h2 j hj
    unfold eqT at h3
    simp only [Bool.and_eq_true, beq_iff_eq] at h3
    obtain ⟨⟨p1, p2⟩, p3⟩ := h3
    have q1 : tAt (nfAt L i) j = (nfAt L i)[j] := by unfold tAt; rw [List.getD_eq_getElem?_getD, List.getElem?_eq_getElem hj]; rfl
    have q2 : tAt (tsAt L i) j = (tsAt L i)[j] := by unfold tAt; rw [List.getD_eq_getElem?_getD, List.getElem?_eq_getElem hj']; rfl
    rw [q1, q2] at p1 p2 p3
    exact Prod.ext p1 (Prod.ext p2 p3)
  refine ⟨h2, ?_⟩
  rw [← h2]; exact ⟨Sml.of_nf h1, nf_len h1⟩
end Go.Proofs.YteapdildbfimnaaGreatDoor
namespace Go.Proofs.YteapdildbfimnaaGreatDoor
open Go.RowKit Go.Proofs
set_option linter.unusedSimpArgs false
set_option linter.unusedVariables false

/-- A contract out of a run that hands a scalar back. -/
theorem Fn.of_calls {P : Program} {f : FuncId} {vs : List V} {v : Value} (he : ∀ (args : Array Value) (w : World), (callFunc f args).run P w = .ok (.enter f args) w)
    (h : ∀ (w : World) (S0 : Nat → Prop) (us : List Value), RdL w S0 vs us → Calls P f us.toArray w fun e w' => e = .returned v ∧ Below w.heap.size w w') : Fn P f vs (.one (.pv (.val v))) := by
  refine ⟨he, fun w S0 us hus => (h w S0 us hus).mono ?_⟩
  rintro e w' ⟨rfl, hb⟩
  exact ⟨v, [], rfl, ⟨rfl, hb, fun id blk hi => by simp [bring, Res.list] at hi, fun i j bi bj b z z' hi => by simp [bring, Res.list] at hi⟩, rfl⟩

end Go.Proofs.YteapdildbfimnaaGreatDoor
