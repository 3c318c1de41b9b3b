/- What NeedlessStates calls: l1Has, l1Put, leading. Conditions: lists no longer than 2^40. -/
import Derived.Test.YtpimjkhfookipaaPureNd
import Derived.Test.YtpimjkhfookipaaEngO
import Derived.Test.YtpimjkhfookipaaFnAut
import Derived.Test.YtpimjkhfookipaaTurnH
namespace Go.Proofs.Ytpimjkhfookipaa
open Go.RowKit Go.Proofs
set_option linter.unusedSimpArgs false
set_option linter.unusedVariables false
theorem sz_bools : elemSz Try.prog 136 = some 1 := by kernel_rfl
theorem c_bool : cellsIn Try.prog 4 = some none := by kernel_rfl
theorem ei_bools : elemInfo Try.prog 136 = some (4, [.bool false]) := by kernel_rfl

theorem l1Has_fn (l : List Int) (k : Int) (hl : l.length ≤ 1099511627776) : Fn Try.prog 135 [ints l, vi k] (.one (.pv (vb (hasI l k)))) := by
  refine Fn.of_body Try.call135 Try.func135 rfl Try.ntmps135 (ts := [4]) rfl (by simp) rfl (fun N => ?_)
  repeat' (first | (with_reducible first | refine then_normal ?_ | refine then_ret ?_ | refine then_exit ?_ | refine block_normal ?_ | refine block_ret ?_) | ((with_reducible show blockQ _ _ _ _); first | refine block_exit ?_ | refine block_exit_ne rfl ?_) | ((with_reducible show AWP _ _ _ _ _); first | (with_reducible first | refine AWP.seq ?_ | refine AWP.block ?_ | refine AWP.region ?_ | refine AWP.ret ?_ | refine AWP.exit ?_ | refine AWP.skip ?_) | refine AWP.drawn rfl (by kernel_rfl) ?_ | refine AWP.cond rfl ?_ ?_) | with_reducible refine ev_nil ?_ | ((first | ((with_reducible show evOps _ _ _ _ _ _); (first | refine ev_step rfl ?_ | refine ev_undef rfl rfl rfl ?_); intro K hK) | ((with_reducible show EvOpen _ _ _ _ _ _ _); refine ev_open ?_; intro K hK) | ((with_reducible show SkOpen _ _ _ _ _ _ _); refine sk_open ?_; intro K hK) | ((with_reducible show callK _ _ _ _ _ _ _ _); first | fail)); simp only [evOp, evQ, evB, withS, opd, kput, putS, upd, lookup, slotsOf, sz_ints, Nat.reduceEqDiff, Nat.reduceLT, Nat.zero_add, ↓reduceIte, eq_self, true_and, Option.isSome_some]) | refine ev_guard rfl rfl rfl ?_ ?_ | ((with_reducible show retQ _ _ _ _); simp only [eq_self]) | (with_reducible refine hK _ ?_; clear hK K) | (with_reducible refine And.intro ?_ ?_) | (with_reducible intro hc; try simp only [eq_self] at hc) | omega)
  refine AWP.loop_ent (fun j : Nat => ⟨[(1, .one (.pv (vi k))), (7, .one (.pv (ints l))), (8, sc (.int .i64 l.length)), (9, sc (.int .i64 j))], [], 17⟩)
    (fun j => j ≤ l.length ∧ ∀ i, i < j → ¬ l.getD i 0 = k) (fun j => l.length - j) 0 ⟨by omega, fun i hi => by omega⟩ (by simp [Ent, EntS, EntH, SlE, VE, VE.rfl', lookup, BE]) ?_
  rintro j ⟨hj, hall⟩
  by_cases hjl : j < l.length
  · by_cases e : l.getD j 0 = k
    · rw [hasI_at hjl e]
      repeat' (first | (with_reducible first | refine then_normal ?_ | refine then_ret ?_ | refine then_exit ?_ | refine block_normal ?_ | refine block_ret ?_) | ((with_reducible show blockQ _ _ _ _); first | refine block_exit ?_ | refine block_exit_ne rfl ?_) | ((with_reducible show AWP _ _ _ _ _); first | (with_reducible first | refine AWP.seq ?_ | refine AWP.block ?_ | refine AWP.region ?_ | refine AWP.ret ?_ | refine AWP.exit ?_ | refine AWP.skip ?_) | refine AWP.drawn rfl (by kernel_rfl) ?_ | refine AWP.cond rfl ?_ ?_) | with_reducible refine ev_nil ?_ | ((first | ((with_reducible show evOps _ _ _ _ _ _); (first | refine ev_step rfl ?_ | refine ev_undef rfl rfl rfl ?_); intro K hK) | ((with_reducible show EvOpen _ _ _ _ _ _ _); refine ev_open ?_; intro K hK) | ((with_reducible show SkOpen _ _ _ _ _ _ _); refine sk_open ?_; intro K hK) | ((with_reducible show callK _ _ _ _ _ _ _ _); first | fail)); simp only [evOp, evQ, binK, withS, opd, kput, putS, upd, lookup, InK_i64, sz_ints, c_int, Nat.reduceEqDiff, Nat.reduceLT, Nat.mul_one, Nat.add_zero, ↓reduceIte, eq_self, true_and, Int.toNat_natCast]) | refine ev_guard rfl rfl rfl ?_ ?_ | ((with_reducible show retQ _ _ _ _); simp only [retQ, retOk, getL, lookup, Option.map_some, fitsL, fits, ND, srcs, Res.list, VE, Value.bool.injEq, Nat.reduceEqDiff, ↓reduceIte, and_true]) | (with_reducible refine hK _ ?_; clear hK K) | (with_reducible refine And.intro ?_ ?_) | (with_reducible intro hc; try simp only [decide_eq_true_eq, decide_eq_false_iff_not, beq_iff_eq, beq_eq_false_iff_ne, Int.not_lt, ne_eq] at hc) | omega)
      all_goals first
        | (exfalso; omega)
        | trace_state
    · repeat' (first | (with_reducible first | refine then_normal ?_ | refine then_ret ?_ | refine then_exit ?_ | refine block_normal ?_ | refine block_ret ?_) | ((with_reducible show blockQ _ _ _ _); first | refine block_exit ?_ | refine block_exit_ne rfl ?_) | ((with_reducible show AWP _ _ _ _ _); first | (with_reducible first | refine AWP.seq ?_ | refine AWP.block ?_ | refine AWP.region ?_ | refine AWP.ret ?_ | refine AWP.exit ?_ | refine AWP.skip ?_) | refine AWP.drawn rfl (by kernel_rfl) ?_ | refine AWP.cond rfl ?_ ?_) | with_reducible refine ev_nil ?_ | ((first | ((with_reducible show evOps _ _ _ _ _ _); (first | refine ev_step rfl ?_ | refine ev_undef rfl rfl rfl ?_); intro K hK) | ((with_reducible show EvOpen _ _ _ _ _ _ _); refine ev_open ?_; intro K hK) | ((with_reducible show SkOpen _ _ _ _ _ _ _); refine sk_open ?_; intro K hK) | ((with_reducible show callK _ _ _ _ _ _ _ _); first | fail)); simp only [evOp, evQ, binK, withS, opd, kput, putS, upd, lookup, InK_i64, sz_ints, c_int, Nat.reduceEqDiff, Nat.reduceLT, Nat.mul_one, Nat.add_zero, ↓reduceIte, eq_self, true_and, Int.toNat_natCast]) | refine ev_guard rfl rfl rfl ?_ ?_ | ((with_reducible show retQ _ _ _ _); simp only [retQ, retOk, getL, lookup, Option.map_some, fitsL, fits, ND, srcs, Res.list, VE, Value.bool.injEq, Nat.reduceEqDiff, ↓reduceIte, and_true]) | (with_reducible refine hK _ ?_; clear hK K) | (with_reducible refine And.intro ?_ ?_) | (with_reducible intro hc; try simp only [decide_eq_true_eq, decide_eq_false_iff_not, beq_iff_eq, beq_eq_false_iff_ne, Int.not_lt, ne_eq] at hc) | omega)
      all_goals first
        | (exfalso; omega)
        | (exfalso; exact e ‹_›)
        | exact ⟨j + 1, ⟨by omega, fun i hi => by by_cases e2 : i = j; exact e2 ▸ e; exact hall i (by omega)⟩, by omega, by simp [Ent, EntS, EntH, SlE, VE, VE.rfl', lookup, BE]⟩
        | trace_state
  · obtain rfl : j = l.length := by omega
    rw [hasI_none hall]
    repeat' (first | (with_reducible first | refine then_normal ?_ | refine then_ret ?_ | refine then_exit ?_ | refine block_normal ?_ | refine block_ret ?_) | ((with_reducible show blockQ _ _ _ _); first | refine block_exit ?_ | refine block_exit_ne rfl ?_) | ((with_reducible show AWP _ _ _ _ _); first | (with_reducible first | refine AWP.seq ?_ | refine AWP.block ?_ | refine AWP.region ?_ | refine AWP.ret ?_ | refine AWP.exit ?_ | refine AWP.skip ?_) | refine AWP.drawn rfl (by kernel_rfl) ?_ | refine AWP.cond rfl ?_ ?_) | with_reducible refine ev_nil ?_ | ((first | ((with_reducible show evOps _ _ _ _ _ _); (first | refine ev_step rfl ?_ | refine ev_undef rfl rfl rfl ?_); intro K hK) | ((with_reducible show EvOpen _ _ _ _ _ _ _); refine ev_open ?_; intro K hK) | ((with_reducible show SkOpen _ _ _ _ _ _ _); refine sk_open ?_; intro K hK) | ((with_reducible show callK _ _ _ _ _ _ _ _); first | fail)); simp only [evOp, evQ, binK, withS, opd, kput, putS, upd, lookup, InK_i64, sz_ints, c_int, Nat.reduceEqDiff, Nat.reduceLT, Nat.mul_one, Nat.add_zero, ↓reduceIte, eq_self, true_and, Int.toNat_natCast]) | refine ev_guard rfl rfl rfl ?_ ?_ | ((with_reducible show retQ _ _ _ _); simp only [retQ, retOk, getL, lookup, Option.map_some, fitsL, fits, ND, srcs, Res.list, VE, Value.bool.injEq, Nat.reduceEqDiff, ↓reduceIte, and_true]) | (with_reducible refine hK _ ?_; clear hK K) | (with_reducible refine And.intro ?_ ?_) | (with_reducible intro hc; try simp only [decide_eq_true_eq, decide_eq_false_iff_not, beq_iff_eq, beq_eq_false_iff_ne, Int.not_lt, ne_eq] at hc) | omega)
    all_goals first
      | (exfalso; omega)
      | trace_state

theorem putGrowI {l : List Int} {k : Int} {c : Nat} (hk : cntI k l = c) (hcl : c ≤ l.length) :
    BE ⟨3, c + 1 + (l.length - c), fun i => if i < c + 1 then (if i < c then vi (l.getD i 0) else if i - c = 0 then vi k else .val (.int .i64 0)) else vi (l.getD (c + (i - (c + 1))) 0)⟩ (bints (putI l k)) := by
  subst hk
  refine ⟨rfl, by show (putI l k).length ≤ cntI k l + 1 + (l.length - cntI k l); rw [putI_len]; omega, fun i hi => VE.of_eq ?_⟩
  have hi : i < (putI l k).length := hi
  rw [putI_len] at hi
  show (if i < cntI k l + 1 then (if i < cntI k l then vi (l.getD i 0) else if i - cntI k l = 0 then vi k else .val (.int .i64 0)) else vi (l.getD (cntI k l + (i - (cntI k l + 1))) 0)) = vi ((putI l k).getD i 0)
  rw [putI_get]
  by_cases h1 : i < cntI k l
  · rw [if_pos (by omega), if_pos h1, if_pos h1]
  · rw [if_neg h1, if_neg h1]
    by_cases h2 : i = cntI k l
    · rw [if_pos (by omega), if_pos h2, if_pos (by omega)]
    · rw [if_neg (by omega), if_neg h2]
      congr 2; omega

set_option maxHeartbeats 2000000 in
set_option maxRecDepth 20000 in
theorem l1Put_fn (l : List Int) (k : Int) (hl : l.length ≤ 1099511627) (hno : k ∉ l) : Fn Try.prog 206 [ints l, vi k] (.one (.fr 1 (l.length + 1) (bints (putI l k)))) := by
  refine Fn.of_body Try.call206 Try.func206 rfl Try.ntmps206 (ts := [4]) rfl (by simp) rfl (fun N => ?_)
  repeat' (first | (with_reducible first | refine then_normal ?_ | refine then_ret ?_ | refine then_exit ?_ | refine block_normal ?_ | refine block_ret ?_) | ((with_reducible show blockQ _ _ _ _); first | refine block_exit ?_ | refine block_exit_ne rfl ?_) | ((with_reducible show AWP _ _ _ _ _); first | (with_reducible first | refine AWP.seq ?_ | refine AWP.block ?_ | refine AWP.region ?_ | refine AWP.ret ?_ | refine AWP.exit ?_ | refine AWP.skip ?_) | refine AWP.drawn rfl (by kernel_rfl) ?_ | refine AWP.cond rfl ?_ ?_) | with_reducible refine ev_nil ?_ | ((first | ((with_reducible show evOps _ _ _ _ _ _); (first | refine ev_step rfl ?_ | refine ev_undef rfl rfl rfl ?_); intro K hK) | ((with_reducible show EvOpen _ _ _ _ _ _ _); refine ev_open ?_; intro K hK) | ((with_reducible show SkOpen _ _ _ _ _ _ _); refine sk_open ?_; intro K hK) | ((with_reducible show callK _ _ _ _ _ _ _ _); first | fail)); simp only [evOp, evQ, withS, opd, kput, putS, upd, slotsOf, Nat.reduceEqDiff, Nat.reduceLT, Nat.zero_add, ↓reduceIte, true_and]) | refine ev_guard rfl rfl rfl ?_ ?_ | ((with_reducible show retQ _ _ _ _); simp only [eq_self]) | (with_reducible refine hK _ ?_; clear hK K) | (with_reducible refine And.intro ?_ ?_) | (with_reducible intro hc; try simp only [eq_self] at hc) | omega)
  all_goals try (exfalso; omega; done)
  refine AWP.loop_entR [] (fun j : Nat => ⟨[(0, .one (.pv (ints l))), (1, .one (.pv (vi k))), (5, sc (.int .i64 j))], [], 48⟩)
    (fun j => j ≤ l.length ∧ ∀ i, i < j → l.getD i 0 < k) (fun j => l.length - j) 0 ⟨by omega, fun i hi => by omega⟩ (by simp [EntR, EntSR, EntHR, SlR, VE, VE.rfl', lookup, BE, upd, sc]) ?_
  rintro j ⟨hj, hall⟩
  by_cases hjl : j < l.length
  · by_cases e : l.getD j 0 < k
    · repeat' (first | (with_reducible first | refine then_normal ?_ | refine then_ret ?_ | refine then_exit ?_ | refine block_normal ?_ | refine block_ret ?_) | ((with_reducible show blockQ _ _ _ _); first | refine block_exit ?_ | refine block_exit_ne rfl ?_) | ((with_reducible show AWP _ _ _ _ _); first | (with_reducible first | refine AWP.seq ?_ | refine AWP.block ?_ | refine AWP.region ?_ | refine AWP.ret ?_ | refine AWP.exit ?_ | refine AWP.skip ?_) | refine AWP.drawn rfl (by kernel_rfl) ?_ | refine AWP.cond rfl ?_ ?_) | with_reducible refine ev_nil ?_ | ((first | ((with_reducible show evOps _ _ _ _ _ _); (first | refine ev_step rfl ?_ | refine ev_undef rfl rfl rfl ?_); intro K hK) | ((with_reducible show EvOpen _ _ _ _ _ _ _); refine ev_open ?_; intro K hK) | ((with_reducible show SkOpen _ _ _ _ _ _ _); refine sk_open ?_; intro K hK) | ((with_reducible show callK _ _ _ _ _ _ _ _); first | fail)); simp only [evOp, evQ, evB, binK, withS, opd, kput, putS, upd, lookup, skipOp, InK_i64, appendK, srcK, growK, frz, newBlk, partsK, buildSliceK, plSlice, cutK, boundK, V.one, Value.oneCell', List.set_cons_zero, List.set_cons_succ, sz_ints, c_int, ei_ints, ea_ints, Nat.zero_le, List.getElem?_cons_zero, List.getElem?_cons_succ, List.nil_append, List.cons_append, List.length_cons, List.length_nil, Nat.reduceEqDiff, Nat.reduceAdd, Nat.reduceLT, Nat.reduceLeDiff, Nat.mul_one, Nat.add_zero, Nat.zero_add, Nat.sub_zero, Nat.mod_one, Nat.not_lt_zero, List.getD_cons_zero, ↓reduceIte, eq_self, true_and, and_true, Bool.not_true, Bool.true_eq_false, Bool.false_eq_true, false_implies, forall_const, implies_true, Int.toNat_natCast, Option.isSome_some]) | refine ev_guard rfl rfl rfl ?_ ?_ | ((with_reducible show retQ _ _ _ _); simp only [retQ, retOk, getL, lookup, Option.map_some, fitsL, fits, ND, srcs, Res.list, List.getElem?_cons_zero, List.getElem?_cons_succ, Nat.reduceEqDiff, ↓reduceIte, and_true, true_and]) | (with_reducible refine hK _ ?_; clear hK K) | (with_reducible refine And.intro ?_ ?_) | (with_reducible intro hc; try simp only [decide_eq_true_eq, decide_eq_false_iff_not, beq_iff_eq, beq_eq_false_iff_ne, Bool.not_true, Int.not_lt, ne_eq, reduceCtorEq, Bool.true_eq_false] at hc) | omega)
      all_goals first
        | (exfalso; omega)
        | exact ⟨j + 1, ⟨by omega, fun i hi => by by_cases e2 : i = j; exact e2 ▸ e; exact hall i (by omega)⟩, by omega, [], rfl, by decide, by simp [EntSR, SlR, VE, VE.rfl', lookup, sc], trivial⟩
        | trace_state
    · have hcnt := cntI_at (k := k) (l := l) (c := j) (by omega) hall (fun _ => e)
      have hne : ¬ l.getD j 0 = k := fun h => hno (by rw [← h, List.getD_eq_getElem?_getD, List.getElem?_eq_getElem hjl]; exact List.getElem_mem _)
      repeat' (first | (with_reducible first | refine then_normal ?_ | refine then_ret ?_ | refine then_exit ?_ | refine block_normal ?_ | refine block_ret ?_) | ((with_reducible show blockQ _ _ _ _); first | refine block_exit ?_ | refine block_exit_ne rfl ?_) | ((with_reducible show AWP _ _ _ _ _); first | (with_reducible first | refine AWP.seq ?_ | refine AWP.block ?_ | refine AWP.region ?_ | refine AWP.ret ?_ | refine AWP.exit ?_ | refine AWP.skip ?_) | refine AWP.drawn rfl (by kernel_rfl) ?_ | refine AWP.cond rfl ?_ ?_) | with_reducible refine ev_nil ?_ | ((first | ((with_reducible show evOps _ _ _ _ _ _); (first | refine ev_step rfl ?_ | refine ev_undef rfl rfl rfl ?_); intro K hK) | ((with_reducible show EvOpen _ _ _ _ _ _ _); refine ev_open ?_; intro K hK) | ((with_reducible show SkOpen _ _ _ _ _ _ _); refine sk_open ?_; intro K hK) | ((with_reducible show callK _ _ _ _ _ _ _ _); first | fail)); simp only [evOp, evQ, evB, binK, withS, opd, kput, putS, upd, lookup, skipOp, InK_i64, appendK, srcK, growK, frz, newBlk, partsK, buildSliceK, plSlice, cutK, boundK, V.one, Value.oneCell', List.set_cons_zero, List.set_cons_succ, sz_ints, c_int, ei_ints, ea_ints, Nat.zero_le, List.getElem?_cons_zero, List.getElem?_cons_succ, List.nil_append, List.cons_append, List.length_cons, List.length_nil, Nat.reduceEqDiff, Nat.reduceAdd, Nat.reduceLT, Nat.reduceLeDiff, Nat.mul_one, Nat.add_zero, Nat.zero_add, Nat.sub_zero, Nat.mod_one, Nat.not_lt_zero, List.getD_cons_zero, ↓reduceIte, eq_self, true_and, and_true, Bool.not_true, Bool.true_eq_false, Bool.false_eq_true, false_implies, forall_const, implies_true, Int.toNat_natCast, Option.isSome_some]) | refine ev_guard rfl rfl rfl ?_ ?_ | ((with_reducible show retQ _ _ _ _); simp only [retQ, retOk, getL, lookup, Option.map_some, fitsL, fits, ND, srcs, Res.list, List.getElem?_cons_zero, List.getElem?_cons_succ, Nat.reduceEqDiff, ↓reduceIte, and_true, true_and]) | (with_reducible refine hK _ ?_; clear hK K) | (with_reducible refine And.intro ?_ ?_) | (with_reducible intro hc; try simp only [decide_eq_true_eq, decide_eq_false_iff_not, beq_iff_eq, beq_eq_false_iff_ne, Bool.not_true, Int.not_lt, ne_eq, reduceCtorEq, Bool.true_eq_false] at hc) | omega)
      all_goals first
        | (exfalso; omega)
        | omega
        | (split <;> first | rfl | (split <;> rfl))
        | exact ⟨_, rfl, putGrowI hcnt (by omega)⟩
        | (simp; done)
        | trace_state
  · obtain rfl : j = l.length := by omega
    have hcnt := cntI_at (k := k) (l := l) (c := l.length) (by omega) hall (fun h => by omega)
    repeat' (first | (with_reducible first | refine then_normal ?_ | refine then_ret ?_ | refine then_exit ?_ | refine block_normal ?_ | refine block_ret ?_) | ((with_reducible show blockQ _ _ _ _); first | refine block_exit ?_ | refine block_exit_ne rfl ?_) | ((with_reducible show AWP _ _ _ _ _); first | (with_reducible first | refine AWP.seq ?_ | refine AWP.block ?_ | refine AWP.region ?_ | refine AWP.ret ?_ | refine AWP.exit ?_ | refine AWP.skip ?_) | refine AWP.drawn rfl (by kernel_rfl) ?_ | refine AWP.cond rfl ?_ ?_) | with_reducible refine ev_nil ?_ | ((first | ((with_reducible show evOps _ _ _ _ _ _); (first | refine ev_step rfl ?_ | refine ev_undef rfl rfl rfl ?_); intro K hK) | ((with_reducible show EvOpen _ _ _ _ _ _ _); refine ev_open ?_; intro K hK) | ((with_reducible show SkOpen _ _ _ _ _ _ _); refine sk_open ?_; intro K hK) | ((with_reducible show callK _ _ _ _ _ _ _ _); first | fail)); simp only [evOp, evQ, evB, binK, withS, opd, kput, putS, upd, lookup, skipOp, InK_i64, appendK, srcK, growK, frz, newBlk, partsK, buildSliceK, plSlice, cutK, boundK, V.one, Value.oneCell', List.set_cons_zero, List.set_cons_succ, sz_ints, c_int, ei_ints, ea_ints, Nat.zero_le, List.getElem?_cons_zero, List.getElem?_cons_succ, List.nil_append, List.cons_append, List.length_cons, List.length_nil, Nat.reduceEqDiff, Nat.reduceAdd, Nat.reduceLT, Nat.reduceLeDiff, Nat.mul_one, Nat.add_zero, Nat.zero_add, Nat.sub_zero, Nat.mod_one, Nat.not_lt_zero, List.getD_cons_zero, ↓reduceIte, eq_self, true_and, and_true, Bool.not_true, Bool.true_eq_false, Bool.false_eq_true, false_implies, forall_const, implies_true, Int.toNat_natCast, Option.isSome_some]) | refine ev_guard rfl rfl rfl ?_ ?_ | ((with_reducible show retQ _ _ _ _); simp only [retQ, retOk, getL, lookup, Option.map_some, fitsL, fits, ND, srcs, Res.list, List.getElem?_cons_zero, List.getElem?_cons_succ, Nat.reduceEqDiff, ↓reduceIte, and_true, true_and]) | (with_reducible refine hK _ ?_; clear hK K) | (with_reducible refine And.intro ?_ ?_) | (with_reducible intro hc; try simp only [decide_eq_true_eq, decide_eq_false_iff_not, beq_iff_eq, beq_eq_false_iff_ne, Bool.not_true, Int.not_lt, ne_eq, reduceCtorEq, Bool.true_eq_false] at hc) | omega)
    all_goals first
      | (exfalso; omega)
      | omega
      | (split <;> first | rfl | (split <;> rfl))
      | exact ⟨_, rfl, putGrowI hcnt (by omega)⟩
      | (simp; done)
      | trace_state

open Go.RowKit Go.Proofs
set_option linter.unusedSimpArgs false
set_option linter.unusedVariables false

/-- Entry (i, j) of matrix m. -/
def entA (s : List (List (List Int))) (m i j : Nat) : Int := (rowAt (matAt s m) i).getD j 0
/-- A step from i to j. -/
def edB (s : List (List (List Int))) (m i j : Nat) : Bool := entA s m i j != 1000000000
def mkE (e : List Int) (q : Nat) : Bool := e.getD q 0 != 1000000000
/-- All matrices are square of n rows. -/
def SqA (n : Nat) (s : List (List (List Int))) : Prop := s.length ≤ 3 ∧ n ≤ 6 ∧ ∀ m, m < s.length → (matAt s m).length = n ∧ ∀ i, i < n → (rowAt (matAt s m) i).length = n
abbrev bbools (n : Nat) (f : Nat → Bool) : Blk := ⟨4, n, fun i => vb (f i)⟩
theorem be_bools {n : Nat} {f : Nat → V} {g : Nat → Bool} (h : ∀ i, i < n → f i = vb (g i)) : BE ⟨4, n, f⟩ (bbools n g) := ⟨rfl, Nat.le_refl _, fun i hi => VE.of_eq (h i hi)⟩

set_option maxHeartbeats 4000000 in
set_option maxRecDepth 20000 in
theorem leading_fn (a e : List Int) (s : List (List (List Int))) (hq : SqA e.length s) : Fn Try.prog 133 [autV a e s] (.one (.fr 1 e.length (bbools e.length (rnd (edB s) e.length s.length e.length (mkE e))))) := by
  obtain ⟨hL, hn, hM⟩ := hq
  refine Fn.of_body Try.call133 Try.func133 rfl Try.ntmps133 (ts := [2]) rfl (by simp) rfl (fun N => ?_)
  repeat' (first | (with_reducible first | refine then_normal ?_ | refine then_ret ?_ | refine then_exit ?_ | refine block_normal ?_ | refine block_ret ?_) | ((with_reducible show blockQ _ _ _ _); first | refine block_exit ?_ | refine block_exit_ne rfl ?_) | ((with_reducible show AWP _ _ _ _ _); first | (with_reducible first | refine AWP.seq ?_ | refine AWP.block ?_ | refine AWP.region ?_ | refine AWP.ret ?_ | refine AWP.exit ?_ | refine AWP.skip ?_) | refine AWP.drawn rfl (by kernel_rfl) ?_ | refine AWP.cond rfl ?_ ?_) | with_reducible refine ev_nil ?_ | ((first | ((with_reducible show evOps _ _ _ _ _ _); (first | refine ev_step rfl ?_ | refine ev_undef rfl rfl rfl ?_); intro K hK) | ((with_reducible show EvOpen _ _ _ _ _ _ _); refine ev_open ?_; intro K hK) | ((with_reducible show SkOpen _ _ _ _ _ _ _); refine sk_open ?_; intro K hK) | ((with_reducible show callK _ _ _ _ _ _ _ _); first | fail)); simp only [evOp, evQ, evB, withS, opd, kput, putS, upd, lookup, loadOwn, slotsOf, frz, makeK, newBlk, boxV, sz_ints, c_ints, fa1, autF_1, ei_bools, List.getElem?_cons_zero, List.nil_append, List.cons_append, List.length_cons, List.length_nil, Nat.reduceEqDiff, Nat.reduceLT, Nat.mul_one, Nat.zero_add, Nat.mod_one, List.getD_cons_zero, ↓reduceIte, eq_self, true_and, Int.toNat_natCast, Option.isSome_some]) | refine ev_guard rfl rfl rfl ?_ ?_ | ((with_reducible show retQ _ _ _ _); simp only [eq_self]) | (with_reducible refine hK _ ?_; clear hK K) | (with_reducible refine And.intro ?_ ?_) | (with_reducible intro hc; try simp only [eq_self] at hc) | omega)
  all_goals try (exfalso; omega; done)
  refine AWP.loop_entR [0, 1] (fun k : Nat => ⟨[(1, .one (.ptr 0 0)), (3, .one (.own 1 1 0 e.length)), (17, .one (.pv (ints e))), (18, sc (.int .i64 e.length)), (19, sc (.int .i64 k))], [some ⟨37, 3, autF a e s⟩, some ⟨4, e.length, fun i => if i < k then vb (mkE e i) else vb false⟩], 77⟩)
    (fun k => k ≤ e.length) (fun k => e.length - k) 0 (by omega) ?_ ?_
  · refine ⟨rfl, by decide, by simp [EntSR, SlR, VE, VE.rfl', lookup, sc], ⟨rfl, Nat.le_refl _, fun i hi => VE.rfl' _⟩, ⟨rfl, Nat.le_of_eq (by simp), fun i hi => VE.of_eq ?_⟩, trivial⟩
    simp
  intro k hk
  by_cases hkl : k < e.length
  · repeat' (first | (with_reducible first | refine then_normal ?_ | refine then_ret ?_ | refine then_exit ?_ | refine block_normal ?_ | refine block_ret ?_) | ((with_reducible show blockQ _ _ _ _); first | refine block_exit ?_ | refine block_exit_ne rfl ?_) | ((with_reducible show AWP _ _ _ _ _); first | (with_reducible first | refine AWP.seq ?_ | refine AWP.block ?_ | refine AWP.region ?_ | refine AWP.ret ?_ | refine AWP.exit ?_ | refine AWP.skip ?_) | refine AWP.drawn rfl (by kernel_rfl) ?_ | refine AWP.cond rfl ?_ ?_) | with_reducible refine ev_nil ?_ | ((first | ((with_reducible show evOps _ _ _ _ _ _); (first | refine ev_step rfl ?_ | refine ev_undef rfl rfl rfl ?_); intro K hK) | ((with_reducible show EvOpen _ _ _ _ _ _ _); refine ev_open ?_; intro K hK) | ((with_reducible show SkOpen _ _ _ _ _ _ _); refine sk_open ?_; intro K hK) | ((with_reducible show callK _ _ _ _ _ _ _ _); first | fail)); simp only [evOp, evQ, evB, binK, withS, opd, kput, putS, upd, lookup, InK_i64, storeK, frz, storeV, setBlk, V.one, Value.oneCell', List.set_cons_zero, List.set_cons_succ, sz_ints, c_int, sz_bools, c_bool, List.getElem?_cons_zero, List.getElem?_cons_succ, Nat.reduceEqDiff, Nat.reduceLT, Nat.mul_one, Nat.add_zero, Nat.zero_add, ↓reduceIte, eq_self, true_and, Int.toNat_natCast, Option.isSome_some]) | refine ev_guard rfl rfl rfl ?_ ?_ | ((with_reducible show retQ _ _ _ _); simp only [eq_self]) | (with_reducible refine hK _ ?_; clear hK K) | (with_reducible refine And.intro ?_ ?_) | (with_reducible intro hc; try simp only [decide_eq_true_eq, decide_eq_false_iff_not, Int.not_lt] at hc) | omega)
    all_goals first
      | (exfalso; omega)
      | (refine ⟨k + 1, by omega, by omega, [0, 1], rfl, by decide, by simp [EntSR, SlR, VE, VE.rfl', lookup, sc], BE.rfl' _, ⟨rfl, Nat.le_refl _, fun i hi => VE.of_eq ?_⟩, trivial⟩
         show (if i = k then _ else if i < k then vb (mkE e i) else vb false) = (if i < k + 1 then vb (mkE e i) else vb false)
         by_cases h1 : i = k
         · subst h1; rw [if_pos rfl, if_pos (by omega)]; rfl
         · rw [if_neg h1]
           by_cases h2 : i < k
           · rw [if_pos h2, if_pos (by omega)]
           · rw [if_neg h2, if_neg (by omega)])
      | trace_state
  · obtain rfl : k = e.length := by omega
    repeat' (first | (with_reducible first | refine then_normal ?_ | refine then_ret ?_ | refine then_exit ?_ | refine block_normal ?_ | refine block_ret ?_) | ((with_reducible show blockQ _ _ _ _); first | refine block_exit ?_ | refine block_exit_ne rfl ?_) | ((with_reducible show AWP _ _ _ _ _); first | (with_reducible first | refine AWP.seq ?_ | refine AWP.block ?_ | refine AWP.region ?_ | refine AWP.ret ?_ | refine AWP.exit ?_ | refine AWP.skip ?_) | refine AWP.drawn rfl (by kernel_rfl) ?_ | refine AWP.cond rfl ?_ ?_) | with_reducible refine ev_nil ?_ | ((first | ((with_reducible show evOps _ _ _ _ _ _); (first | refine ev_step rfl ?_ | refine ev_undef rfl rfl rfl ?_); intro K hK) | ((with_reducible show EvOpen _ _ _ _ _ _ _); refine ev_open ?_; intro K hK) | ((with_reducible show SkOpen _ _ _ _ _ _ _); refine sk_open ?_; intro K hK) | ((with_reducible show callK _ _ _ _ _ _ _ _); first | fail)); simp only [evOp, evQ, evB, binK, withS, opd, kput, putS, upd, lookup, InK_i64, storeK, frz, storeV, setBlk, V.one, Value.oneCell', List.set_cons_zero, List.set_cons_succ, sz_ints, c_int, sz_bools, c_bool, List.getElem?_cons_zero, List.getElem?_cons_succ, Nat.reduceEqDiff, Nat.reduceLT, Nat.mul_one, Nat.add_zero, Nat.zero_add, ↓reduceIte, eq_self, true_and, Int.toNat_natCast, Option.isSome_some]) | refine ev_guard rfl rfl rfl ?_ ?_ | ((with_reducible show retQ _ _ _ _); simp only [eq_self]) | (with_reducible refine hK _ ?_; clear hK K) | (with_reducible refine And.intro ?_ ?_) | (with_reducible intro hc; try simp only [decide_eq_true_eq, decide_eq_false_iff_not, Int.not_lt] at hc) | omega)
    all_goals try (exfalso; omega; done)
    refine AWP.loop_entR [0, 1] (fun r : Nat => ⟨[(1, .one (.ptr 0 0)), (3, .one (.own 1 1 0 e.length)), (31, sc (.int .i64 e.length)), (32, sc (.int .i64 r))], [some ⟨37, 3, autF a e s⟩, some (bbools e.length (rnd (edB s) e.length s.length r (mkE e)))], 77⟩)
      (fun r => r ≤ e.length) (fun r => e.length - r) 0 (by omega) ?_ ?_
    · exact ⟨rfl, by decide, by simp [EntSR, SlR, VE, VE.rfl', lookup, sc], ⟨rfl, Nat.le_refl _, fun i hi => VE.rfl' _⟩, be_bools fun i hi => if_pos hi, trivial⟩
    intro r hr
    by_cases hrl : r < e.length
    · generalize hmk : rnd (edB s) e.length s.length r (mkE e) = mk
      repeat' (first | (with_reducible first | refine then_normal ?_ | refine then_ret ?_ | refine then_exit ?_ | refine block_normal ?_ | refine block_ret ?_) | ((with_reducible show blockQ _ _ _ _); first | refine block_exit ?_ | refine block_exit_ne rfl ?_) | ((with_reducible show AWP _ _ _ _ _); first | (with_reducible first | refine AWP.seq ?_ | refine AWP.block ?_ | refine AWP.region ?_ | refine AWP.ret ?_ | refine AWP.exit ?_ | refine AWP.skip ?_) | refine AWP.drawn rfl (by kernel_rfl) ?_ | refine AWP.cond rfl ?_ ?_) | with_reducible refine ev_nil ?_ | ((first | ((with_reducible show evOps _ _ _ _ _ _); (first | refine ev_step rfl ?_ | refine ev_undef rfl rfl rfl ?_); intro K hK) | ((with_reducible show EvOpen _ _ _ _ _ _ _); refine ev_open ?_; intro K hK) | ((with_reducible show SkOpen _ _ _ _ _ _ _); refine sk_open ?_; intro K hK) | ((with_reducible show callK _ _ _ _ _ _ _ _); first | fail)); simp only [evOp, evQ, evB, binK, withS, opd, kput, putS, upd, lookup, loadOwn, sz_mats, c_mats, fa2, autF_2, List.getElem?_cons_zero, Nat.reduceEqDiff, Nat.reduceLT, Nat.zero_add, ↓reduceIte, eq_self, true_and, Option.isSome_some]) | refine ev_guard rfl rfl rfl ?_ ?_ | ((with_reducible show retQ _ _ _ _); simp only [retQ, retOk, getL, lookup, Option.map_some, fitsL, fits, ND, srcs, Res.list, List.getElem?_cons_zero, List.getElem?_cons_succ, Nat.reduceEqDiff, ↓reduceIte, and_true, true_and]) | (with_reducible refine hK _ ?_; clear hK K) | (with_reducible refine And.intro ?_ ?_) | (with_reducible intro hc; try simp only [decide_eq_true_eq, decide_eq_false_iff_not, Int.not_lt] at hc) | omega)
      all_goals try (exfalso; omega; done)
      refine AWP.loop_entR [0, 1] (fun m : Nat => ⟨[(1, .one (.ptr 0 0)), (3, .one (.own 1 1 0 e.length)), (31, sc (.int .i64 e.length)), (32, sc (.int .i64 r)), (35, .one (.pv (mats s))), (36, sc (.int .i64 s.length)), (37, sc (.int .i64 m))], [some ⟨37, 3, autF a e s⟩, some (bbools e.length (inM (edB s) e.length m mk))], 77⟩)
        (fun m => m ≤ s.length) (fun m => s.length - m) 0 (by omega) ?_ ?_
      · exact ⟨rfl, by decide, by simp [EntSR, SlR, VE, VE.rfl', lookup, sc], ⟨rfl, Nat.le_refl _, fun i hi => VE.rfl' _⟩, be_bools fun i hi => rfl, trivial⟩
      intro m hm
      by_cases hml : m < s.length
      · obtain ⟨hM1, hM2⟩ := hM m hml
        have hstep : inM (edB s) e.length (m + 1) mk = inS (edB s m) e.length e.length (inM (edB s) e.length m mk) := rfl
        generalize hmk2 : inM (edB s) e.length m mk = mk2 at hstep ⊢
        repeat' (first | (with_reducible first | refine then_normal ?_ | refine then_ret ?_ | refine then_exit ?_ | refine block_normal ?_ | refine block_ret ?_) | ((with_reducible show blockQ _ _ _ _); first | refine block_exit ?_ | refine block_exit_ne rfl ?_) | ((with_reducible show AWP _ _ _ _ _); first | (with_reducible first | refine AWP.seq ?_ | refine AWP.block ?_ | refine AWP.region ?_ | refine AWP.ret ?_ | refine AWP.exit ?_ | refine AWP.skip ?_) | refine AWP.drawn rfl (by kernel_rfl) ?_ | refine AWP.cond rfl ?_ ?_) | with_reducible refine ev_nil ?_ | ((first | ((with_reducible show evOps _ _ _ _ _ _); (first | refine ev_step rfl ?_ | refine ev_undef rfl rfl rfl ?_); intro K hK) | ((with_reducible show EvOpen _ _ _ _ _ _ _); refine ev_open ?_; intro K hK) | ((with_reducible show SkOpen _ _ _ _ _ _ _); refine sk_open ?_; intro K hK) | ((with_reducible show callK _ _ _ _ _ _ _ _); first | fail)); simp only [evOp, evQ, evB, binK, withS, opd, kput, putS, upd, lookup, InK_i64, sz_rows, c_rows, sz_mats, Nat.reduceEqDiff, Nat.reduceLT, Nat.mul_one, Nat.add_zero, ↓reduceIte, eq_self, true_and, Int.toNat_natCast, Option.isSome_some]) | refine ev_guard rfl rfl rfl ?_ ?_ | ((with_reducible show retQ _ _ _ _); simp only [eq_self]) | (with_reducible refine hK _ ?_; clear hK K) | (with_reducible refine And.intro ?_ ?_) | (with_reducible intro hc; try simp only [decide_eq_true_eq, decide_eq_false_iff_not, Int.not_lt] at hc) | omega)
        all_goals try (exfalso; omega; done)
        refine AWP.loop_entR [0, 1] (fun i : Nat => ⟨[(1, .one (.ptr 0 0)), (3, .one (.own 1 1 0 e.length)), (31, sc (.int .i64 e.length)), (32, sc (.int .i64 r)), (35, .one (.pv (mats s))), (36, sc (.int .i64 s.length)), (37, sc (.int .i64 m)), (41, .one (.pv (rows (matAt s m)))), (42, sc (.int .i64 (matAt s m).length)), (43, sc (.int .i64 i))], [some ⟨37, 3, autF a e s⟩, some (bbools e.length (inS (edB s m) e.length i mk2))], 77⟩)
          (fun i => i ≤ e.length) (fun i => e.length - i) 0 (by omega) ?_ ?_
        · exact ⟨rfl, by decide, by simp [EntSR, SlR, VE, VE.rfl', lookup, sc], ⟨rfl, Nat.le_refl _, fun i hi => VE.rfl' _⟩, be_bools fun i hi => rfl, trivial⟩
        intro i hi
        by_cases hil : i < e.length
        · have hM3 := hM2 i hil
          have hstep2 : inS (edB s m) e.length (i + 1) mk2 = inT (edB s m) i e.length (inS (edB s m) e.length i mk2) := rfl
          generalize hmk3 : inS (edB s m) e.length i mk2 = mk3 at hstep2 ⊢
          repeat' (first | (with_reducible first | refine then_normal ?_ | refine then_ret ?_ | refine then_exit ?_ | refine block_normal ?_ | refine block_ret ?_) | ((with_reducible show blockQ _ _ _ _); first | refine block_exit ?_ | refine block_exit_ne rfl ?_) | ((with_reducible show AWP _ _ _ _ _); first | (with_reducible first | refine AWP.seq ?_ | refine AWP.block ?_ | refine AWP.region ?_ | refine AWP.ret ?_ | refine AWP.exit ?_ | refine AWP.skip ?_) | refine AWP.drawn rfl (by kernel_rfl) ?_ | refine AWP.cond rfl ?_ ?_) | with_reducible refine ev_nil ?_ | ((first | ((with_reducible show evOps _ _ _ _ _ _); (first | refine ev_step rfl ?_ | refine ev_undef rfl rfl rfl ?_); intro K hK) | ((with_reducible show EvOpen _ _ _ _ _ _ _); refine ev_open ?_; intro K hK) | ((with_reducible show SkOpen _ _ _ _ _ _ _); refine sk_open ?_; intro K hK) | ((with_reducible show callK _ _ _ _ _ _ _ _); first | fail)); simp only [evOp, evQ, evB, binK, withS, opd, kput, putS, upd, lookup, InK_i64, sz_ints, sz_rows, c_ints, Nat.reduceEqDiff, Nat.reduceLT, Nat.mul_one, Nat.add_zero, ↓reduceIte, eq_self, true_and, Int.toNat_natCast, Option.isSome_some]) | refine ev_guard rfl rfl rfl ?_ ?_ | ((with_reducible show retQ _ _ _ _); simp only [eq_self]) | (with_reducible refine hK _ ?_; clear hK K) | (with_reducible refine And.intro ?_ ?_) | (with_reducible intro hc; try simp only [decide_eq_true_eq, decide_eq_false_iff_not, Int.not_lt] at hc) | omega)
          all_goals try (exfalso; omega; done)
          refine AWP.loop_entR [0, 1] (fun t : Nat => ⟨[(1, .one (.ptr 0 0)), (3, .one (.own 1 1 0 e.length)), (31, sc (.int .i64 e.length)), (32, sc (.int .i64 r)), (35, .one (.pv (mats s))), (36, sc (.int .i64 s.length)), (37, sc (.int .i64 m)), (41, .one (.pv (rows (matAt s m)))), (42, sc (.int .i64 (matAt s m).length)), (43, sc (.int .i64 i)), (8, sc (.int .i64 i)), (48, .one (.pv (ints (rowAt (matAt s m) i)))), (49, sc (.int .i64 (rowAt (matAt s m) i).length)), (50, sc (.int .i64 t))], [some ⟨37, 3, autF a e s⟩, some (bbools e.length (inT (edB s m) i t mk3))], 77⟩)
            (fun t => t ≤ e.length) (fun t => e.length - t) 0 (by omega) ?_ ?_
          · exact ⟨rfl, by decide, by simp [EntSR, SlR, VE, VE.rfl', lookup, sc], ⟨rfl, Nat.le_refl _, fun i hi => VE.rfl' _⟩, be_bools fun i hi => rfl, trivial⟩
          intro t ht
          by_cases htl : t < e.length
          · have hcase : ∀ q, inT (edB s m) i (t + 1) mk3 q = if q = i then (inT (edB s m) i t mk3 i || (edB s m i t && inT (edB s m) i t mk3 t)) else inT (edB s m) i t mk3 q := fun q => rfl
            have hed : edB s m i t = ((rowAt (matAt s m) i).getD t 0 != 1000000000) := rfl
            generalize inT (edB s m) i t mk3 = mk4 at hcase ⊢
            generalize edB s m i t = ed at *
            repeat' (first | (with_reducible first | refine then_normal ?_ | refine then_ret ?_ | refine then_exit ?_ | refine block_normal ?_ | refine block_ret ?_) | ((with_reducible show blockQ _ _ _ _); first | refine block_exit ?_ | refine block_exit_ne rfl ?_) | ((with_reducible show AWP _ _ _ _ _); first | (with_reducible first | refine AWP.seq ?_ | refine AWP.block ?_ | refine AWP.region ?_ | refine AWP.ret ?_ | refine AWP.exit ?_ | refine AWP.skip ?_) | refine AWP.drawn rfl (by kernel_rfl) ?_ | refine AWP.cond rfl ?_ ?_) | with_reducible refine ev_nil ?_ | ((first | ((with_reducible show evOps _ _ _ _ _ _); (first | refine ev_step rfl ?_ | refine ev_undef rfl rfl rfl ?_); intro K hK) | ((with_reducible show EvOpen _ _ _ _ _ _ _); refine ev_open ?_; intro K hK) | ((with_reducible show SkOpen _ _ _ _ _ _ _); refine sk_open ?_; intro K hK) | ((with_reducible show callK _ _ _ _ _ _ _ _); first | fail)); simp only [evOp, evQ, binK, withS, opd, kput, putS, upd, lookup, skipOp, loadOwn, InK_i64, storeK, frz, storeV, setBlk, V.one, Value.oneCell', List.set_cons_zero, List.set_cons_succ, sz_ints, c_int, sz_bools, c_bool, List.getElem?_cons_zero, List.getElem?_cons_succ, Nat.reduceEqDiff, Nat.reduceLT, Nat.mul_one, Nat.add_zero, Nat.zero_add, ↓reduceIte, eq_self, true_and, and_true, Bool.not_true, Bool.not_false, Bool.true_eq_false, Bool.false_eq_true, false_implies, forall_const, Int.toNat_natCast]) | refine ev_guard rfl rfl rfl ?_ ?_ | ((with_reducible show retQ _ _ _ _); simp only [eq_self]) | (with_reducible refine hK _ ?_; clear hK K) | (with_reducible refine And.intro ?_ ?_) | (with_reducible intro hc; try simp only [decide_eq_true_eq, decide_eq_false_iff_not, bne_iff_ne, bne_eq_false_iff_eq, Bool.not_true, Bool.not_false, Int.not_lt, ne_eq, reduceCtorEq, Bool.true_eq_false] at hc) | omega)
            all_goals try (exfalso; omega; done)
            all_goals
              refine ⟨t + 1, by omega, by omega, [0, 1], rfl, by decide, by simp [EntSR, SlR, VE, VE.rfl', lookup, sc], BE.rfl' _, be_bools fun q hq => ?_, trivial⟩
              rw [hcase q]
              by_cases h1 : q = i
              · rw [if_pos h1, if_pos h1, hed]
                generalize (rowAt (matAt s m) i).getD t 0 = x at *
                simp [*]
              · rw [if_neg h1, if_neg h1]
          · obtain rfl : t = e.length := by omega
            repeat' (first | (with_reducible first | refine then_normal ?_ | refine then_ret ?_ | refine then_exit ?_ | refine block_normal ?_ | refine block_ret ?_) | ((with_reducible show blockQ _ _ _ _); first | refine block_exit ?_ | refine block_exit_ne rfl ?_) | ((with_reducible show AWP _ _ _ _ _); first | (with_reducible first | refine AWP.seq ?_ | refine AWP.block ?_ | refine AWP.region ?_ | refine AWP.ret ?_ | refine AWP.exit ?_ | refine AWP.skip ?_) | refine AWP.drawn rfl (by kernel_rfl) ?_ | refine AWP.cond rfl ?_ ?_) | with_reducible refine ev_nil ?_ | ((first | ((with_reducible show evOps _ _ _ _ _ _); (first | refine ev_step rfl ?_ | refine ev_undef rfl rfl rfl ?_); intro K hK) | ((with_reducible show EvOpen _ _ _ _ _ _ _); refine ev_open ?_; intro K hK) | ((with_reducible show SkOpen _ _ _ _ _ _ _); refine sk_open ?_; intro K hK) | ((with_reducible show callK _ _ _ _ _ _ _ _); first | fail)); simp only [evOp, evQ, binK, withS, opd, kput, putS, upd, lookup, skipOp, loadOwn, InK_i64, storeK, frz, storeV, setBlk, V.one, Value.oneCell', List.set_cons_zero, List.set_cons_succ, sz_ints, c_int, sz_bools, c_bool, List.getElem?_cons_zero, List.getElem?_cons_succ, Nat.reduceEqDiff, Nat.reduceLT, Nat.mul_one, Nat.add_zero, Nat.zero_add, ↓reduceIte, eq_self, true_and, and_true, Bool.not_true, Bool.not_false, Bool.true_eq_false, Bool.false_eq_true, false_implies, forall_const, Int.toNat_natCast]) | refine ev_guard rfl rfl rfl ?_ ?_ | ((with_reducible show retQ _ _ _ _); simp only [eq_self]) | (with_reducible refine hK _ ?_; clear hK K) | (with_reducible refine And.intro ?_ ?_) | (with_reducible intro hc; try simp only [decide_eq_true_eq, decide_eq_false_iff_not, bne_iff_ne, bne_eq_false_iff_eq, Bool.not_true, Bool.not_false, Int.not_lt, ne_eq, reduceCtorEq, Bool.true_eq_false] at hc) | omega)
            all_goals first
              | (exfalso; omega)
              | (refine ⟨i + 1, by omega, by omega, [0, 1], rfl, by decide, by simp [EntSR, SlR, VE, VE.rfl', lookup, sc], BE.rfl' _, by rw [hstep2]; exact BE.rfl' _, trivial⟩)
              | trace_state
        · obtain rfl : i = e.length := by omega
          repeat' (first | (with_reducible first | refine then_normal ?_ | refine then_ret ?_ | refine then_exit ?_ | refine block_normal ?_ | refine block_ret ?_) | ((with_reducible show blockQ _ _ _ _); first | refine block_exit ?_ | refine block_exit_ne rfl ?_) | ((with_reducible show AWP _ _ _ _ _); first | (with_reducible first | refine AWP.seq ?_ | refine AWP.block ?_ | refine AWP.region ?_ | refine AWP.ret ?_ | refine AWP.exit ?_ | refine AWP.skip ?_) | refine AWP.drawn rfl (by kernel_rfl) ?_ | refine AWP.cond rfl ?_ ?_) | with_reducible refine ev_nil ?_ | ((first | ((with_reducible show evOps _ _ _ _ _ _); (first | refine ev_step rfl ?_ | refine ev_undef rfl rfl rfl ?_); intro K hK) | ((with_reducible show EvOpen _ _ _ _ _ _ _); refine ev_open ?_; intro K hK) | ((with_reducible show SkOpen _ _ _ _ _ _ _); refine sk_open ?_; intro K hK) | ((with_reducible show callK _ _ _ _ _ _ _ _); first | fail)); simp only [evOp, evQ, evB, binK, withS, opd, kput, putS, upd, lookup, InK_i64, sz_ints, sz_rows, c_ints, Nat.reduceEqDiff, Nat.reduceLT, Nat.mul_one, Nat.add_zero, ↓reduceIte, eq_self, true_and, Int.toNat_natCast, Option.isSome_some]) | refine ev_guard rfl rfl rfl ?_ ?_ | ((with_reducible show retQ _ _ _ _); simp only [eq_self]) | (with_reducible refine hK _ ?_; clear hK K) | (with_reducible refine And.intro ?_ ?_) | (with_reducible intro hc; try simp only [decide_eq_true_eq, decide_eq_false_iff_not, Int.not_lt] at hc) | omega)
          all_goals first
            | (exfalso; omega)
            | (refine ⟨m + 1, by omega, by omega, [0, 1], rfl, by decide, by simp [EntSR, SlR, VE, VE.rfl', lookup, sc], BE.rfl' _, by rw [hstep]; exact BE.rfl' _, trivial⟩)
            | trace_state
      · obtain rfl : m = s.length := by omega
        have hstep : rnd (edB s) e.length s.length (r + 1) (mkE e) = inM (edB s) e.length s.length mk := by rw [← hmk]; rfl
        repeat' (first | (with_reducible first | refine then_normal ?_ | refine then_ret ?_ | refine then_exit ?_ | refine block_normal ?_ | refine block_ret ?_) | ((with_reducible show blockQ _ _ _ _); first | refine block_exit ?_ | refine block_exit_ne rfl ?_) | ((with_reducible show AWP _ _ _ _ _); first | (with_reducible first | refine AWP.seq ?_ | refine AWP.block ?_ | refine AWP.region ?_ | refine AWP.ret ?_ | refine AWP.exit ?_ | refine AWP.skip ?_) | refine AWP.drawn rfl (by kernel_rfl) ?_ | refine AWP.cond rfl ?_ ?_) | with_reducible refine ev_nil ?_ | ((first | ((with_reducible show evOps _ _ _ _ _ _); (first | refine ev_step rfl ?_ | refine ev_undef rfl rfl rfl ?_); intro K hK) | ((with_reducible show EvOpen _ _ _ _ _ _ _); refine ev_open ?_; intro K hK) | ((with_reducible show SkOpen _ _ _ _ _ _ _); refine sk_open ?_; intro K hK) | ((with_reducible show callK _ _ _ _ _ _ _ _); first | fail)); simp only [evOp, evQ, evB, binK, withS, opd, kput, putS, upd, lookup, InK_i64, sz_rows, c_rows, sz_mats, Nat.reduceEqDiff, Nat.reduceLT, Nat.mul_one, Nat.add_zero, ↓reduceIte, eq_self, true_and, Int.toNat_natCast, Option.isSome_some]) | refine ev_guard rfl rfl rfl ?_ ?_ | ((with_reducible show retQ _ _ _ _); simp only [eq_self]) | (with_reducible refine hK _ ?_; clear hK K) | (with_reducible refine And.intro ?_ ?_) | (with_reducible intro hc; try simp only [decide_eq_true_eq, decide_eq_false_iff_not, Int.not_lt] at hc) | omega)
        all_goals first
          | (exfalso; omega)
          | (refine ⟨r + 1, by omega, by omega, [0, 1], rfl, by decide, by simp [EntSR, SlR, VE, VE.rfl', lookup, sc], BE.rfl' _, by rw [hstep]; exact BE.rfl' _, trivial⟩)
          | trace_state
    · obtain rfl : r = e.length := by omega
      repeat' (first | (with_reducible first | refine then_normal ?_ | refine then_ret ?_ | refine then_exit ?_ | refine block_normal ?_ | refine block_ret ?_) | ((with_reducible show blockQ _ _ _ _); first | refine block_exit ?_ | refine block_exit_ne rfl ?_) | ((with_reducible show AWP _ _ _ _ _); first | (with_reducible first | refine AWP.seq ?_ | refine AWP.block ?_ | refine AWP.region ?_ | refine AWP.ret ?_ | refine AWP.exit ?_ | refine AWP.skip ?_) | refine AWP.drawn rfl (by kernel_rfl) ?_ | refine AWP.cond rfl ?_ ?_) | with_reducible refine ev_nil ?_ | ((first | ((with_reducible show evOps _ _ _ _ _ _); (first | refine ev_step rfl ?_ | refine ev_undef rfl rfl rfl ?_); intro K hK) | ((with_reducible show EvOpen _ _ _ _ _ _ _); refine ev_open ?_; intro K hK) | ((with_reducible show SkOpen _ _ _ _ _ _ _); refine sk_open ?_; intro K hK) | ((with_reducible show callK _ _ _ _ _ _ _ _); first | fail)); simp only [evOp, evQ, evB, binK, withS, opd, kput, putS, upd, lookup, loadOwn, sz_mats, c_mats, fa2, autF_2, List.getElem?_cons_zero, Nat.reduceEqDiff, Nat.reduceLT, Nat.zero_add, ↓reduceIte, eq_self, true_and, Option.isSome_some]) | refine ev_guard rfl rfl rfl ?_ ?_ | ((with_reducible show retQ _ _ _ _); simp only [retQ, retOk, getL, lookup, Option.map_some, fitsL, fits, ND, srcs, Res.list, List.getElem?_cons_zero, List.getElem?_cons_succ, Nat.reduceEqDiff, ↓reduceIte, and_true, true_and]) | (with_reducible refine hK _ ?_; clear hK K) | (with_reducible refine And.intro ?_ ?_) | (with_reducible intro hc; try simp only [decide_eq_true_eq, decide_eq_false_iff_not, Int.not_lt] at hc) | omega)
      all_goals first
        | (exfalso; omega)
        | exact ⟨_, rfl, BE.rfl' _⟩
        | (simp; done)
        | trace_state

open Go.RowKit Go.Proofs
set_option linter.unusedSimpArgs false
set_option linter.unusedVariables false

/-- A step from t to i. -/
def edF (s : List (List (List Int))) (m i t : Nat) : Bool := entA s m t i != 1000000000
/-- The states below k where a vector is a number. -/
def initL (a : List Int) : Nat → List Int
  | 0 => []
  | k + 1 => if mkE a k then initL a k ++ [(k : Int)] else initL a k
theorem initL_mem {a : List Int} {x : Int} : ∀ {k}, x ∈ initL a k ↔ ∃ q : Nat, q < k ∧ mkE a q = true ∧ x = q
  | 0 => by simp [initL]
  | k + 1 => by
    unfold initL
    by_cases e : mkE a k = true
    · rw [if_pos e, List.mem_append, initL_mem (k := k), List.mem_singleton]
      constructor
      · rintro (⟨q, h1, h2, h3⟩ | h)
        · exact ⟨q, by omega, h2, h3⟩
        · exact ⟨k, by omega, e, h⟩
      · rintro ⟨q, h1, h2, h3⟩
        by_cases e2 : q = k
        · subst e2; exact .inr h3
        · exact .inl ⟨q, by omega, h2, h3⟩
    · rw [if_neg e, initL_mem (k := k)]
      constructor
      · rintro ⟨q, h1, h2, h3⟩; exact ⟨q, by omega, h2, h3⟩
      · rintro ⟨q, h1, h2, h3⟩
        by_cases e2 : q = k
        · subst e2; exact absurd h2 e
        · exact ⟨q, by omega, h2, h3⟩
theorem initL_len {a : List Int} {n : Nat} : ∀ k, k ≤ n → (initL a k).length ≤ cntN (fun q => hasI (initL a k) q) k
  | 0, _ => Nat.le_refl _
  | k + 1, hk => by
    have ih := initL_len (a := a) (n := n) k (by omega)
    have hmono : ∀ q, q < k → hasI (initL a k) q = true → hasI (initL a (k + 1)) q = true := fun q _ h => by
      rw [hasI_iff] at *
      obtain ⟨r, h1, h2, h3⟩ := initL_mem.1 h
      exact initL_mem.2 ⟨r, by omega, h2, h3⟩
    have h2 := cntN_mono hmono
    show (initL a (k + 1)).length ≤ cntN (fun q => hasI (initL a (k + 1)) q) k + if hasI (initL a (k + 1)) k = true then 1 else 0
    by_cases e : mkE a k = true
    · have h3 : hasI (initL a (k + 1)) k = true := hasI_iff.2 (initL_mem.2 ⟨k, by omega, e, rfl⟩)
      rw [if_pos h3]
      have h4 : (initL a (k + 1)).length = (initL a k).length + 1 := by
        show (if mkE a k then _ else _ : List Int).length = _
        rw [if_pos e]; simp
      omega
    · have h4 : (initL a (k + 1)).length = (initL a k).length := by
        show (if mkE a k then _ else _ : List Int).length = _
        rw [if_neg e]
      omega
theorem initL_ok {a : List Int} {s : List (List (List Int))} : ReachOk (edF s) a.length s.length (mkE a) (initL a a.length) (initL a a.length) :=
  ⟨fun x hx => by
    obtain ⟨q, h1, h2, rfl⟩ := initL_mem.1 hx
    exact ⟨by omega, by omega, by simpa using rnd_mono _ _ _ _ _ q h2⟩, fun q hq h => initL_mem.2 ⟨q, hq, h, rfl⟩, fun x hx => hx, initL_len a.length (Nat.le_refl _), Nat.le_refl _⟩
theorem initL_le (a : List Int) : ∀ k, (initL a k).length ≤ k
  | 0 => Nat.le_refl _
  | k + 1 => by
    have := initL_le a k
    unfold initL; split
    · simp; omega
    · omega

theorem app_be {l : List Int} {x : Int} {z : V} : BE ⟨3, l.length + 1, fun i => if i < l.length then vi (l.getD i 0) else if i - l.length = 0 then vi x else z⟩ (bints (l ++ [x])) := by
  refine ⟨rfl, Nat.le_of_eq (by simp [bints]), fun i hi => VE.of_eq ?_⟩
  have hi : i < (l ++ [x]).length := hi
  rw [List.length_append, List.length_singleton] at hi
  show (if i < l.length then vi (l.getD i 0) else if i - l.length = 0 then vi x else z) = vi ((l ++ [x]).getD i 0)
  simp only [List.getD]
  by_cases h : i < l.length
  · rw [if_pos h, List.getElem?_append_left h]
  · rw [if_neg h, if_pos (by omega), List.getElem?_append_right (by omega), show i - l.length = 0 by omega]; rfl
/-- The queue: a slice of its own that begins at off in its block, which holds g; or one of no cells. -/
def qS (q : List Int) : Option (Nat × (Nat → Int)) → Option Addr → Slot
  | some (off, _), _ => .one (.own 1 1 off q.length)
  | none, A => sc (.slice A 0 0)
def qB (q : List Int) : Option (Nat × (Nat → Int)) → Option Blk
  | some (off, g) => some ⟨3, off + q.length, fun i => vi (g i)⟩
  | none => none
def qOk (q : List Int) (al : Option (Nat × (Nat → Int))) : Prop := (al = none → q = []) ∧ ∀ off g, al = some (off, g) → ∀ i, i < q.length → g (off + i) = q.getD i 0
@[simp] theorem slR_q {j : Nat} {q : List Int} {al : Option (Nat × (Nat → Int))} {A : Option Addr} : SlR [j, 1] (qS q al A) (qS q al A) := by
  rcases al with _ | ⟨off, g⟩
  · exact VE.rfl' _
  · exact ⟨rfl, rfl, rfl, rfl⟩
theorem entHR_q {h : List (Option Blk)} {i : Nat} {b bo : Blk} {q : List Int} {al : Option (Nat × (Nat → Int))} (h0 : h[i]? = some (some b)) (hb : BE b bo) (h1 : h[1]? = some (qB q al)) : EntHR h [i, 1] [some bo, qB q al] := by
  rcases al with _ | ⟨off, g⟩
  · refine ⟨?_, trivial⟩; rw [h0]; exact hb
  · refine ⟨?_, ?_, trivial⟩
    · rw [h0]; exact hb
    · have h1 : h[1]? = some (some ⟨3, off + q.length, fun i => vi (g i)⟩) := h1
      rw [h1]; exact BE.rfl' _
abbrev Qx := List Int × List Int × Option (Nat × (Nat → Int)) × Option Addr
/-- What holds of the lists while the steps of x0 are looked at: those of the first m letters, and of letter m to the first k states. -/
structure MidOk (a : List Int) (s : List (List (List Int))) (x0 : Int) (μ m k : Nat) (y : Qx) : Prop where
  ok : ReachOk (edF s) a.length s.length (mkE a) y.1 y.2.1
  mem : x0 ∈ y.1
  done : ∀ x ∈ y.1, x ∉ y.2.1 → x ≠ x0 → Done (edF s) a.length s.length y.1 x
  seen : ∀ m' i, m' < m → i < a.length → edF s m' i x0.toNat = true → (i : Int) ∈ y.1
  part : ∀ i, i < k → i < a.length → edF s m i x0.toNat = true → (i : Int) ∈ y.1
  le : 2 * (a.length - cntN (fun q => hasI y.1 q) a.length) + y.2.1.length < μ
  q : qOk y.2.1 y.2.2.1
theorem MidOk.skip {a : List Int} {s : List (List (List Int))} {x0 : Int} {μ m k : Nat} {y : Qx} (h : MidOk a s x0 μ m k y) (he : edF s m k x0.toNat = true → (k : Int) ∈ y.1) : MidOk a s x0 μ m (k + 1) y :=
  ⟨h.ok, h.mem, h.done, h.seen, fun i hi hia hE => by
    by_cases e : i = k
    · subst e; exact he hE
    · exact h.part i (by omega) hia hE, h.le, h.q⟩
theorem MidOk.next {a : List Int} {s : List (List (List Int))} {x0 : Int} {μ m : Nat} {y : Qx} (h : MidOk a s x0 μ m a.length y) : MidOk a s x0 μ (m + 1) 0 y :=
  ⟨h.ok, h.mem, h.done, fun m' i hm hi hE => by
    by_cases e : m' = m
    · subst e; exact h.part i hi hi hE
    · exact h.seen m' i (by omega) hi hE, fun i hi => by omega, h.le, h.q⟩
theorem MidOk.push {a : List Int} {s : List (List (List Int))} {x0 : Int} {μ m k : Nat} {out q : List Int} {al : Option (Nat × (Nat → Int))} {A : Option Addr} {al' : Option (Nat × (Nat → Int))} {A' : Option Addr} (h : MidOk a s x0 μ m k (out, q, al, A)) (hm : m < s.length) (hk : k < a.length) (he : edF s m k x0.toNat = true) (hno : (k : Int) ∉ out)
    (hq : qOk (q ++ [(k : Int)]) al') : MidOk a s x0 μ m (k + 1) (putI out k, q ++ [(k : Int)], al', A') := by
  have hp := h.ok.push h.mem hm hk he hno
  have hsub : ∀ x ∈ out, x ∈ putI out k := fun x hx => putI_mem.2 (.inr hx)
  have hlt := cntN_lt (f := fun q => hasI out q) (g := fun q => hasI (putI out k) q) (n := a.length) (q := k) (fun q hq h0 => hasI_iff.2 (hsub _ (hasI_iff.1 h0))) hk (hasI_no.2 hno) (hasI_iff.2 (putI_mem.2 (.inl rfl)))
  have hle := cntN_le (fun q => hasI (putI out k) q) a.length
  have hmu := h.le
  refine ⟨hp, hsub _ h.mem, fun x hx hxq hx0 => ?_, fun m' i h1 h2 h3 => hsub _ (h.seen m' i h1 h2 h3), fun i h1 h2 h3 => ?_, ?_, hq⟩
  · rcases putI_mem.1 hx with e | hx
    · exact absurd (by rw [e]; simp) hxq
    · exact (h.done x hx (fun h => hxq (by simp [h])) hx0).mono hsub
  · by_cases e : i = k
    · subst e; exact putI_mem.2 (.inl rfl)
    · exact hsub _ (h.part i (by omega) h2 h3)
  · show 2 * (a.length - cntN (fun q => hasI (putI out k) q) a.length) + (q ++ [(k : Int)]).length < μ
    rw [List.length_append, List.length_singleton]
    have hmu : 2 * (a.length - cntN (fun q => hasI out q) a.length) + q.length < μ := hmu
    omega
def reachE (a : List Int) (s : List (List (List Int))) : Res → Prop := fun r => ∃ out : List Int, (∀ q, q < a.length → hasI out q = rnd (edF s) a.length s.length a.length (mkE a) q) ∧ out.length ≤ a.length ∧ r = .one (.fr 1 out.length (bints out))
theorem reachE.shape {a : List Int} {s : List (List (List Int))} (r : Res) (h : reachE a s r) : r.shape 1 = true := by obtain ⟨out, _, _, rfl⟩ := h; rfl

/-- What waits for the next stage of a walk. -/
def HoldN (p : Prop) : Prop := p
theorem AWP.hold20 [Cx] {P : Program} {N : Nat} {ops : Array Oper} {b : Bool} {Q : Exit → ASt → Prop} {s : ASt} (h : HoldN (AWP N P (.region 20 ops b) Q s)) : AWP N P (.region 20 ops b) Q s := h

set_option maxHeartbeats 8000000 in
set_option maxRecDepth 20000 in
theorem auReach_E (a : List Int) (s : List (List (List Int))) (hq : SqA a.length s) : FnE Try.prog 134 [ints a, mats s] (reachE a s) := by
  obtain ⟨hL, hn, hM⟩ := hq
  refine FnE.of_body (fun N => [ints a, mats s]) (fun _ _ h => h) Try.call134 Try.func134 rfl Try.ntmps134 (ts := [4]) rfl (fun _ => by simp) (reachE.shape) (fun N => ?_)
  refine AWP.seq_cutR ⟨[(0, .one (.pv (ints a))), (1, .one (.pv (mats s)))], [], 74⟩ ?_ (AWP.seq_cutR ⟨[(0, .one (.pv (ints a))), (1, .one (.pv (mats s))), (5, sc (.slice none 0 0)), (6, sc (.slice none 0 0))], [], 74⟩ ?_ (AWP.virtual 5 3 1 rfl (AWP.virtual 6 3 1 rfl ?_)))
  · repeat' (first | (with_reducible first | refine then_normal ?_ | refine then_ret ?_ | refine then_exit ?_ | refine block_normal ?_ | refine block_ret ?_) | ((with_reducible show blockQ _ _ _ _); first | refine block_exit ?_ | refine block_exit_ne rfl ?_) | ((with_reducible show AWP _ _ _ _ _); first | (with_reducible first | refine AWP.seq ?_ | refine AWP.block ?_ | refine AWP.region ?_ | refine AWP.ret ?_ | refine AWP.exit ?_ | refine AWP.skip ?_) | refine AWP.drawn rfl (by kernel_rfl) ?_ | refine AWP.cond rfl ?_ ?_) | with_reducible refine ev_nil ?_ | ((first | ((with_reducible show evOps _ _ _ _ _ _); (first | refine ev_step rfl ?_ | refine ev_undef rfl rfl rfl ?_); intro K hK) | ((with_reducible show EvOpen _ _ _ _ _ _ _); refine ev_open ?_; intro K hK) | ((with_reducible show SkOpen _ _ _ _ _ _ _); refine sk_open ?_; intro K hK) | ((with_reducible show callK _ _ _ _ _ _ _ _); first | fail)); simp only [evOp, evQ, withS, opd, kput, putS, upd, slotsOf, Nat.reduceEqDiff, Nat.reduceLT, Nat.zero_add, ↓reduceIte, true_and]) | refine ev_guard rfl rfl rfl ?_ ?_ | ((with_reducible show retQ _ _ _ _); simp only [eq_self]) | (with_reducible refine hK _ ?_; clear hK K) | (with_reducible refine And.intro ?_ ?_) | (with_reducible intro hc; try simp only [eq_self] at hc) | omega)
    all_goals exact ⟨[], rfl, by decide, by simp [EntSR, SlR, VE, lookup, sc, VE.rfl'], trivial⟩
  · repeat' (first | (with_reducible first | refine then_normal ?_ | refine then_ret ?_ | refine then_exit ?_ | refine block_normal ?_ | refine block_ret ?_) | ((with_reducible show blockQ _ _ _ _); first | refine block_exit ?_ | refine block_exit_ne rfl ?_) | ((with_reducible show AWP _ _ _ _ _); first | (with_reducible first | refine AWP.seq ?_ | refine AWP.block ?_ | refine AWP.region ?_ | refine AWP.ret ?_ | refine AWP.exit ?_ | refine AWP.skip ?_) | refine AWP.drawn rfl (by kernel_rfl) ?_ | refine AWP.cond rfl ?_ ?_) | with_reducible refine ev_nil ?_ | ((first | ((with_reducible show evOps _ _ _ _ _ _); (first | refine ev_step rfl ?_ | refine ev_undef rfl rfl rfl ?_); intro K hK) | ((with_reducible show EvOpen _ _ _ _ _ _ _); refine ev_open ?_; intro K hK) | ((with_reducible show SkOpen _ _ _ _ _ _ _); refine sk_open ?_; intro K hK) | ((with_reducible show callK _ _ _ _ _ _ _ _); first | fail)); simp only [evOp, evQ, withS, opd, kput, putS, upd, Nat.reduceEqDiff, Nat.reduceLT, ↓reduceIte, true_and]) | refine ev_guard rfl rfl rfl ?_ ?_ | ((with_reducible show retQ _ _ _ _); simp only [eq_self]) | (with_reducible refine hK _ ?_; clear hK K) | (with_reducible refine And.intro ?_ ?_) | (with_reducible intro hc; try simp only [eq_self] at hc) | omega)
    all_goals exact ⟨[], rfl, by decide, by simp [EntSR, SlR, VE, lookup, sc, VE.rfl'], trivial⟩
  simp only [upd, List.nil_append, List.cons_append, List.length_cons, List.length_nil, Nat.reduceEqDiff, Nat.zero_add, ↓reduceIte, eq_self]
  repeat' (first | (with_reducible first | refine then_normal ?_ | refine then_ret ?_ | refine then_exit ?_ | refine block_normal ?_ | refine block_ret ?_) | ((with_reducible show blockQ _ _ _ _); first | refine block_exit ?_ | refine block_exit_ne rfl ?_) | ((with_reducible show AWP _ _ _ _ _); first | (with_reducible first | refine AWP.seq ?_ | refine AWP.block ?_ | refine AWP.region ?_ | refine AWP.ret ?_ | refine AWP.exit ?_ | refine AWP.skip ?_) | refine AWP.drawn rfl (by kernel_rfl) ?_ | refine AWP.cond rfl ?_ ?_) | with_reducible refine ev_nil ?_ | ((first | ((with_reducible show evOps _ _ _ _ _ _); (first | refine ev_step rfl ?_ | refine ev_undef rfl rfl rfl ?_); intro K hK) | ((with_reducible show EvOpen _ _ _ _ _ _ _); refine ev_open ?_; intro K hK) | ((with_reducible show SkOpen _ _ _ _ _ _ _); refine sk_open ?_; intro K hK) | ((with_reducible show callK _ _ _ _ _ _ _ _); first | fail)); simp only [evOp, evQ, evB, withS, opd, kput, putS, upd, lookup, sz_ints, Nat.reduceEqDiff, Nat.reduceLT, ↓reduceIte, eq_self, true_and, Option.isSome_some]) | refine ev_guard rfl rfl rfl ?_ ?_ | ((with_reducible show retQ _ _ _ _); simp only [eq_self]) | (with_reducible refine hK _ ?_; clear hK K) | (with_reducible refine And.intro ?_ ?_) | (with_reducible intro hc; try simp only [eq_self] at hc) | omega)
  all_goals try (exfalso; omega; done)
  refine AWP.loop_entR [0, 1] (fun k : Nat => ⟨[(1, .one (.pv (mats s))), (5, .one (.own 0 1 0 (initL a k).length)), (6, .one (.own 1 1 0 (initL a k).length)), (14, .one (.pv (ints a))), (15, sc (.int .i64 a.length)), (16, sc (.int .i64 k))], [some (bints (initL a k)), some (bints (initL a k))], 74⟩)
    (fun k => k ≤ a.length) (fun k => a.length - k) 0 (by omega) ?_ ?_
  · exact ⟨rfl, by decide, by simp [EntSR, SlR, VE, lookup, sc, VE.rfl', initL], ⟨rfl, Nat.le_refl _, fun i hi => by simp [bints, initL] at hi⟩, ⟨rfl, Nat.le_refl _, fun i hi => by simp [bints, initL] at hi⟩, trivial⟩
  intro k hk
  have hle := initL_le a k
  by_cases hkl : k < a.length
  · by_cases he : a.getD k 0 = 1000000000
    · have e1 : initL a (k + 1) = initL a k := by
        show (if mkE a k then _ else _ : List Int) = _
        rw [if_neg]; unfold mkE; rw [he]; decide
      repeat' (first | (with_reducible first | refine then_normal ?_ | refine then_ret ?_ | refine then_exit ?_ | refine block_normal ?_ | refine block_ret ?_) | ((with_reducible show blockQ _ _ _ _); first | refine block_exit ?_ | refine block_exit_ne rfl ?_) | ((with_reducible show AWP _ _ _ _ _); first | (with_reducible first | refine AWP.seq ?_ | refine AWP.block ?_ | refine AWP.region ?_ | refine AWP.ret ?_ | refine AWP.exit ?_ | refine AWP.skip ?_) | refine AWP.drawn rfl (by kernel_rfl) ?_ | refine AWP.cond rfl ?_ ?_) | with_reducible refine ev_nil ?_ | ((first | ((with_reducible show evOps _ _ _ _ _ _); (first | refine ev_step rfl ?_ | refine ev_undef rfl rfl rfl ?_); intro K hK) | ((with_reducible show EvOpen _ _ _ _ _ _ _); refine ev_open ?_; intro K hK) | ((with_reducible show SkOpen _ _ _ _ _ _ _); refine sk_open ?_; intro K hK) | ((with_reducible show callK _ _ _ _ _ _ _ _); first | fail)); simp only [evOp, evQ, binK, withS, opd, kput, putS, upd, lookup, InK_i64, appendK, srcK, growK, frz, newBlk, partsK, buildSliceK, plSlice, V.one, Value.oneCell', List.set_cons_zero, List.set_cons_succ, sz_ints, c_int, ei_ints, ea_ints, bints, List.getElem?_cons_zero, List.getElem?_cons_succ, List.nil_append, List.cons_append, List.length_cons, List.length_nil, Nat.reduceEqDiff, Nat.reduceAdd, Nat.reduceLT, Nat.reduceLeDiff, Nat.mul_one, Nat.add_zero, Nat.zero_add, Nat.mod_one, List.getD_cons_zero, ↓reduceIte, eq_self, true_and, Bool.false_eq_true, forall_const, implies_true, Int.toNat_natCast]) | refine ev_guard rfl rfl rfl ?_ ?_ | ((with_reducible show retQ _ _ _ _); simp only [eq_self]) | (with_reducible refine hK _ ?_; clear hK K) | (with_reducible refine And.intro ?_ ?_) | (with_reducible intro hc; try simp only [decide_eq_true_eq, decide_eq_false_iff_not, bne_iff_ne, bne_eq_false_iff_eq, Int.not_lt, ne_eq] at hc) | omega)
      all_goals first
        | (exfalso; omega)
        | (exfalso; exact (‹¬ a.getD k 0 = 1000000000›) he)
        | (refine ⟨k + 1, by omega, by omega, [0, 1], rfl, by decide, ?_, ?_⟩
           · simp [EntSR, SlR, VE, lookup, sc, VE.rfl', e1]
           · rw [e1]; exact ⟨BE.rfl' _, BE.rfl' _, trivial⟩)
        | trace_state
    · have e1 : initL a (k + 1) = initL a k ++ [(k : Int)] := by
        show (if mkE a k then _ else _ : List Int) = _
        rw [if_pos]; unfold mkE; simpa using he
      repeat' (first | (with_reducible first | refine then_normal ?_ | refine then_ret ?_ | refine then_exit ?_ | refine block_normal ?_ | refine block_ret ?_) | ((with_reducible show blockQ _ _ _ _); first | refine block_exit ?_ | refine block_exit_ne rfl ?_) | ((with_reducible show AWP _ _ _ _ _); first | (with_reducible first | refine AWP.seq ?_ | refine AWP.block ?_ | refine AWP.region ?_ | refine AWP.ret ?_ | refine AWP.exit ?_ | refine AWP.skip ?_) | refine AWP.drawn rfl (by kernel_rfl) ?_ | refine AWP.cond rfl ?_ ?_) | with_reducible refine ev_nil ?_ | ((first | ((with_reducible show evOps _ _ _ _ _ _); (first | refine ev_step rfl ?_ | refine ev_undef rfl rfl rfl ?_); intro K hK) | ((with_reducible show EvOpen _ _ _ _ _ _ _); refine ev_open ?_; intro K hK) | ((with_reducible show SkOpen _ _ _ _ _ _ _); refine sk_open ?_; intro K hK) | ((with_reducible show callK _ _ _ _ _ _ _ _); first | fail)); simp only [evOp, evQ, binK, withS, opd, kput, putS, upd, lookup, InK_i64, appendK, srcK, growK, frz, newBlk, partsK, buildSliceK, plSlice, V.one, Value.oneCell', List.set_cons_zero, List.set_cons_succ, sz_ints, c_int, ei_ints, ea_ints, bints, List.getElem?_cons_zero, List.getElem?_cons_succ, List.nil_append, List.cons_append, List.length_cons, List.length_nil, Nat.reduceEqDiff, Nat.reduceAdd, Nat.reduceLT, Nat.reduceLeDiff, Nat.mul_one, Nat.add_zero, Nat.zero_add, Nat.mod_one, List.getD_cons_zero, ↓reduceIte, eq_self, true_and, Bool.false_eq_true, forall_const, implies_true, Int.toNat_natCast]) | refine ev_guard rfl rfl rfl ?_ ?_ | ((with_reducible show retQ _ _ _ _); simp only [eq_self]) | (with_reducible refine hK _ ?_; clear hK K) | (with_reducible refine And.intro ?_ ?_) | (with_reducible intro hc; try simp only [decide_eq_true_eq, decide_eq_false_iff_not, bne_iff_ne, bne_eq_false_iff_eq, Int.not_lt, ne_eq] at hc) | omega)
      all_goals first
        | (exfalso; omega)
        | (exfalso; exact he ‹_›)
        | (rename_i q; obtain rfl : q = 0 := (by omega); rfl)
        | omega
        | rfl
        | (refine ⟨k + 1, by omega, by omega, [3, 5], rfl, by decide, ?_, ?_⟩
           · simp [EntSR, SlR, VE, lookup, sc, VE.rfl', e1]
           · rw [e1]; exact ⟨app_be, app_be, trivial⟩)
        | trace_state
  · obtain rfl : k = a.length := by omega
    repeat' (first | (with_reducible first | refine then_normal ?_ | refine then_ret ?_ | refine then_exit ?_ | refine block_normal ?_ | refine block_ret ?_) | ((with_reducible show blockQ _ _ _ _); first | refine block_exit ?_ | refine block_exit_ne rfl ?_) | ((with_reducible show AWP _ _ _ _ _); first | (with_reducible first | refine AWP.seq ?_ | refine AWP.block ?_ | refine AWP.region ?_ | refine AWP.ret ?_ | refine AWP.exit ?_ | refine AWP.skip ?_) | refine AWP.drawn rfl (by kernel_rfl) ?_ | refine AWP.cond rfl ?_ ?_) | with_reducible refine ev_nil ?_ | ((first | ((with_reducible show evOps _ _ _ _ _ _); (first | refine ev_step rfl ?_ | refine ev_undef rfl rfl rfl ?_); intro K hK) | ((with_reducible show EvOpen _ _ _ _ _ _ _); refine ev_open ?_; intro K hK) | ((with_reducible show SkOpen _ _ _ _ _ _ _); refine sk_open ?_; intro K hK) | ((with_reducible show callK _ _ _ _ _ _ _ _); first | fail)); simp only [evOp, evQ, binK, withS, opd, kput, putS, upd, lookup, InK_i64, appendK, srcK, growK, frz, newBlk, partsK, buildSliceK, plSlice, V.one, Value.oneCell', List.set_cons_zero, List.set_cons_succ, sz_ints, c_int, ei_ints, ea_ints, bints, List.getElem?_cons_zero, List.getElem?_cons_succ, List.nil_append, List.cons_append, List.length_cons, List.length_nil, Nat.reduceEqDiff, Nat.reduceAdd, Nat.reduceLT, Nat.reduceLeDiff, Nat.mul_one, Nat.add_zero, Nat.zero_add, Nat.mod_one, List.getD_cons_zero, ↓reduceIte, eq_self, true_and, Bool.false_eq_true, forall_const, implies_true, Int.toNat_natCast]) | refine ev_guard rfl rfl rfl ?_ ?_ | ((with_reducible show retQ _ _ _ _); simp only [eq_self]) | (with_reducible refine hK _ ?_; clear hK K) | (with_reducible refine And.intro ?_ ?_) | (with_reducible intro hc; try simp only [decide_eq_true_eq, decide_eq_false_iff_not, bne_iff_ne, bne_eq_false_iff_eq, Int.not_lt, ne_eq] at hc) | omega)
    all_goals try (exfalso; omega; done)
    refine AWP.loop_entR [0, 1] (fun x : Qx => ⟨[(1, .one (.pv (mats s))), (5, .one (.own 0 1 0 x.1.length)), (6, qS x.2.1 x.2.2.1 x.2.2.2)], [some (bints x.1), qB x.2.1 x.2.2.1], 74⟩)
      (fun x => ReachOk (edF s) a.length s.length (mkE a) x.1 x.2.1 ∧ (∀ y ∈ x.1, y ∉ x.2.1 → Done (edF s) a.length s.length x.1 y) ∧ qOk x.2.1 x.2.2.1) (fun x => 2 * (a.length - cntN (fun q => hasI x.1 q) a.length) + x.2.1.length)
      (initL a a.length, initL a a.length, some (0, fun i => (initL a a.length).getD i 0), none) ⟨initL_ok, fun y h1 h2 => absurd h1 h2, fun h => (nomatch h), fun off g h i hi => by cases h; rw [Nat.zero_add]⟩ ?_ ?_
    · refine ⟨rfl, by decide, by simp [EntSR, SlR, VE, lookup, sc, VE.rfl', qS], BE.rfl' _, ⟨rfl, Nat.le_of_eq (by simp [bints]), fun i hi => VE.rfl' _⟩, trivial⟩
    clear hk hkl hle
    rintro ⟨out, q, al, A⟩ ⟨hR, hD, hQ⟩
    dsimp only at hR hD hQ
    have hle := hR.le
    have hol := hR.olen
    rcases al with _ | ⟨off, g⟩
    · obtain rfl : q = [] := hQ.1 rfl
      show AWP _ _ _ _ ⟨[(1, .one (.pv (mats s))), (5, .one (.own 0 1 0 out.length)), (6, sc (.slice A 0 0))], [some (bints out), none], 74⟩
      repeat' (first | ((with_reducible show Ax _ _ _ _ _); (refine ax_lenD rfl (by simp [sz_ints]) (Nat.le_of_ble_eq_true rfl) ?_ ; simp only [putS, upd, bints, List.length_nil, Nat.reduceEqDiff, Nat.add_zero, ↓reduceIte])) | ((with_reducible show evNx _ _ _ _ _ _); first | (with_reducible refine nx_done ?_) | (refine nx_one rfl ?_) | (refine nx_alt rfl ?_ ?_) | (with_reducible refine nx_st ?_)) | ((with_reducible show evSx _ _ _ _ _ _); first | (with_reducible refine sx_done ?_) | (with_reducible refine sx_st ?_) | (with_reducible refine sx_op ?_)) | ((with_reducible show evTake _ _ _ _ _); with_reducible refine take_nil ?_) | ((with_reducible show evSy _ _ _ _ _ _ _); first | (with_reducible refine sy_done ?_) | (refine sy_last rfl ?_) | (refine sy_one (by decide) rfl ?_) | (refine sy_alt (by decide) rfl ?_ ?_) | (with_reducible refine sy_st ?_)) | ((with_reducible show StK _ _ _); first | fail) | (with_reducible first | refine then_normal ?_ | refine then_ret ?_ | refine then_exit ?_ | refine block_normal ?_ | refine block_ret ?_) | ((with_reducible show blockQ _ _ _ _); first | refine block_exit ?_ | refine block_exit_ne rfl ?_) | ((with_reducible show AWP _ _ _ _ _); first | (refine AWP.region_sx (id := 9) [.op, .op, .op] ?_) | (with_reducible first | refine AWP.seq ?_ | refine AWP.block ?_ | refine AWP.region ?_ | refine AWP.ret ?_ | refine AWP.exit ?_ | refine AWP.skip ?_) | refine AWP.drawn rfl (by kernel_rfl) ?_ | refine AWP.cond rfl ?_ ?_) | with_reducible refine ev_nil ?_ | ((first | ((with_reducible show evNx _ _ _ _ _ _); refine nx_take rfl ?_; intro K hK) | ((with_reducible show Ax _ _ _ _ _); first | (refine ax_op rfl ?_; intro K hK)) | ((with_reducible show evTake _ _ _ _ _); refine take_step rfl ?_; intro K hK) | ((with_reducible show evSy _ _ _ _ _ _ _); refine sy_take rfl ?_; intro K hK) | ((with_reducible show AxB _ _ _ _ _); first | (refine axb_op rfl rfl ?_; intro K hK)) | ((with_reducible show evOps _ _ _ _ _ _); (first | refine ev_step rfl ?_ | refine ev_undef rfl rfl rfl ?_); intro K hK) | ((with_reducible show EvOpen _ _ _ _ _ _ _); refine ev_open ?_; intro K hK) | ((with_reducible show SkOpen _ _ _ _ _ _ _); refine sk_open ?_; intro K hK) | ((with_reducible show callK _ _ _ _ _ _ _ _); first  | fail)); simp only [evOp, evQ, binK, withS, opd, kput, putS, upd, lookup, bints, Nat.reduceEqDiff, Nat.reduceLT, ↓reduceIte, eq_self, true_and]) | refine ev_guard rfl rfl rfl ?_ ?_ | ((with_reducible show retQ _ _ _ _); simp only [eq_self]) | (with_reducible refine hK _ ?_; clear hK K) | (with_reducible refine And.intro ?_ ?_) | (with_reducible intro hc; try simp only [decide_eq_true_eq, decide_eq_false_iff_not, Int.not_lt, gt_iff_lt] at hc) | omega)
      all_goals try (exfalso; omega; done)
      all_goals
        refine ⟨_, ⟨out, fun q hq => hR.all (fun x hx => hD x hx (by simp)) q hq, hle, rfl⟩, ⟨fun i hi => trivial, trivial⟩, ?_⟩
        simp only [retOk, getL, lookup, Option.map_some, fitsL, fits, ND, srcs, Res.list, List.getElem?_cons_zero, Nat.reduceEqDiff, ↓reduceIte, and_true, true_and]
        exact ⟨⟨_, rfl, BE.rfl' _⟩, by simp⟩
    · cases q with
      | nil =>
        show AWP _ _ _ _ ⟨[(1, .one (.pv (mats s))), (5, .one (.own 0 1 0 out.length)), (6, .one (.own 1 1 off 0))], [some (bints out), some ⟨3, off + 0, fun i => vi (g i)⟩], 74⟩
        repeat' (first | (with_reducible first | refine then_normal ?_ | refine then_ret ?_ | refine then_exit ?_ | refine block_normal ?_ | refine block_ret ?_) | ((with_reducible show blockQ _ _ _ _); first | refine block_exit ?_ | refine block_exit_ne rfl ?_) | ((with_reducible show AWP _ _ _ _ _); first | (with_reducible first | refine AWP.seq ?_ | refine AWP.block ?_ | refine AWP.region ?_ | refine AWP.ret ?_ | refine AWP.exit ?_ | refine AWP.skip ?_) | refine AWP.drawn rfl (by kernel_rfl) ?_ | refine AWP.cond rfl ?_ ?_) | with_reducible refine ev_nil ?_ | ((first | ((with_reducible show evOps _ _ _ _ _ _); (first | refine ev_step rfl ?_ | refine ev_undef rfl rfl rfl ?_); intro K hK) | ((with_reducible show EvOpen _ _ _ _ _ _ _); refine ev_open ?_; intro K hK) | ((with_reducible show SkOpen _ _ _ _ _ _ _); refine sk_open ?_; intro K hK) | ((with_reducible show callK _ _ _ _ _ _ _ _); first | fail)); simp only [evOp, evQ, evB, binK, withS, opd, kput, putS, upd, lookup, loadOwn, cutK, boundK, sz_ints, c_int, bints, Nat.zero_le, sz_mats, List.getElem?_cons_zero, List.getElem?_cons_succ, Nat.reduceEqDiff, Nat.reduceLT, Nat.mul_one, Nat.add_zero, ↓reduceIte, eq_self, true_and, Int.toNat_zero, Option.isSome_some]) | refine ev_guard rfl rfl rfl ?_ ?_ | ((with_reducible show retQ _ _ _ _); simp only [eq_self]) | (with_reducible refine hK _ ?_; clear hK K) | (with_reducible refine And.intro ?_ ?_) | (with_reducible intro hc; try simp only [decide_eq_true_eq, decide_eq_false_iff_not, Int.not_lt, gt_iff_lt] at hc) | omega)
        all_goals try (exfalso; omega; done)
        all_goals
          refine ⟨_, ⟨out, fun q hq => hR.all (fun x hx => hD x hx (by simp)) q hq, hle, rfl⟩, ⟨fun i hi => trivial, trivial⟩, ?_⟩
          simp only [retOk, getL, lookup, Option.map_some, fitsL, fits, ND, srcs, Res.list, List.getElem?_cons_zero, Nat.reduceEqDiff, ↓reduceIte, and_true, true_and]
          exact ⟨⟨_, rfl, BE.rfl' _⟩, by simp⟩
      | cons x0 q =>
        have hg0 : g (off + 0) = x0 := hQ.2 off g rfl 0 (by simp)
        have hgi : ∀ i, i < q.length → g (off + 1 + i) = q.getD i 0 := fun i hi => by
          have := hQ.2 off g rfl (i + 1) (by simpa using hi)
          rw [show off + (i + 1) = off + 1 + i by omega] at this
          simpa using this
        rw [Nat.add_zero] at hg0
        have hx0 : x0 ∈ out := hR.sub x0 (by simp)
        have hxb := hR.bnd x0 hx0
        generalize hμ : 2 * (a.length - cntN (fun q => hasI out q) a.length) + (x0 :: q).length = μ
        have hmu : 2 * (a.length - cntN (fun q => hasI out q) a.length) + q.length < μ := by rw [← hμ]; simp
        have hK : ∀ al A, qOk q al → MidOk a s x0 μ 0 0 (out, q, al, A) := fun al A hq => ⟨hR.pop, hx0, fun x h1 h2 h3 => hD x h1 (by simp [h2, h3]), fun m' i h => by omega, fun i h => by omega, hmu, hq⟩
        have hlen : (x0 :: q).length = q.length + 1 := rfl
        show AWP _ _ _ _ ⟨[(1, .one (.pv (mats s))), (5, .one (.own 0 1 0 out.length)), (6, .one (.own 1 1 off (q.length + 1)))], [some (bints out), some ⟨3, off + (q.length + 1), fun i => vi (g i)⟩], 74⟩
        clear hQ hD hμ
        repeat' (first | ((with_reducible show False) ; trivial) | ((with_reducible show Ax _ _ _ _ _); (refine ax_cutO rfl sz_ints (by omega) (Nat.le_of_ble_eq_true rfl) ?_ ?_ ; all_goals (try intro hq1 A1) ; all_goals simp only [putS, upd, bints, Nat.reduceEqDiff, ↓reduceIte])) | ((with_reducible show evNx _ _ _ _ _ _); first | (with_reducible refine nx_done ?_) | (refine nx_one rfl ?_) | (refine nx_alt rfl ?_ ?_) | (with_reducible refine nx_st ?_)) | ((with_reducible show evSx _ _ _ _ _ _); first | (with_reducible refine sx_done ?_) | (with_reducible refine sx_st ?_) | (with_reducible refine sx_op ?_)) | ((with_reducible show evTake _ _ _ _ _); with_reducible refine take_nil ?_) | ((with_reducible show evSy _ _ _ _ _ _ _); first | (with_reducible refine sy_done ?_) | (refine sy_last rfl ?_) | (refine sy_one (by decide) rfl ?_) | (refine sy_alt (by decide) rfl ?_ ?_) | (with_reducible refine sy_st ?_)) | ((with_reducible show StK _ _ _); first | fail) | (with_reducible first | refine then_normal ?_ | refine then_ret ?_ | refine then_exit ?_ | refine block_normal ?_ | refine block_ret ?_) | ((with_reducible show blockQ _ _ _ _); first | refine block_exit ?_ | refine block_exit_ne rfl ?_) | ((with_reducible show AWP _ _ _ _ _); first | (refine AWP.seq_cutXr (id := 11) (fun y : Qx => ⟨[(1, .one (.pv (mats s))), (5, .one (.own 0 1 0 y.1.length)), (6, qS y.2.1 y.2.2.1 y.2.2.2), (9, sc (.int .i64 x0))], [some (bints y.1), qB y.2.1 y.2.2.1], 74⟩) (fun y => MidOk a s x0 μ 0 0 y) ?_ ?_) | (refine AWP.region_sx (id := 11) [.op, .op, .op] ?_) | (with_reducible first | refine AWP.seq ?_ | refine AWP.block ?_ | refine AWP.region ?_ | refine AWP.ret ?_ | refine AWP.exit ?_ | refine AWP.skip ?_) | refine AWP.drawn rfl (by kernel_rfl) ?_ | refine AWP.cond rfl ?_ ?_) | with_reducible refine ev_nil ?_ | ((first | ((with_reducible show evNx _ _ _ _ _ _); refine nx_take rfl ?_; intro K hK) | ((with_reducible show Ax _ _ _ _ _); first | (refine ax_op rfl ?_; intro K hK)) | ((with_reducible show evTake _ _ _ _ _); refine take_step rfl ?_; intro K hK) | ((with_reducible show evSy _ _ _ _ _ _ _); refine sy_take rfl ?_; intro K hK) | ((with_reducible show AxB _ _ _ _ _); first | (refine axb_op rfl rfl ?_; intro K hK)) | ((with_reducible show evOps _ _ _ _ _ _); (first | refine ev_step rfl ?_ | refine ev_undef rfl rfl rfl ?_); intro K hK) | ((with_reducible show EvOpen _ _ _ _ _ _ _); refine ev_open ?_; intro K hK) | ((with_reducible show SkOpen _ _ _ _ _ _ _); refine sk_open ?_; intro K hK) | ((with_reducible show callK _ _ _ _ _ _ _ _); first  | fail)); simp only [evOp, evQ, evB, binK, withS, opd, kput, putS, upd, lookup, loadOwn, sz_ints, c_int, bints, List.getElem?_cons_zero, List.getElem?_cons_succ, Nat.reduceEqDiff, Nat.reduceLT, Nat.mul_one, Nat.add_zero, ↓reduceIte, eq_self, true_and, Int.toNat_zero, Option.isSome_some]) | refine ev_guard rfl rfl rfl ?_ ?_ | ((with_reducible show retQ _ _ _ _); simp only [eq_self]) | (with_reducible refine hK _ ?_; clear hK K) | (with_reducible refine And.intro ?_ ?_) | (with_reducible intro hc; try simp only [decide_eq_true_eq, decide_eq_false_iff_not, Int.not_lt, gt_iff_lt] at hc) | omega)
        all_goals try (exfalso; omega; done)
        · refine ⟨(out, q, some (off + 1, g), none), hK _ _ ⟨fun h => (nomatch h), fun off' g' h i hi => by cases h; exact hgi i hi⟩, [0, 1], rfl, by decide, by simp [EntSR, SlR, VE, lookup, sc, VE.rfl', qS, hg0], BE.rfl' _, ⟨rfl, by show off + 1 + q.length ≤ off + (q.length + 1); omega, fun i hi => VE.rfl' _⟩, trivial⟩
        · refine ⟨(out, q, none, A1), hK none A1 ⟨fun _ => List.eq_nil_of_length_eq_zero (by omega), fun off g h => (nomatch h)⟩, [0, 1], rfl, by decide, by simp [EntSR, SlR, VE, lookup, sc, VE.rfl', qS, hg0], BE.rfl' _, trivial⟩
        · unfold Later
          clear hK hmu hgi hg0 hR hol hle hx0
          rintro ⟨out, q, al, A⟩ hK
          dsimp only
          repeat' (first | (with_reducible first | refine then_normal ?_ | refine then_ret ?_ | refine then_exit ?_ | refine block_normal ?_ | refine block_ret ?_) | ((with_reducible show blockQ _ _ _ _); first | refine block_exit ?_ | refine block_exit_ne rfl ?_) | ((with_reducible show AWP _ _ _ _ _); first | (with_reducible first | refine AWP.seq ?_ | refine AWP.block ?_ | refine AWP.region ?_ | refine AWP.ret ?_ | refine AWP.exit ?_ | refine AWP.skip ?_) | refine AWP.drawn rfl (by kernel_rfl) ?_ | refine AWP.cond rfl ?_ ?_) | with_reducible refine ev_nil ?_ | ((first | ((with_reducible show evOps _ _ _ _ _ _); (first | refine ev_step rfl ?_ | refine ev_undef rfl rfl rfl ?_); intro K hK) | ((with_reducible show EvOpen _ _ _ _ _ _ _); refine ev_open ?_; intro K hK) | ((with_reducible show SkOpen _ _ _ _ _ _ _); refine sk_open ?_; intro K hK) | ((with_reducible show callK _ _ _ _ _ _ _ _); first | fail)); simp only [evOp, evQ, evB, withS, opd, kput, putS, upd, lookup, bints, sz_mats, Nat.reduceEqDiff, Nat.reduceLT, ↓reduceIte, eq_self, true_and, Option.isSome_some]) | refine ev_guard rfl rfl rfl ?_ ?_ | ((with_reducible show retQ _ _ _ _); simp only [eq_self]) | (with_reducible refine hK _ ?_; clear hK K) | (with_reducible refine And.intro ?_ ?_) | (with_reducible intro hc; try simp only [eq_self] at hc) | omega)
          all_goals try (exfalso; omega; done)
          refine AWP.loop_entR [0, 1] (fun x : Nat × Qx => ⟨[(1, .one (.pv (mats s))), (5, .one (.own 0 1 0 x.2.1.length)), (6, qS x.2.2.1 x.2.2.2.1 x.2.2.2.2), (9, sc (.int .i64 x0)), (40, .one (.pv (mats s))), (41, sc (.int .i64 s.length)), (42, sc (.int .i64 x.1))], [some (bints x.2.1), qB x.2.2.1 x.2.2.2.1], 74⟩)
            (fun x => x.1 ≤ s.length ∧ MidOk a s x0 μ x.1 0 x.2) (fun x => s.length - x.1) (0, out, q, al, A) ⟨by omega, hK⟩ ?_ ?_
          · exact ⟨rfl, by decide, ⟨VE.rfl' _, ⟨rfl, rfl, rfl, rfl⟩, slR_q, rfl, VE.rfl' _, rfl, rfl, trivial⟩, entHR_q rfl (BE.rfl' _) rfl⟩
          rintro ⟨m, out, q, al, A⟩ ⟨hm, hK⟩
          have hm : m ≤ s.length := hm
          have hK : MidOk a s x0 μ m 0 (out, q, al, A) := hK
          dsimp only
          by_cases hml : m < s.length
          · obtain ⟨hM1, hM2⟩ := hM m hml
            have hrow := hM2 x0.toNat (by omega)
            repeat' (first | (with_reducible first | refine then_normal ?_ | refine then_ret ?_ | refine then_exit ?_ | refine block_normal ?_ | refine block_ret ?_) | ((with_reducible show blockQ _ _ _ _); first | refine block_exit ?_ | refine block_exit_ne rfl ?_) | ((with_reducible show AWP _ _ _ _ _); first | (with_reducible first | refine AWP.seq ?_ | refine AWP.block ?_ | refine AWP.region ?_ | refine AWP.ret ?_ | refine AWP.exit ?_ | refine AWP.skip ?_) | refine AWP.drawn rfl (by kernel_rfl) ?_ | refine AWP.cond rfl ?_ ?_) | with_reducible refine ev_nil ?_ | ((first | ((with_reducible show evOps _ _ _ _ _ _); (first | refine ev_step rfl ?_ | refine ev_undef rfl rfl rfl ?_); intro K hK) | ((with_reducible show EvOpen _ _ _ _ _ _ _); refine ev_open ?_; intro K hK) | ((with_reducible show SkOpen _ _ _ _ _ _ _); refine sk_open ?_; intro K hK) | ((with_reducible show callK _ _ _ _ _ _ _ _); first | fail)); simp only [evOp, evQ, evB, binK, withS, opd, kput, putS, upd, lookup, sz_ints, bints, sz_rows, c_ints, c_rows, sz_mats, Nat.reduceEqDiff, Nat.reduceLT, Nat.mul_one, Nat.add_zero, ↓reduceIte, eq_self, true_and, Int.toNat_natCast, Option.isSome_some]) | refine ev_guard rfl rfl rfl ?_ ?_ | ((with_reducible show retQ _ _ _ _); simp only [eq_self]) | (with_reducible refine hK _ ?_; clear hK K) | (with_reducible refine And.intro ?_ ?_) | (with_reducible intro hc; try simp only [decide_eq_true_eq, decide_eq_false_iff_not, Int.not_lt] at hc) | omega)
            all_goals try (exfalso; omega; done)
            refine AWP.loop_entR [0, 1] (fun x : Nat × Qx => ⟨[(1, .one (.pv (mats s))), (5, .one (.own 0 1 0 x.2.1.length)), (6, qS x.2.2.1 x.2.2.2.1 x.2.2.2.2), (9, sc (.int .i64 x0)), (40, .one (.pv (mats s))), (41, sc (.int .i64 s.length)), (42, sc (.int .i64 m)), (49, .one (.pv (ints (rowAt (matAt s m) x0.toNat)))), (50, sc (.int .i64 a.length)), (51, sc (.int .i64 x.1))], [some (bints x.2.1), qB x.2.2.1 x.2.2.2.1], 74⟩)
              (fun x => x.1 ≤ a.length ∧ MidOk a s x0 μ m x.1 x.2) (fun x => a.length - x.1) (0, out, q, al, A) ⟨by omega, hK⟩ ?_ ?_
            · exact ⟨rfl, by decide, ⟨VE.rfl' _, ⟨rfl, rfl, rfl, rfl⟩, slR_q, rfl, VE.rfl' _, rfl, rfl, VE.rfl' _, by show Value.int .i64 _ = Value.int .i64 _; rw [hrow], rfl, trivial⟩, entHR_q rfl (BE.rfl' _) rfl⟩
            rintro ⟨k, out, q, al, A⟩ ⟨hk, hK⟩
            have hk : k ≤ a.length := hk
            have hK : MidOk a s x0 μ m k (out, q, al, A) := hK
            dsimp only
            have hle := hK.ok.le
            have hol := hK.ok.olen
            have hQ := hK.q
            dsimp only at hle hol hQ
            by_cases hkl : k < a.length
            · by_cases hinf : (rowAt (matAt s m) x0.toNat).getD k 0 = 1000000000
              · have he : edF s m k x0.toNat = false := by unfold edF entA; rw [hinf]; decide
                have hK2 := hK.skip (fun h => by rw [he] at h; cases h)
                repeat' (first | (with_reducible first | refine then_normal ?_ | refine then_ret ?_ | refine then_exit ?_ | refine block_normal ?_ | refine block_ret ?_) | ((with_reducible show blockQ _ _ _ _); first | refine block_exit ?_ | refine block_exit_ne rfl ?_) | ((with_reducible show AWP _ _ _ _ _); first | (with_reducible first | refine AWP.seq ?_ | refine AWP.block ?_ | refine AWP.region ?_ | refine AWP.ret ?_ | refine AWP.exit ?_ | refine AWP.skip ?_) | refine AWP.drawn rfl (by kernel_rfl) ?_ | refine AWP.cond rfl ?_ ?_) | with_reducible refine ev_nil ?_ | ((first | ((with_reducible show evOps _ _ _ _ _ _); (first | refine ev_step rfl ?_ | refine ev_undef rfl rfl rfl ?_); intro K hK) | ((with_reducible show EvOpen _ _ _ _ _ _ _); refine ev_open ?_; intro K hK) | ((with_reducible show SkOpen _ _ _ _ _ _ _); refine sk_open ?_; intro K hK) | ((with_reducible show callK _ _ _ _ _ _ _ _); first | fail)); simp only [evOp, evQ, binK, withS, opd, kput, putS, upd, lookup, skipOp, argsK, InK_i64, sz_ints, c_int, bints, List.getElem?_cons_zero, List.reverse_cons, List.reverse_nil, List.nil_append, List.cons_append, Nat.reduceEqDiff, Nat.reduceLT, Nat.mul_one, Nat.add_zero, Nat.zero_add, ↓reduceIte, eq_self, true_and, Bool.not_true, Bool.false_eq_true, false_implies, forall_const, Int.toNat_natCast]) | refine ev_guard rfl rfl rfl ?_ ?_ | ((with_reducible show retQ _ _ _ _); simp only [eq_self]) | (with_reducible refine hK _ ?_; clear hK K) | (with_reducible refine And.intro ?_ ?_) | (with_reducible intro hc; try simp only [decide_eq_true_eq, decide_eq_false_iff_not, bne_iff_ne, bne_eq_false_iff_eq, Bool.not_true, Int.not_lt, ne_eq, reduceCtorEq, Bool.true_eq_false] at hc) | omega)
                all_goals first
                  | (exfalso; omega)
                  | (exfalso; exact (‹¬ (rowAt (matAt s m) x0.toNat).getD k 0 = 1000000000›) hinf)
                  | exact ⟨(k + 1, out, q, al, A), ⟨by show k + 1 ≤ a.length; omega, hK2⟩, by show a.length - (k + 1) < a.length - k; omega, [0, 1], rfl, by decide, ⟨VE.rfl' _, ⟨rfl, rfl, rfl, rfl⟩, slR_q, rfl, VE.rfl' _, rfl, rfl, VE.rfl' _, rfl, rfl, trivial⟩, entHR_q rfl (BE.rfl' _) rfl⟩
                  | trace_state
              · have he : edF s m k x0.toNat = true := by unfold edF entA; simpa using hinf
                have hhas := l1Has_fn out k (by omega)
                cases hb : hasI out k with
                | true =>
                  rw [hb] at hhas
                  have hK2 := hK.skip (fun h => hasI_iff.1 hb)
                  repeat' (first | (with_reducible first | refine then_normal ?_ | refine then_ret ?_ | refine then_exit ?_ | refine block_normal ?_ | refine block_ret ?_) | ((with_reducible show blockQ _ _ _ _); first | refine block_exit ?_ | refine block_exit_ne rfl ?_) | ((with_reducible show AWP _ _ _ _ _); first | (with_reducible first | refine AWP.seq ?_ | refine AWP.block ?_ | refine AWP.region ?_ | refine AWP.ret ?_ | refine AWP.exit ?_ | refine AWP.skip ?_) | refine AWP.drawn rfl (by kernel_rfl) ?_ | refine AWP.cond rfl ?_ ?_) | with_reducible refine ev_nil ?_ | ((first | ((with_reducible show evOps _ _ _ _ _ _); (first | refine ev_step rfl ?_ | refine ev_undef rfl rfl rfl ?_); intro K hK) | ((with_reducible show EvOpen _ _ _ _ _ _ _); refine ev_open ?_; intro K hK) | ((with_reducible show SkOpen _ _ _ _ _ _ _); refine sk_open ?_; intro K hK) | ((with_reducible show callK _ _ _ _ _ _ _ _); first  | (refine call_scalar (hhas) (Nat.le_of_ble_eq_true rfl) rfl ?_))); simp only [evOp, evQ, binK, withS, opd, kput, putS, upd, lookup, skipOp, argsK, bringIn, bring, Res.list, Res.slot, InK_i64, sz_ints, c_int, bints, List.getElem?_cons_zero, List.reverse_cons, List.reverse_nil, List.nil_append, List.cons_append, Nat.reduceEqDiff, Nat.reduceLT, Nat.mul_one, Nat.add_zero, Nat.zero_add, ↓reduceIte, eq_self, true_and, and_true, Bool.not_true, Bool.true_eq_false, Bool.false_eq_true, false_implies, forall_const, Int.toNat_natCast]) | refine ev_guard rfl rfl rfl ?_ ?_ | ((with_reducible show retQ _ _ _ _); simp only [eq_self]) | (with_reducible refine hK _ ?_; clear hK K) | (with_reducible refine And.intro ?_ ?_) | (with_reducible intro hc; try simp only [decide_eq_true_eq, decide_eq_false_iff_not, bne_iff_ne, bne_eq_false_iff_eq, Bool.not_true, Int.not_lt, ne_eq, reduceCtorEq, Bool.true_eq_false] at hc) | omega)
                  all_goals first
                    | (exfalso; omega)
                    | (exfalso; exact hinf ‹_›)
                    | exact ⟨(k + 1, out, q, al, A), ⟨by show k + 1 ≤ a.length; omega, hK2⟩, by show a.length - (k + 1) < a.length - k; omega, [0, 1], rfl, by decide, ⟨VE.rfl' _, ⟨rfl, rfl, rfl, rfl⟩, slR_q, rfl, VE.rfl' _, rfl, rfl, VE.rfl' _, rfl, rfl, trivial⟩, entHR_q rfl (BE.rfl' _) rfl⟩
                    | trace_state
                | false =>
                  rw [hb] at hhas
                  have hno := hasI_no.1 hb
                  have hput := l1Put_fn out k (by omega) hno
                  repeat' (first | ((with_reducible show False) ; trivial) | (with_reducible first | refine then_normal ?_ | refine then_ret ?_ | refine then_exit ?_ | refine block_normal ?_ | refine block_ret ?_) | ((with_reducible show blockQ _ _ _ _); first | refine block_exit ?_ | refine block_exit_ne rfl ?_) | ((with_reducible show AWP _ _ _ _ _); first | (refine AWP.hold20 ?_) | (with_reducible first | refine AWP.seq ?_ | refine AWP.block ?_ | refine AWP.region ?_ | refine AWP.ret ?_ | refine AWP.exit ?_ | refine AWP.skip ?_) | refine AWP.drawn rfl (by kernel_rfl) ?_ | refine AWP.cond rfl ?_ ?_) | with_reducible refine ev_nil ?_ | ((first | ((with_reducible show evOps _ _ _ _ _ _); (first | refine ev_step rfl ?_ | refine ev_undef rfl rfl rfl ?_); intro K hK) | ((with_reducible show EvOpen _ _ _ _ _ _ _); refine ev_open ?_; intro K hK) | ((with_reducible show SkOpen _ _ _ _ _ _ _); refine sk_open ?_; intro K hK) | ((with_reducible show callK _ _ _ _ _ _ _ _); first  | (refine call_scalar (hhas) (Nat.le_of_ble_eq_true rfl) rfl ?_) | (refine call_safe ( hput) (Nat.le_of_ble_eq_true rfl) (by repeat' (first | ((with_reducible show False) ; trivial) | exact trivial | refine ⟨fun _ _ => ⟨_, rfl⟩, ?_⟩)) ?_))); simp only [evOp, evQ, binK, withS, opd, kput, putS, upd, lookup, skipOp, argsK, bringIn, bring, Res.list, Res.slot, InK_i64, sz_ints, c_int, bints, List.getElem?_cons_zero, List.reverse_cons, List.reverse_nil, List.nil_append, List.cons_append, List.length_cons, List.length_nil, Nat.reduceEqDiff, Nat.reduceAdd, Nat.reduceLT, Nat.mul_one, Nat.add_zero, Nat.zero_add, ↓reduceIte, eq_self, true_and, and_true, Bool.not_true, Bool.not_false, Bool.true_eq_false, Bool.false_eq_true, false_implies, forall_const, Int.toNat_natCast]) | refine ev_guard rfl rfl rfl ?_ ?_ | ((with_reducible show retQ _ _ _ _); simp only [eq_self]) | (with_reducible refine hK _ ?_; clear hK K) | (with_reducible refine And.intro ?_ ?_) | (with_reducible intro hc; try simp only [decide_eq_true_eq, decide_eq_false_iff_not, bne_iff_ne, bne_eq_false_iff_eq, Bool.not_true, Int.not_lt, ne_eq, reduceCtorEq, Bool.true_eq_false] at hc) | omega)
                  all_goals try (exfalso; omega; done)
                  all_goals try (exfalso; exact hinf ‹_›)
                  unfold HoldN
                  rcases al with _ | ⟨off, g⟩
                  · obtain rfl : q = [] := hQ.1 rfl
                    have hK2 := hK.push (al' := some (0, fun _ => (k : Int))) (A' := none) hml hkl he hno ⟨fun h => (nomatch h), fun off g h i hi => by
                      cases h
                      obtain rfl : i = 0 := by simpa using hi
                      rfl⟩
                    simp only [qS, qB]
                    repeat' (first | ((with_reducible show Ax _ _ _ _ _); (refine ax_appendD rfl ei_ints rfl rfl (Nat.le_refl _) rfl rfl (Nat.le_of_ble_eq_true rfl) ?_ ; simp only [upd, bints, List.nil_append, List.cons_append, List.length_cons, List.length_nil, Nat.reduceEqDiff, Nat.reduceAdd, Nat.zero_add, ↓reduceIte])) | ((with_reducible show evNx _ _ _ _ _ _); first | (with_reducible refine nx_done ?_) | (refine nx_one rfl ?_) | (refine nx_alt rfl ?_ ?_) | (with_reducible refine nx_st ?_)) | ((with_reducible show evSx _ _ _ _ _ _); first | (with_reducible refine sx_done ?_) | (with_reducible refine sx_st ?_) | (with_reducible refine sx_op ?_)) | ((with_reducible show evTake _ _ _ _ _); with_reducible refine take_nil ?_) | ((with_reducible show evSy _ _ _ _ _ _ _); first | (with_reducible refine sy_done ?_) | (refine sy_last rfl ?_) | (refine sy_one (by decide) rfl ?_) | (refine sy_alt (by decide) rfl ?_ ?_) | (with_reducible refine sy_st ?_)) | ((with_reducible show StK _ _ _); first | fail) | (with_reducible first | refine then_normal ?_ | refine then_ret ?_ | refine then_exit ?_ | refine block_normal ?_ | refine block_ret ?_) | ((with_reducible show blockQ _ _ _ _); first | refine block_exit ?_ | refine block_exit_ne rfl ?_) | ((with_reducible show AWP _ _ _ _ _); first | (refine AWP.region_sx (id := 20) [.op, .op, .op, .op, .op] ?_) | (with_reducible first | refine AWP.seq ?_ | refine AWP.block ?_ | refine AWP.region ?_ | refine AWP.ret ?_ | refine AWP.exit ?_ | refine AWP.skip ?_) | refine AWP.drawn rfl (by kernel_rfl) ?_ | refine AWP.cond rfl ?_ ?_) | with_reducible refine ev_nil ?_ | ((first | ((with_reducible show evNx _ _ _ _ _ _); refine nx_take rfl ?_; intro K hK) | ((with_reducible show Ax _ _ _ _ _); first | (refine ax_op rfl ?_; intro K hK)) | ((with_reducible show evTake _ _ _ _ _); refine take_step rfl ?_; intro K hK) | ((with_reducible show evSy _ _ _ _ _ _ _); refine sy_take rfl ?_; intro K hK) | ((with_reducible show AxB _ _ _ _ _); first | (refine axb_op rfl rfl ?_; intro K hK)) | ((with_reducible show evOps _ _ _ _ _ _); (first | refine ev_step rfl ?_ | refine ev_undef rfl rfl rfl ?_); intro K hK) | ((with_reducible show EvOpen _ _ _ _ _ _ _); refine ev_open ?_; intro K hK) | ((with_reducible show SkOpen _ _ _ _ _ _ _); refine sk_open ?_; intro K hK) | ((with_reducible show callK _ _ _ _ _ _ _ _); first  | fail)); simp only [evOp, evQ, binK, withS, opd, kput, putS, upd, lookup, InK_i64, frz, newBlk, partsK, buildSliceK, plSlice, V.one, Value.oneCell', ei_ints, ea_ints, List.nil_append, List.cons_append, List.length_cons, List.length_nil, Nat.reduceEqDiff, Nat.reduceAdd, Nat.reduceLT, Nat.reduceLeDiff, Nat.mul_one, Nat.zero_add, Nat.mod_one, List.getD_cons_zero, ↓reduceIte, eq_self, true_and, Bool.false_eq_true]) | refine ev_guard rfl rfl rfl ?_ ?_ | ((with_reducible show retQ _ _ _ _); simp only [eq_self]) | (with_reducible refine hK _ ?_; clear hK K) | (with_reducible refine And.intro ?_ ?_) | (with_reducible intro hc; try simp only [eq_self] at hc) | omega)
                    all_goals first
                      | (exfalso; omega)
                      | rfl
                      | (exact ⟨(k + 1, putI out k, [] ++ [(k : Int)], some (0, fun _ => (k : Int)), none), ⟨by show k + 1 ≤ a.length; omega, hK2⟩, by show a.length - (k + 1) < a.length - k; omega, [2, 4], rfl, by decide, ⟨VE.rfl' _, ⟨rfl, rfl, rfl, (putI_len _ _).symm⟩, ⟨rfl, rfl, rfl, rfl⟩, rfl, VE.rfl' _, rfl, rfl, VE.rfl' _, rfl, rfl, trivial⟩, BE.rfl' _, ⟨rfl, Nat.le_refl _, fun i hi => VE.rfl' _⟩, trivial⟩)
                      | trace_state
                  · have hqa : ∀ i, i < q.length → g (off + i) = q.getD i 0 := hQ.2 off g rfl
                    have happ : ∀ i, i < q.length + 1 → (q ++ [(k : Int)]).getD i 0 = if i < q.length then q.getD i 0 else k := fun i hi => by
                      simp only [List.getD]
                      by_cases h : i < q.length
                      · rw [if_pos h, List.getElem?_append_left h]
                      · rw [if_neg h, List.getElem?_append_right (by omega), show i - q.length = 0 by omega]; rfl
                    have hK2 := hK.push (al' := some (off, fun i => if i < off + q.length then g i else (k : Int))) (A' := none) hml hkl he hno ⟨fun h => (nomatch h), fun off' g' h i hi => by
                      cases h
                      rw [List.length_append, List.length_singleton] at hi
                      rw [happ i hi]
                      show (if off + i < off + q.length then g (off + i) else (k : Int)) = _
                      by_cases h : i < q.length
                      · rw [if_pos h, if_pos (by omega), hqa i h]
                      · rw [if_neg h, if_neg (by omega)]⟩
                    have hK3 := hK.push (al' := some (0, fun i => if i < q.length then g (off + i) else (k : Int))) (A' := none) hml hkl he hno ⟨fun h => (nomatch h), fun off' g' h i hi => by
                      cases h
                      rw [List.length_append, List.length_singleton] at hi
                      rw [happ i hi]
                      simp only [Nat.zero_add]
                      by_cases h : i < q.length
                      · rw [if_pos h, if_pos h, hqa i h]
                      · rw [if_neg h, if_neg h]⟩
                    simp only [qS, qB]
                    repeat' (first | ((with_reducible show Ax _ _ _ _ _); (refine ax_appendO rfl rfl ei_ints rfl (Nat.le_refl _) (by omega) (fun i hi => rfl) rfl rfl (Nat.le_refl _) rfl rfl (Nat.le_of_ble_eq_true rfl) ?_ ?_ ; all_goals simp only [upd, List.set_cons_zero, List.set_cons_succ, bints, List.nil_append, List.cons_append, List.length_cons, List.length_nil, Nat.reduceEqDiff, Nat.reduceAdd, Nat.zero_add, ↓reduceIte])) | ((with_reducible show evNx _ _ _ _ _ _); first | (with_reducible refine nx_done ?_) | (refine nx_one rfl ?_) | (refine nx_alt rfl ?_ ?_) | (with_reducible refine nx_st ?_)) | ((with_reducible show evSx _ _ _ _ _ _); first | (with_reducible refine sx_done ?_) | (with_reducible refine sx_st ?_) | (with_reducible refine sx_op ?_)) | ((with_reducible show evTake _ _ _ _ _); with_reducible refine take_nil ?_) | ((with_reducible show evSy _ _ _ _ _ _ _); first | (with_reducible refine sy_done ?_) | (refine sy_last rfl ?_) | (refine sy_one (by decide) rfl ?_) | (refine sy_alt (by decide) rfl ?_ ?_) | (with_reducible refine sy_st ?_)) | ((with_reducible show StK _ _ _); first | fail) | (with_reducible first | refine then_normal ?_ | refine then_ret ?_ | refine then_exit ?_ | refine block_normal ?_ | refine block_ret ?_) | ((with_reducible show blockQ _ _ _ _); first | refine block_exit ?_ | refine block_exit_ne rfl ?_) | ((with_reducible show AWP _ _ _ _ _); first | (refine AWP.region_sx (id := 20) [.op, .op, .op, .op, .op] ?_) | (with_reducible first | refine AWP.seq ?_ | refine AWP.block ?_ | refine AWP.region ?_ | refine AWP.ret ?_ | refine AWP.exit ?_ | refine AWP.skip ?_) | refine AWP.drawn rfl (by kernel_rfl) ?_ | refine AWP.cond rfl ?_ ?_) | with_reducible refine ev_nil ?_ | ((first | ((with_reducible show evNx _ _ _ _ _ _); refine nx_take rfl ?_; intro K hK) | ((with_reducible show Ax _ _ _ _ _); first | (refine ax_op rfl ?_; intro K hK)) | ((with_reducible show evTake _ _ _ _ _); refine take_step rfl ?_; intro K hK) | ((with_reducible show evSy _ _ _ _ _ _ _); refine sy_take rfl ?_; intro K hK) | ((with_reducible show AxB _ _ _ _ _); first | (refine axb_op rfl rfl ?_; intro K hK)) | ((with_reducible show evOps _ _ _ _ _ _); (first | refine ev_step rfl ?_ | refine ev_undef rfl rfl rfl ?_); intro K hK) | ((with_reducible show EvOpen _ _ _ _ _ _ _); refine ev_open ?_; intro K hK) | ((with_reducible show SkOpen _ _ _ _ _ _ _); refine sk_open ?_; intro K hK) | ((with_reducible show callK _ _ _ _ _ _ _ _); first  | fail)); simp only [evOp, evQ, binK, withS, opd, kput, putS, upd, lookup, InK_i64, frz, newBlk, partsK, buildSliceK, plSlice, V.one, Value.oneCell', ei_ints, ea_ints, List.nil_append, List.cons_append, List.length_cons, List.length_nil, Nat.reduceEqDiff, Nat.reduceAdd, Nat.reduceLT, Nat.reduceLeDiff, Nat.mul_one, Nat.zero_add, Nat.mod_one, List.getD_cons_zero, ↓reduceIte, eq_self, true_and, Bool.false_eq_true]) | refine ev_guard rfl rfl rfl ?_ ?_ | ((with_reducible show retQ _ _ _ _); simp only [eq_self]) | (with_reducible refine hK _ ?_; clear hK K) | (with_reducible refine And.intro ?_ ?_) | (with_reducible intro hc; try simp only [eq_self] at hc) | omega)
                    all_goals try (exfalso; omega; done)
                    all_goals try rfl
                    · refine ⟨(k + 1, putI out k, q ++ [(k : Int)], some (off, fun i => if i < off + q.length then g i else (k : Int)), none), ⟨by show k + 1 ≤ a.length; omega, hK2⟩, by show a.length - (k + 1) < a.length - k; omega, [2, 1], rfl, by decide, ⟨VE.rfl' _, ⟨rfl, rfl, rfl, (putI_len _ _).symm⟩, ⟨rfl, rfl, rfl, by simp⟩, rfl, VE.rfl' _, rfl, rfl, VE.rfl' _, rfl, rfl, trivial⟩, BE.rfl' _, ⟨rfl, by show off + (q ++ [(k : Int)]).length ≤ off + q.length + 1; simp; omega, fun i hi => VE.of_eq (by show (if i < off + q.length then vi (g i) else .val (.int .i64 (k : Int))) = vi (if i < off + q.length then g i else (k : Int)); split <;> rfl)⟩, trivial⟩
                    · refine ⟨(k + 1, putI out k, q ++ [(k : Int)], some (0, fun i => if i < q.length then g (off + i) else (k : Int)), none), ⟨by show k + 1 ≤ a.length; omega, hK3⟩, by show a.length - (k + 1) < a.length - k; omega, [2, 4], rfl, by decide, ⟨VE.rfl' _, ⟨rfl, rfl, rfl, (putI_len _ _).symm⟩, ⟨rfl, rfl, rfl, by simp⟩, rfl, VE.rfl' _, rfl, rfl, VE.rfl' _, rfl, rfl, trivial⟩, BE.rfl' _, ⟨rfl, by show 0 + (q ++ [(k : Int)]).length ≤ q.length + 1; simp, fun i hi => VE.of_eq (by show (if i < q.length then vi (g (off + i)) else .val (.int .i64 (k : Int))) = vi (if i < q.length then g (off + i) else (k : Int)); split <;> rfl)⟩, trivial⟩
            · obtain rfl : k = a.length := by omega
              have hK2 := hK.next
              repeat' (first | (with_reducible first | refine then_normal ?_ | refine then_ret ?_ | refine then_exit ?_ | refine block_normal ?_ | refine block_ret ?_) | ((with_reducible show blockQ _ _ _ _); first | refine block_exit ?_ | refine block_exit_ne rfl ?_) | ((with_reducible show AWP _ _ _ _ _); first | (with_reducible first | refine AWP.seq ?_ | refine AWP.block ?_ | refine AWP.region ?_ | refine AWP.ret ?_ | refine AWP.exit ?_ | refine AWP.skip ?_) | refine AWP.drawn rfl (by kernel_rfl) ?_ | refine AWP.cond rfl ?_ ?_) | with_reducible refine ev_nil ?_ | ((first | ((with_reducible show evOps _ _ _ _ _ _); (first | refine ev_step rfl ?_ | refine ev_undef rfl rfl rfl ?_); intro K hK) | ((with_reducible show EvOpen _ _ _ _ _ _ _); refine ev_open ?_; intro K hK) | ((with_reducible show SkOpen _ _ _ _ _ _ _); refine sk_open ?_; intro K hK) | ((with_reducible show callK _ _ _ _ _ _ _ _); first | fail)); simp only [evOp, evQ, binK, withS, opd, kput, putS, upd, lookup, skipOp, argsK, InK_i64, sz_ints, c_int, bints, List.getElem?_cons_zero, List.reverse_cons, List.reverse_nil, List.nil_append, List.cons_append, Nat.reduceEqDiff, Nat.reduceLT, Nat.mul_one, Nat.add_zero, Nat.zero_add, ↓reduceIte, eq_self, true_and, Bool.not_true, Bool.false_eq_true, false_implies, forall_const, Int.toNat_natCast]) | refine ev_guard rfl rfl rfl ?_ ?_ | ((with_reducible show retQ _ _ _ _); simp only [eq_self]) | (with_reducible refine hK _ ?_; clear hK K) | (with_reducible refine And.intro ?_ ?_) | (with_reducible intro hc; try simp only [decide_eq_true_eq, decide_eq_false_iff_not, bne_iff_ne, bne_eq_false_iff_eq, Bool.not_true, Int.not_lt, ne_eq, reduceCtorEq, Bool.true_eq_false] at hc) | omega)
              all_goals first
                | (exfalso; omega)
                | exact ⟨(m + 1, out, q, al, A), ⟨by show m + 1 ≤ s.length; omega, hK2⟩, by show s.length - (m + 1) < s.length - m; omega, [0, 1], rfl, by decide, ⟨VE.rfl' _, ⟨rfl, rfl, rfl, rfl⟩, slR_q, rfl, VE.rfl' _, rfl, rfl, trivial⟩, entHR_q rfl (BE.rfl' _) rfl⟩
                | trace_state
          · obtain rfl : m = s.length := by omega
            have hmu := hK.le
            dsimp only at hmu
            have hD : ∀ y ∈ out, y ∉ q → Done (edF s) a.length s.length out y := fun y h1 h2 => by
              by_cases e : y = x0
              · subst e; exact fun m' i h3 h4 h5 => hK.seen m' i h3 h4 h5
              · exact hK.done y h1 h2 e
            repeat' (first | (with_reducible first | refine then_normal ?_ | refine then_ret ?_ | refine then_exit ?_ | refine block_normal ?_ | refine block_ret ?_) | ((with_reducible show blockQ _ _ _ _); first | refine block_exit ?_ | refine block_exit_ne rfl ?_) | ((with_reducible show AWP _ _ _ _ _); first | (with_reducible first | refine AWP.seq ?_ | refine AWP.block ?_ | refine AWP.region ?_ | refine AWP.ret ?_ | refine AWP.exit ?_ | refine AWP.skip ?_) | refine AWP.drawn rfl (by kernel_rfl) ?_ | refine AWP.cond rfl ?_ ?_) | with_reducible refine ev_nil ?_ | ((first | ((with_reducible show evOps _ _ _ _ _ _); (first | refine ev_step rfl ?_ | refine ev_undef rfl rfl rfl ?_); intro K hK) | ((with_reducible show EvOpen _ _ _ _ _ _ _); refine ev_open ?_; intro K hK) | ((with_reducible show SkOpen _ _ _ _ _ _ _); refine sk_open ?_; intro K hK) | ((with_reducible show callK _ _ _ _ _ _ _ _); first | fail)); simp only [evOp, evQ, evB, binK, withS, opd, kput, putS, upd, lookup, sz_ints, bints, sz_rows, c_ints, c_rows, sz_mats, Nat.reduceEqDiff, Nat.reduceLT, Nat.mul_one, Nat.add_zero, ↓reduceIte, eq_self, true_and, Int.toNat_natCast, Option.isSome_some]) | refine ev_guard rfl rfl rfl ?_ ?_ | ((with_reducible show retQ _ _ _ _); simp only [eq_self]) | (with_reducible refine hK _ ?_; clear hK K) | (with_reducible refine And.intro ?_ ?_) | (with_reducible intro hc; try simp only [decide_eq_true_eq, decide_eq_false_iff_not, Int.not_lt] at hc) | omega)
            all_goals first
              | (exfalso; omega)
              | exact ⟨(out, q, al, A), ⟨hK.ok, hD, hK.q⟩, hmu, [0, 1], rfl, by decide, ⟨VE.rfl' _, ⟨rfl, rfl, rfl, rfl⟩, slR_q, trivial⟩, entHR_q rfl (BE.rfl' _) rfl⟩
              | trace_state

end Go.Proofs.Ytpimjkhfookipaa
