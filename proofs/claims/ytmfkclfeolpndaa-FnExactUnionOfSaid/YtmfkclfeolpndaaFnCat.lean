/- slices.Grow at a nil slice (out of the library's shelf) and slices.Concat of two lists of integers. Conditions: lists no longer than 2^30. -/
import Derived.Test.YtmfkclfeolpndaaFnA
import Derived.Test.YtmfkclfeolpndaaEngH
import Derived.Shelf.Spec.SlicesGrow
namespace Go.Proofs
open Go.Shelf
def Try.growI_ren : Go.Shelf.Ren := ⟨fun | 4 => 106 | n => n, fun | 22 => 22 | 25 => 3 | 3 => 3 | 4 => 4 | 9 => 9 | 20 => 20 | 0 => 0 | n => n, fun | n => n⟩
theorem Try.growI : Lays8.n4 Try.prog Try.growI_ren := {
  mixed := by kernel_rfl
  f4 := ⟨Try.f106.name, by decide, Try.func106.trans (congrArg some (by kernel_rfl))⟩
  t0 := Try.underlying0
  a0 := Try.isAgg0
  z0 := Try.sizeOf0
  v0 := Try.zeroValue0
  t3 := Try.underlying3
  a3 := Try.isAgg3
  z3 := Try.sizeOf3
  v3 := Try.zeroValue3
  t4 := Try.underlying4
  a4 := Try.isAgg4
  z4 := Try.sizeOf4
  v4 := Try.zeroValue4
  t9 := Try.underlying9
  a9 := Try.isAgg9
  z9 := Try.sizeOf9
  v9 := Try.zeroValue9
  t20 := Try.underlying20
  a20 := Try.isAgg20
  z20 := Try.sizeOf20
  v20 := Try.zeroValue20
  t22 := Try.underlying22
  a22 := Try.isAgg22
  z22 := Try.sizeOf22
  v22 := Try.zeroValue22 }
end Go.Proofs
namespace Go.Proofs.Ytmfkclfeolpndaa
open Go.RowKit Go.Proofs
set_option linter.unusedSimpArgs false
set_option linter.unusedVariables false

theorem info_int : ∃ i, Try.prog.info? 3 = some i ∧ i.zero = some (.int .i64 0) ∧ i.size = 1 ∧ i.bytes = 8 :=
  ⟨(Try.prog.info? 3).get (by kernel_rfl), (Option.some_get _).symm, by kernel_rfl, by kernel_rfl, by kernel_rfl⟩
theorem zero_cells_size (k : Nat) : (Builtin.zeroCells (Value.int .i64 0).cells k).size = k := by
  simp [Builtin.zeroCells, Value.cells]

theorem grow_fn (n : Nat) (hn : n ≤ 4294967296) : Fn Try.prog 106 [.val (.slice none 0 0), vi n] (.one (.fr 1 0 ⟨3, 0, fun _ => vi 0⟩)) := by
  refine ⟨Try.call106, fun w S0 us hus => ?_⟩
  match us, hus with
  | [u0, u1], ⟨h0, h1, _⟩ =>
    obtain rfl : u0 = .slice none 0 0 := h0
    obtain rfl : u1 = .int .i64 n := h1
    rcases Nat.eq_zero_or_pos n with h | h
    · subst h
      refine (Any8.slices_Grow_room Try.growI none 0 0 0 w (by omega) (by omega) (by omega) (by omega)).mono ?_
      rintro e w' ⟨rfl, rfl⟩
      refine ⟨_, [none], rfl, ⟨rfl, Below.refl _ _, fun id blk hi => ?_, fun i j bi bj b z z' hi hj hb => ?_⟩, .inl ⟨rfl, rfl, rfl, rfl⟩⟩
      · cases id with
        | zero => cases hi; exact .inl ⟨rfl, rfl⟩
        | succ id => simp [bring, Res.list] at hi
      · cases i with
        | zero => simp at hb
        | succ i => simp at hb
    · obtain ⟨i0, hi, hz, hs, hb⟩ := info_int
      refine (Any8.slices_Grow_grow Try.growI i0 _ hi hz (by omega) none 0 0 n [] w (by omega) (by omega) (by rw [hb]; omega) (by omega) (by simp) (fun _ => rfl) (fun a ha => by cases ha)).mono ?_
      rintro e w' ⟨rfl, rfl⟩
      have hG := grownCap_le_maxLen w (0 + n) 0 3 (by unfold maxLen; omega)
      have hG' := grownCap_ge w (0 + n) 0 3
      change grownCap w (0 + n) 0 (Try.growI_ren.t 25) ≤ maxLen at hG
      change 0 + n ≤ grownCap w (0 + n) 0 (Try.growI_ren.t 25) at hG'
      generalize grownCap w (0 + n) 0 (Try.growI_ren.t 25) = G at hG hG' ⊢
      generalize hcur : ([] : List Value).toArray ++ Builtin.zeroCells (Value.int .i64 0).cells (0 + n - 0) ++ Builtin.zeroCells (Value.int .i64 0).cells (G - (0 + n)) = cur
      have hsz : cur.size = G := by
        rw [← hcur, Array.size_append, Array.size_append, zero_cells_size, zero_cells_size]
        simp; omega
      refine ⟨_, [some (w.heap.size, cur.size)], rfl, ⟨rfl, ?_, fun id blk hi => ?_, fun i j bi bj b z z' hi hj hb => ?_⟩, .inr ⟨w.heap.size, G, cur.size, rfl, rfl, Nat.zero_le _, hG, by rw [hsz]; omega⟩⟩
      · exact (Below.drew (Below.refl _ _)).alloc (Nat.le_refl _) _
      · cases id with
        | zero =>
          cases hi
          exact .inr ⟨w.heap.size, cur, rfl, Nat.le_refl _, heap_alloc_new w.drew _, Nat.zero_le _, fun i hi => by cases hi⟩
        | succ id => simp [bring, Res.list] at hi
      · cases i with
        | zero =>
          cases j with
          | zero => intro _; rfl
          | succ j => simp [bring, Res.list] at hj
        | succ i => simp [bring, Res.list] at hi

def catF (u v : List Int) : Nat → V := fun j => vi ((u ++ v).getD j 0)

/-- How much stands in the first k of two lists. -/
def preN (u v : List Int) (k : Nat) : Nat := if k = 0 then 0 else if k = 1 then u.length else u.length + v.length
theorem preN_le (u v : List Int) (k : Nat) : preN u v k ≤ u.length + v.length := by unfold preN; split <;> (try split) <;> omega
theorem preN_succ (u v : List Int) {k : Nat} (h : k < 2) : preN u v (k + 1) = preN u v k + (rowAt [u, v] k).length := by
  rcases (show k = 0 ∨ k = 1 by omega) with rfl | rfl <;> simp [preN, rowAt]
theorem cat_at (u v : List Int) {k q : Nat} (h : k < 2) (hq : q < (rowAt [u, v] k).length) : catF u v (preN u v k + q) = vi ((rowAt [u, v] k).getD q 0) := by
  rcases (show k = 0 ∨ k = 1 by omega) with rfl | rfl
  · have hq : q < u.length := hq
    show vi ((u ++ v).getD (0 + q) 0) = vi (u.getD q 0)
    rw [Nat.zero_add, List.getD, List.getElem?_append_left hq]; rfl
  · show vi ((u ++ v).getD (u.length + q) 0) = vi (v.getD q 0)
    rw [List.getD, List.getElem?_append_right (by omega), Nat.add_sub_cancel_left]; rfl

set_option maxRecDepth 100000 in
theorem concat_fn (u v : List Int) (hu : u.length ≤ 1073741824) (hv : v.length ≤ 1073741824) : Fn Try.prog 61 [rows [u, v]] (.one (.fr 1 (u.length + v.length) ⟨3, u.length + v.length, catF u v⟩)) := by
  have hg := grow_fn (u.length + v.length) (by omega)
  have hR : ∀ k, (rowAt [u, v] k).length ≤ 1073741824 := fun k => by
    match k with
    | 0 => exact hu
    | 1 => exact hv
    | k + 2 => simp [rowAt]
  have e2 : ([u, v] : List (List Int)).length = 2 := rfl
  have p2 : preN u v 2 = u.length + v.length := rfl
  generalize hl : ([u, v] : List (List Int)) = l at hR e2
  have hpl := fun k => preN_le u v k
  refine Fn.of_body Try.call61 Try.func61 rfl Try.ntmps61 (ts := [2]) rfl (by simp) rfl (fun N => ?_)
  repeat' (first | ((with_reducible show thenQ _ _ _ _); first | with_reducible refine then_normal ?_ | with_reducible refine then_ret ?_ | with_reducible refine then_exit ?_) | ((with_reducible show blockQ _ _ _ _); first | with_reducible refine block_normal ?_ | with_reducible refine block_ret ?_ | refine block_exit ?_ | refine block_exit_ne rfl ?_) | ((with_reducible show AWP _ _ _ _ _); first | with_reducible refine AWP.seq ?_ | with_reducible refine AWP.block ?_ | with_reducible refine AWP.region ?_ | (refine AWP.drawn rfl (by kernel_rfl) ?_) | with_reducible refine AWP.ret ?_ | with_reducible refine AWP.exit ?_ | with_reducible refine AWP.skip ?_ | refine AWP.cond rfl ?_ ?_) | with_reducible refine ev_nil ?_ | ((first | ((with_reducible show evOps _ _ _ _ _ _); (first | refine ev_step rfl ?_ | refine ev_undef rfl rfl rfl ?_); intro K hK) | ((with_reducible show EvOpen _ _ _ _ _ _ _); refine ev_open ?_; intro K hK) | ((with_reducible show SkOpen _ _ _ _ _ _ _); refine sk_open ?_; intro K hK) | ((with_reducible show callK _ _ _ _ _ _ _ _); first | fail)); simp only [evOp, oldZ, evQ, evB, capsK, dynK, tabV, bytesK, eqStK, vInt, binK, withS, opd, kput, putS, upd, lookup, skipOp, argsK, loadOwn, bringIn, bring, Res.list, Res.slot, slotsOf, InK_i64, appendK, srcK, growK, storeK, frz, storeV, setBlk, makeK, newBlk, boxV, allocK, buildK, partsK, buildSliceK, plSlice, cutK, boundK, V.one, Value.oneCell', List.set_cons_zero, List.set_cons_succ, sz_ints, c_int, ei_ints, ea_ints, u_bool, bints, u_int, sz_strs, c_string, ei_strs, ea_strs, u_string, sz_rows, c_ints, ei_rows, ea_rows, c_rows, sz_lterms, sz_terms, ei_terms, ea_terms, c_lterm, c_term, fl0, fl1, fl2, fi0, fi1, fi2, z_term, pl_term, is_term, bs_bytes, ei_bytes, ea_bytes, sz_bytes, c_u8, u_u8, bstrs, brows, tf_0, tf_1, tf_2, tf_00, tf_01, tf_02, t3_0, t3_1, t3_2, bterms, retCell, retCell.cellOk, Nat.zero_le, lenB_is, byteI_is, InK_u8, List.getElem?_cons_zero, List.getElem?_cons_succ, Option.bind_some, List.reverse_cons, List.reverse_nil, List.nil_append, List.cons_append, List.length_cons, List.length_nil, Nat.reduceEqDiff, Nat.reduceAdd, Nat.reduceLT, Nat.reduceLeDiff, Nat.reduceMul, Nat.mul_one, Nat.one_mul, Nat.zero_mul, Nat.add_zero, Nat.zero_add, Nat.sub_zero, Nat.mod_one, Nat.not_lt_zero, List.getD_cons_zero, ↓reduceIte, if_true, if_false, eq_self, true_and, and_true, Bool.not_true, Bool.not_false, Bool.true_eq_false, Bool.false_eq_true, false_implies, forall_const, implies_true, Int.toNat_natCast, Int.toNat_zero, Int.toNat_one, Option.isSome_some]) | refine ev_guard rfl rfl rfl ?_ ?_ | ((with_reducible show retQ _ _ _ _); simp only [retQ, retOk, getL, lookup, Option.map_some, fitsL, fits, ND, srcs, Res.list, VE, List.getElem?_cons_zero, List.getElem?_cons_succ, Value.bool.injEq, Value.int.injEq, Nat.reduceEqDiff, ↓reduceIte, and_true, true_and]) | (with_reducible refine hK _ ?_; clear hK K) | (with_reducible refine And.intro ?_ ?_) | (with_reducible intro hc; try simp only [decide_eq_true_eq, decide_eq_false_iff_not, beq_iff_eq, beq_eq_false_iff_ne, bne_iff_ne, bne_eq_false_iff_eq, Bool.not_eq_true', Bool.not_eq_false', Bool.not_true, Bool.not_false, Int.not_lt, Int.not_le, gt_iff_lt, ge_iff_le, ne_eq, Decidable.not_not, reduceCtorEq, inB_true, inB_false, finB_true, finB_false, not_true_eq_false, eqB_refl, Bool.true_eq_false] at hc) | omega)
  refine AWP.loop_entR [] (fun k : Nat => ⟨[(0, .one (.pv (rows l))), (3, sc (.int .i64 (preN u v k))), (9, .one (.pv (rows l))), (10, sc (.int .i64 l.length)), (11, sc (.int .i64 k))], [], 36⟩)
    (fun k => k ≤ 2) (fun k => 2 - k) 0 (by omega) (by simp [EntR, EntSR, EntHR, SlR, VE, VE.rfl', lookup, BE, upd, sc, preN]) ?_
  intro k hk
  have hrk := hR k
  have hpk := hpl k
  by_cases hk2 : k < 2
  · have hs := preN_succ u v hk2
    rw [hl] at hs
    repeat' (first | ((with_reducible show thenQ _ _ _ _); first | with_reducible refine then_normal ?_ | with_reducible refine then_ret ?_ | with_reducible refine then_exit ?_) | ((with_reducible show blockQ _ _ _ _); first | with_reducible refine block_normal ?_ | with_reducible refine block_ret ?_ | refine block_exit ?_ | refine block_exit_ne rfl ?_) | ((with_reducible show AWP _ _ _ _ _); first | with_reducible refine AWP.seq ?_ | with_reducible refine AWP.block ?_ | with_reducible refine AWP.region ?_ | (refine AWP.drawn rfl (by kernel_rfl) ?_) | with_reducible refine AWP.ret ?_ | with_reducible refine AWP.exit ?_ | with_reducible refine AWP.skip ?_ | refine AWP.cond rfl ?_ ?_) | with_reducible refine ev_nil ?_ | ((first | ((with_reducible show evOps _ _ _ _ _ _); (first | refine ev_step rfl ?_ | refine ev_undef rfl rfl rfl ?_); intro K hK) | ((with_reducible show EvOpen _ _ _ _ _ _ _); refine ev_open ?_; intro K hK) | ((with_reducible show SkOpen _ _ _ _ _ _ _); refine sk_open ?_; intro K hK) | ((with_reducible show callK _ _ _ _ _ _ _ _); first | fail)); simp only [evOp, oldZ, evQ, evB, capsK, dynK, tabV, bytesK, eqStK, vInt, binK, withS, opd, kput, putS, upd, lookup, skipOp, argsK, loadOwn, bringIn, bring, Res.list, Res.slot, slotsOf, InK_i64, appendK, srcK, growK, storeK, frz, storeV, setBlk, makeK, newBlk, boxV, allocK, buildK, partsK, buildSliceK, plSlice, cutK, boundK, V.one, Value.oneCell', List.set_cons_zero, List.set_cons_succ, sz_ints, c_int, ei_ints, ea_ints, u_bool, bints, u_int, sz_strs, c_string, ei_strs, ea_strs, u_string, sz_rows, c_ints, ei_rows, ea_rows, c_rows, sz_lterms, sz_terms, ei_terms, ea_terms, c_lterm, c_term, fl0, fl1, fl2, fi0, fi1, fi2, z_term, pl_term, is_term, bs_bytes, ei_bytes, ea_bytes, sz_bytes, c_u8, u_u8, bstrs, brows, tf_0, tf_1, tf_2, tf_00, tf_01, tf_02, t3_0, t3_1, t3_2, bterms, retCell, retCell.cellOk, Nat.zero_le, lenB_is, byteI_is, InK_u8, List.getElem?_cons_zero, List.getElem?_cons_succ, Option.bind_some, List.reverse_cons, List.reverse_nil, List.nil_append, List.cons_append, List.length_cons, List.length_nil, Nat.reduceEqDiff, Nat.reduceAdd, Nat.reduceLT, Nat.reduceLeDiff, Nat.reduceMul, Nat.mul_one, Nat.one_mul, Nat.zero_mul, Nat.add_zero, Nat.zero_add, Nat.sub_zero, Nat.mod_one, Nat.not_lt_zero, List.getD_cons_zero, ↓reduceIte, if_true, if_false, eq_self, true_and, and_true, Bool.not_true, Bool.not_false, Bool.true_eq_false, Bool.false_eq_true, false_implies, forall_const, implies_true, Int.toNat_natCast, Int.toNat_zero, Int.toNat_one, Option.isSome_some]) | refine ev_guard rfl rfl rfl ?_ ?_ | ((with_reducible show retQ _ _ _ _); simp only [retQ, retOk, getL, lookup, Option.map_some, fitsL, fits, ND, srcs, Res.list, VE, List.getElem?_cons_zero, List.getElem?_cons_succ, Value.bool.injEq, Value.int.injEq, Nat.reduceEqDiff, ↓reduceIte, and_true, true_and]) | (with_reducible refine hK _ ?_; clear hK K) | (with_reducible refine And.intro ?_ ?_) | (with_reducible intro hc; try simp only [decide_eq_true_eq, decide_eq_false_iff_not, beq_iff_eq, beq_eq_false_iff_ne, bne_iff_ne, bne_eq_false_iff_eq, Bool.not_eq_true', Bool.not_eq_false', Bool.not_true, Bool.not_false, Int.not_lt, Int.not_le, gt_iff_lt, ge_iff_le, ne_eq, Decidable.not_not, reduceCtorEq, inB_true, inB_false, finB_true, finB_false, not_true_eq_false, eqB_refl, Bool.true_eq_false] at hc) | omega)
    all_goals first
      | (exfalso; omega)
      | omega
      | (exact ⟨k + 1, by omega, by omega, [], rfl, by decide, by simp [EntSR, SlR, VE, VE.rfl', lookup, sc, hs], trivial⟩)
      | trace_state
  · obtain rfl : k = 2 := by omega
    rw [p2] at *
    repeat' (first | ((with_reducible show thenQ _ _ _ _); first | with_reducible refine then_normal ?_ | with_reducible refine then_ret ?_ | with_reducible refine then_exit ?_) | ((with_reducible show blockQ _ _ _ _); first | with_reducible refine block_normal ?_ | with_reducible refine block_ret ?_ | refine block_exit ?_ | refine block_exit_ne rfl ?_) | ((with_reducible show AWP _ _ _ _ _); first | with_reducible refine AWP.seq ?_ | with_reducible refine AWP.block ?_ | with_reducible refine AWP.region ?_ | (refine AWP.drawn rfl (by kernel_rfl) ?_) | with_reducible refine AWP.ret ?_ | with_reducible refine AWP.exit ?_ | with_reducible refine AWP.skip ?_ | refine AWP.cond rfl ?_ ?_) | with_reducible refine ev_nil ?_ | ((first | ((with_reducible show evOps _ _ _ _ _ _); (first | refine ev_step rfl ?_ | refine ev_undef rfl rfl rfl ?_); intro K hK) | ((with_reducible show EvOpen _ _ _ _ _ _ _); refine ev_open ?_; intro K hK) | ((with_reducible show SkOpen _ _ _ _ _ _ _); refine sk_open ?_; intro K hK) | ((with_reducible show callK _ _ _ _ _ _ _ _); first  | (refine call_pure ( hg) (Nat.le_of_ble_eq_true rfl) ?_))); simp only [evOp, oldZ, evQ, evB, capsK, dynK, tabV, bytesK, eqStK, vInt, binK, withS, opd, kput, putS, upd, lookup, skipOp, argsK, loadOwn, bringIn, bring, Res.list, Res.slot, slotsOf, InK_i64, appendK, srcK, growK, storeK, frz, storeV, setBlk, makeK, newBlk, boxV, allocK, buildK, partsK, buildSliceK, plSlice, cutK, boundK, V.one, Value.oneCell', List.set_cons_zero, List.set_cons_succ, sz_ints, c_int, ei_ints, ea_ints, u_bool, bints, u_int, sz_strs, c_string, ei_strs, ea_strs, u_string, sz_rows, c_ints, ei_rows, ea_rows, c_rows, sz_lterms, sz_terms, ei_terms, ea_terms, c_lterm, c_term, fl0, fl1, fl2, fi0, fi1, fi2, z_term, pl_term, is_term, bs_bytes, ei_bytes, ea_bytes, sz_bytes, c_u8, u_u8, bstrs, brows, tf_0, tf_1, tf_2, tf_00, tf_01, tf_02, t3_0, t3_1, t3_2, bterms, retCell, retCell.cellOk, Nat.zero_le, lenB_is, byteI_is, InK_u8, List.getElem?_cons_zero, List.getElem?_cons_succ, Option.bind_some, List.reverse_cons, List.reverse_nil, List.nil_append, List.cons_append, List.length_cons, List.length_nil, Nat.reduceEqDiff, Nat.reduceAdd, Nat.reduceLT, Nat.reduceLeDiff, Nat.reduceMul, Nat.mul_one, Nat.one_mul, Nat.zero_mul, Nat.add_zero, Nat.zero_add, Nat.sub_zero, Nat.mod_one, Nat.not_lt_zero, List.getD_cons_zero, ↓reduceIte, if_true, if_false, eq_self, true_and, and_true, Bool.not_true, Bool.not_false, Bool.true_eq_false, Bool.false_eq_true, false_implies, forall_const, implies_true, Int.toNat_natCast, Int.toNat_zero, Int.toNat_one, Option.isSome_some]) | refine ev_guard rfl rfl rfl ?_ ?_ | ((with_reducible show retQ _ _ _ _); simp only [retQ, retOk, getL, lookup, Option.map_some, fitsL, fits, ND, srcs, Res.list, VE, List.getElem?_cons_zero, List.getElem?_cons_succ, Value.bool.injEq, Value.int.injEq, Nat.reduceEqDiff, ↓reduceIte, and_true, true_and]) | (with_reducible refine hK _ ?_; clear hK K) | (with_reducible refine And.intro ?_ ?_) | (with_reducible intro hc; try simp only [decide_eq_true_eq, decide_eq_false_iff_not, beq_iff_eq, beq_eq_false_iff_ne, bne_iff_ne, bne_eq_false_iff_eq, Bool.not_eq_true', Bool.not_eq_false', Bool.not_true, Bool.not_false, Int.not_lt, Int.not_le, gt_iff_lt, ge_iff_le, ne_eq, Decidable.not_not, reduceCtorEq, inB_true, inB_false, finB_true, finB_false, not_true_eq_false, eqB_refl, Bool.true_eq_false] at hc) | omega)
    all_goals try (exfalso; omega; done)
    refine AWP.loop_entR [0] (fun k : Nat => ⟨[(6, .one (.own 0 1 0 (preN u v k))), (25, .one (.pv (rows l))), (26, sc (.int .i64 l.length)), (27, sc (.int .i64 k))], [some ⟨3, preN u v k, catF u v⟩], 36⟩)
      (fun k => k ≤ 2) (fun k => 2 - k) 0 (by omega) (by simp [EntR, EntSR, EntHR, SlR, VE, VE.rfl', lookup, BE, upd, sc, preN]) ?_
    intro k hk
    have hrk := hR k
    have hpk := hpl k
    by_cases hk2 : k < 2
    · have hs := preN_succ u v hk2
      have hat := fun q => cat_at u v (q := q) hk2
      rw [hl] at hs hat
      repeat' (first | ((with_reducible show thenQ _ _ _ _); first | with_reducible refine then_normal ?_ | with_reducible refine then_ret ?_ | with_reducible refine then_exit ?_) | ((with_reducible show blockQ _ _ _ _); first | with_reducible refine block_normal ?_ | with_reducible refine block_ret ?_ | refine block_exit ?_ | refine block_exit_ne rfl ?_) | ((with_reducible show AWP _ _ _ _ _); first | with_reducible refine AWP.seq ?_ | with_reducible refine AWP.block ?_ | with_reducible refine AWP.region ?_ | (refine AWP.drawn rfl (by kernel_rfl) ?_) | with_reducible refine AWP.ret ?_ | with_reducible refine AWP.exit ?_ | with_reducible refine AWP.skip ?_ | refine AWP.cond rfl ?_ ?_) | with_reducible refine ev_nil ?_ | ((first | ((with_reducible show evOps _ _ _ _ _ _); (first | refine ev_step rfl ?_ | refine ev_undef rfl rfl rfl ?_); intro K hK) | ((with_reducible show EvOpen _ _ _ _ _ _ _); refine ev_open ?_; intro K hK) | ((with_reducible show SkOpen _ _ _ _ _ _ _); refine sk_open ?_; intro K hK) | ((with_reducible show callK _ _ _ _ _ _ _ _); first | fail)); simp only [evOp, oldZ, evQ, evB, capsK, dynK, tabV, bytesK, eqStK, vInt, binK, withS, opd, kput, putS, upd, lookup, skipOp, argsK, loadOwn, bringIn, bring, Res.list, Res.slot, slotsOf, InK_i64, appendK, srcK, growK, storeK, frz, storeV, setBlk, makeK, newBlk, boxV, allocK, buildK, partsK, buildSliceK, plSlice, cutK, boundK, V.one, Value.oneCell', List.set_cons_zero, List.set_cons_succ, sz_ints, c_int, ei_ints, ea_ints, u_bool, bints, u_int, sz_strs, c_string, ei_strs, ea_strs, u_string, sz_rows, c_ints, ei_rows, ea_rows, c_rows, sz_lterms, sz_terms, ei_terms, ea_terms, c_lterm, c_term, fl0, fl1, fl2, fi0, fi1, fi2, z_term, pl_term, is_term, bs_bytes, ei_bytes, ea_bytes, sz_bytes, c_u8, u_u8, bstrs, brows, tf_0, tf_1, tf_2, tf_00, tf_01, tf_02, t3_0, t3_1, t3_2, bterms, retCell, retCell.cellOk, Nat.zero_le, lenB_is, byteI_is, InK_u8, List.getElem?_cons_zero, List.getElem?_cons_succ, Option.bind_some, List.reverse_cons, List.reverse_nil, List.nil_append, List.cons_append, List.length_cons, List.length_nil, Nat.reduceEqDiff, Nat.reduceAdd, Nat.reduceLT, Nat.reduceLeDiff, Nat.reduceMul, Nat.mul_one, Nat.one_mul, Nat.zero_mul, Nat.add_zero, Nat.zero_add, Nat.sub_zero, Nat.mod_one, Nat.not_lt_zero, List.getD_cons_zero, ↓reduceIte, if_true, if_false, eq_self, true_and, and_true, Bool.not_true, Bool.not_false, Bool.true_eq_false, Bool.false_eq_true, false_implies, forall_const, implies_true, Int.toNat_natCast, Int.toNat_zero, Int.toNat_one, Option.isSome_some]) | refine ev_guard rfl rfl rfl ?_ ?_ | ((with_reducible show retQ _ _ _ _); simp only [retQ, retOk, getL, lookup, Option.map_some, fitsL, fits, ND, srcs, Res.list, VE, List.getElem?_cons_zero, List.getElem?_cons_succ, Value.bool.injEq, Value.int.injEq, Nat.reduceEqDiff, ↓reduceIte, and_true, true_and]) | (with_reducible refine hK _ ?_; clear hK K) | (with_reducible refine And.intro ?_ ?_) | (with_reducible intro hc; try simp only [decide_eq_true_eq, decide_eq_false_iff_not, beq_iff_eq, beq_eq_false_iff_ne, bne_iff_ne, bne_eq_false_iff_eq, Bool.not_eq_true', Bool.not_eq_false', Bool.not_true, Bool.not_false, Int.not_lt, Int.not_le, gt_iff_lt, ge_iff_le, ne_eq, Decidable.not_not, reduceCtorEq, inB_true, inB_false, finB_true, finB_false, not_true_eq_false, eqB_refl, Bool.true_eq_false] at hc) | omega)
      all_goals first
        | (exfalso; omega)
        | omega
        | rfl
        | (exact ⟨k + 1, by omega, by omega, [1], rfl, by decide, by simp [EntSR, SlR, VE, VE.rfl', lookup, sc, hs], ⟨rfl, by show preN u v (k + 1) ≤ _; rw [hs]; exact Nat.le_refl _, fun q hq => VE.of_eq (by
            have hq : q < preN u v (k + 1) := hq
            show (if q < preN u v k then catF u v q else vi ((rowAt l k).getD (q - preN u v k) 0)) = catF u v q
            by_cases h : q < preN u v k
            · rw [if_pos h]
            · rw [if_neg h, ← hat (q - preN u v k) (by omega), show preN u v k + (q - preN u v k) = q by omega])⟩, trivial⟩)
        | trace_state
    · obtain rfl : k = 2 := by omega
      have p3 : preN u v 2 = u.length + v.length := rfl
      repeat' (first | ((with_reducible show thenQ _ _ _ _); first | with_reducible refine then_normal ?_ | with_reducible refine then_ret ?_ | with_reducible refine then_exit ?_) | ((with_reducible show blockQ _ _ _ _); first | with_reducible refine block_normal ?_ | with_reducible refine block_ret ?_ | refine block_exit ?_ | refine block_exit_ne rfl ?_) | ((with_reducible show AWP _ _ _ _ _); first | with_reducible refine AWP.seq ?_ | with_reducible refine AWP.block ?_ | with_reducible refine AWP.region ?_ | (refine AWP.drawn rfl (by kernel_rfl) ?_) | with_reducible refine AWP.ret ?_ | with_reducible refine AWP.exit ?_ | with_reducible refine AWP.skip ?_ | refine AWP.cond rfl ?_ ?_) | with_reducible refine ev_nil ?_ | ((first | ((with_reducible show evOps _ _ _ _ _ _); (first | refine ev_step rfl ?_ | refine ev_undef rfl rfl rfl ?_); intro K hK) | ((with_reducible show EvOpen _ _ _ _ _ _ _); refine ev_open ?_; intro K hK) | ((with_reducible show SkOpen _ _ _ _ _ _ _); refine sk_open ?_; intro K hK) | ((with_reducible show callK _ _ _ _ _ _ _ _); first | fail)); simp only [evOp, oldZ, evQ, evB, capsK, dynK, tabV, bytesK, eqStK, vInt, binK, withS, opd, kput, putS, upd, lookup, skipOp, argsK, loadOwn, bringIn, bring, Res.list, Res.slot, slotsOf, InK_i64, appendK, srcK, growK, storeK, frz, storeV, setBlk, makeK, newBlk, boxV, allocK, buildK, partsK, buildSliceK, plSlice, cutK, boundK, V.one, Value.oneCell', List.set_cons_zero, List.set_cons_succ, sz_ints, c_int, ei_ints, ea_ints, u_bool, bints, u_int, sz_strs, c_string, ei_strs, ea_strs, u_string, sz_rows, c_ints, ei_rows, ea_rows, c_rows, sz_lterms, sz_terms, ei_terms, ea_terms, c_lterm, c_term, fl0, fl1, fl2, fi0, fi1, fi2, z_term, pl_term, is_term, bs_bytes, ei_bytes, ea_bytes, sz_bytes, c_u8, u_u8, bstrs, brows, tf_0, tf_1, tf_2, tf_00, tf_01, tf_02, t3_0, t3_1, t3_2, bterms, retCell, retCell.cellOk, Nat.zero_le, lenB_is, byteI_is, InK_u8, List.getElem?_cons_zero, List.getElem?_cons_succ, Option.bind_some, List.reverse_cons, List.reverse_nil, List.nil_append, List.cons_append, List.length_cons, List.length_nil, Nat.reduceEqDiff, Nat.reduceAdd, Nat.reduceLT, Nat.reduceLeDiff, Nat.reduceMul, Nat.mul_one, Nat.one_mul, Nat.zero_mul, Nat.add_zero, Nat.zero_add, Nat.sub_zero, Nat.mod_one, Nat.not_lt_zero, List.getD_cons_zero, ↓reduceIte, if_true, if_false, eq_self, true_and, and_true, Bool.not_true, Bool.not_false, Bool.true_eq_false, Bool.false_eq_true, false_implies, forall_const, implies_true, Int.toNat_natCast, Int.toNat_zero, Int.toNat_one, Option.isSome_some]) | refine ev_guard rfl rfl rfl ?_ ?_ | ((with_reducible show retQ _ _ _ _); simp only [retQ, retOk, getL, lookup, Option.map_some, fitsL, fits, ND, srcs, Res.list, VE, List.getElem?_cons_zero, List.getElem?_cons_succ, Value.bool.injEq, Value.int.injEq, Nat.reduceEqDiff, ↓reduceIte, and_true, true_and]) | (with_reducible refine hK _ ?_; clear hK K) | (with_reducible refine And.intro ?_ ?_) | (with_reducible intro hc; try simp only [decide_eq_true_eq, decide_eq_false_iff_not, beq_iff_eq, beq_eq_false_iff_ne, bne_iff_ne, bne_eq_false_iff_eq, Bool.not_eq_true', Bool.not_eq_false', Bool.not_true, Bool.not_false, Int.not_lt, Int.not_le, gt_iff_lt, ge_iff_le, ne_eq, Decidable.not_not, reduceCtorEq, inB_true, inB_false, finB_true, finB_false, not_true_eq_false, eqB_refl, Bool.true_eq_false] at hc) | omega)
      all_goals first
        | (exfalso; omega)
        | exact p3
        | (exact ⟨_, rfl, rfl, Nat.le_of_eq p3.symm, fun q _ => VE.rfl' _⟩)
        | (simp; done)
        | trace_state

end Go.Proofs.Ytmfkclfeolpndaa
