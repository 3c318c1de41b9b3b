/- A text split at each newline: strings.Split, and the reference's way. Conditions: texts no longer than 2^31. -/
import Derived.Test.YtmfkclfeolpndaaDoorFnA
import Derived.Test.YtmfkclfeolpndaaDoorEngH
import Derived.Test.YtmfkclfeolpndaaDoorPureNl
import Derived.Test.YtmfkclfeolpndaaDoorShelf
namespace Go.Proofs.YtmfkclfeolpndaaDoor
open Go.RowKit Go.Proofs
set_option linter.unusedSimpArgs false
set_option linter.unusedVariables false

theorem genSplit_run (s : ByteArray) (hs : s.size ≤ 2147483648) (w : World) :
    Calls Tryd.prog 22 #[.string s, .string nlB, .int .i64 (0 : Int), .int .i64 (-1)] w fun e w' => e = .returned (.slice (some ⟨w.heap.size, 0, none⟩) (nlS s).length (nlS s).length) ∧ w' = w.alloc (.cells ((nlS s).map Value.string).toArray 9) := by
  have h1 : 1 ≤ nlB.size := Nat.le_refl _
  have hle := Lib.countB_le nlB h1 s.size s (Nat.le_refl _)
  have hlen := Lib.splitB_all nlB h1 0 _ s rfl
  have c := Any.strings_genSplit_core (P := Tryd.prog) (ρ := Tryd.lays146_ren) { Tryd.lays146 with } (by kernel_rfl) s nlB 0 (-1) (Lib.countB s nlB + 1) w (by omega) h1 (Nat.zero_le _)
    (fun x c hx => (Tryd.strings_Index_one x 10 _).mono fun e w' ⟨he, hw⟩ => ⟨by rw [he]; show _ = Ending.returned (Value.int .i64 (Lib.index x.data.toList [10])); rw [Lib.index_one], hw⟩)
    ((Tryd.strings_Count_one s 10 w).mono fun e w' ⟨he, hw⟩ => ⟨by rw [he]; show _ = Ending.returned (Value.int .i64 ((Lib.count s.data.toList [10] : Nat) : Int)); rw [Lib.count_one]; rfl, hw⟩)
    (by decide) (by decide) (by rw [if_pos (by decide)]; omega)
  rw [Nat.add_sub_cancel, hlen] at c
  have e2 : Lib.cellsOf (Lib.splitB nlB 0 (Lib.countB s nlB) s) (Lib.countB s nlB + 1) = ((Lib.splitB nlB 0 (Lib.countB s nlB) s).map Value.string).toArray := by rw [← hlen]; exact Lib.cellsOf_full _
  rw [e2, splitB_nl] at c
  have hn : Lib.countB s nlB + 1 = (nlS s).length := by rw [← hlen, splitB_nl]
  rw [hn] at c
  exact c

theorem genSplit_fn (s : ByteArray) (hs : s.size ≤ 2147483648) : Fn Tryd.prog 22 [vs s, vs nlB, vi 0, vi (-1)] (.one (.fr 1 (nlS s).length (bstrs (nlS s)))) := by
  refine ⟨Tryd.call22, fun w S0 us hus => ?_⟩
  match us, hus with
  | [u0, u1, u2, u3], ⟨h0, h1, h2, h3, _⟩ =>
    obtain rfl : u0 = .string s := h0
    obtain rfl : u1 = .string nlB := h1
    obtain rfl : u2 = .int .i64 0 := h2
    obtain rfl : u3 = .int .i64 (-1) := h3
    refine (genSplit_run s hs w).mono ?_
    rintro e w' ⟨rfl, rfl⟩
    have hsz : ((nlS s).map Value.string).toArray.size = (nlS s).length := by simp
    have hsm : (nlS s).length ≤ s.size + 1 := by
      rw [nlS_len]
      have := List.count_le_length (a := 10) (l := s.data.toList)
      have e : s.data.toList.length = s.size := Array.length_toList
      omega
    refine ⟨_, [some (w.heap.size, ((nlS s).map Value.string).toArray.size)], rfl, ⟨rfl, (Below.refl _ _).alloc (Nat.le_refl _) _, fun id blk hi => ?_, fun i j bi bj b z z' hi hj hb => ?_⟩, .inr ⟨w.heap.size, (nlS s).length, ((nlS s).map Value.string).toArray.size, rfl, rfl, Nat.le_refl _, by unfold maxLen; omega, by rw [hsz]; omega⟩⟩
    · cases id with
      | zero =>
        cases hi
        refine .inr ⟨w.heap.size, _, rfl, Nat.le_refl _, heap_alloc_new w _, by rw [hsz]; exact Nat.le_refl _, fun i hi => ?_⟩
        have hi : i < (nlS s).length := hi
        refine ⟨.string (stAt (nlS s) i), by simp [stAt, List.getD, hi], rfl⟩
      | succ id => simp [bring, Res.list] at hi
    · cases i with
      | zero =>
        cases j with
        | zero => intro _; rfl
        | succ j => simp [bring, Res.list] at hj
      | succ i => simp [bring, Res.list] at hi

theorem split_fn (s : ByteArray) (hs : s.size ≤ 2147483648) : Fn Tryd.prog 17 [vs s, vs nlB] (.one (.fr 1 (nlS s).length (bstrs (nlS s)))) := by
  refine Fn.of_body Tryd.call17 Tryd.func17 rfl Tryd.ntmps17 (ts := [4]) rfl (by simp) rfl (fun N => ?_)
  repeat' (first | ((with_reducible show thenQ _ _ _ _); first | with_reducible refine then_normal ?_ | with_reducible refine then_ret ?_ | with_reducible refine then_exit ?_) | ((with_reducible show blockQ _ _ _ _); first | with_reducible refine block_normal ?_ | with_reducible refine block_ret ?_ | refine block_exit ?_ | refine block_exit_ne rfl ?_) | ((with_reducible show AWP _ _ _ _ _); first | with_reducible refine AWP.seq ?_ | with_reducible refine AWP.block ?_ | with_reducible refine AWP.region ?_ | (refine AWP.drawn rfl (by kernel_rfl) ?_) | with_reducible refine AWP.ret ?_ | with_reducible refine AWP.exit ?_ | with_reducible refine AWP.skip ?_ | refine AWP.cond rfl ?_ ?_) | with_reducible refine ev_nil ?_ | ((first | ((with_reducible show evOps _ _ _ _ _ _); (first | refine ev_step rfl ?_ | refine ev_undef rfl rfl rfl ?_); intro K hK) | ((with_reducible show EvOpen _ _ _ _ _ _ _); refine ev_open ?_; intro K hK) | ((with_reducible show SkOpen _ _ _ _ _ _ _); refine sk_open ?_; intro K hK) | ((with_reducible show callK _ _ _ _ _ _ _ _); first  | (refine call_safe ( genSplit_fn s hs) (Nat.le_of_ble_eq_true rfl) (by repeat' (first | exact trivial | refine ⟨fun _ _ => ⟨_, rfl⟩, ?_⟩)) ?_))); simp only [evOp, oldZ, evQ, evB, capsK, dynK, tabV, bytesK, eqStK, vInt, binK, withS, opd, kput, putS, upd, lookup, skipOp, argsK, loadOwn, bringIn, bring, Res.list, Res.slot, slotsOf, InK_i64, appendK, srcK, growK, storeK, frz, storeV, setBlk, makeK, newBlk, boxV, allocK, buildK, partsK, buildSliceK, plSlice, cutK, boundK, V.one, Value.oneCell', List.set_cons_zero, List.set_cons_succ, c_int, u_bool, bints, u_int, sz_strs, c_string, ei_strs, ea_strs, u_string, bs_bytes, ei_bytes, ea_bytes, sz_bytes, c_u8, u_u8, bstrs, tf_0, tf_1, tf_2, tf_00, tf_01, tf_02, t3_0, t3_1, t3_2, retCell, retCell.cellOk, Nat.zero_le, lenB_is, byteI_is, InK_u8, del, List.getElem?_cons_zero, List.getElem?_cons_succ, Option.bind_some, List.reverse_cons, List.reverse_nil, List.nil_append, List.cons_append, List.length_cons, List.length_nil, Nat.reduceEqDiff, Nat.reduceAdd, Nat.reduceLT, Nat.reduceLeDiff, Nat.reduceMul, Nat.mul_one, Nat.one_mul, Nat.zero_mul, Nat.add_zero, Nat.zero_add, Nat.sub_zero, Nat.mod_one, Nat.not_lt_zero, List.getD_cons_zero, ↓reduceIte, if_true, if_false, eq_self, true_and, and_true, Bool.not_true, Bool.not_false, Bool.true_eq_false, Bool.false_eq_true, false_implies, forall_const, implies_true, Int.toNat_natCast, Int.toNat_zero, Int.toNat_one, Option.isSome_some]) | refine ev_guard rfl rfl rfl ?_ ?_ | ((with_reducible show retQ _ _ _ _); simp only [retQ, retOk, getL, lookup, Option.map_some, fitsL, fits, ND, srcs, Res.list, VE, List.getElem?_cons_zero, List.getElem?_cons_succ, Value.bool.injEq, Value.int.injEq, Nat.reduceEqDiff, ↓reduceIte, and_true, true_and]) | (with_reducible refine hK _ ?_; clear hK K) | (with_reducible refine And.intro ?_ ?_) | (with_reducible intro hc; try simp only [decide_eq_true_eq, decide_eq_false_iff_not, beq_iff_eq, beq_eq_false_iff_ne, bne_iff_ne, bne_eq_false_iff_eq, Bool.not_eq_true', Bool.not_eq_false', Bool.not_true, Bool.not_false, Int.not_lt, Int.not_le, gt_iff_lt, ge_iff_le, ne_eq, Decidable.not_not, reduceCtorEq, inB_true, inB_false, finB_true, finB_false, not_true_eq_false, eqB_refl, Bool.true_eq_false] at hc) | omega)
  all_goals first
    | (exfalso; omega)
    | exact ⟨_, rfl, BE.rfl' _⟩
    | (simp; done)
    | trace_state

/-- Pieces read so far, with the rest: what l1Split keeps. -/
def nlDone (s : ByteArray) (i o : Nat) (out : List ByteArray) : Prop := o ≤ i ∧ i ≤ lenB s ∧ out.length ≤ i ∧ nlS s = out ++ (splitA (((bytesOf s).drop o).take (i - o)) ((bytesOf s).drop i)).map fun x => ⟨x.toArray⟩
theorem nlDone.zero (s : ByteArray) : nlDone s 0 0 [] := ⟨Nat.le_refl _, Nat.zero_le _, Nat.le_refl _, by
  show nlS s = [] ++ (splitA (((bytesOf s).drop 0).take 0) ((bytesOf s).drop 0)).map _
  rw [List.take_zero, List.drop_zero, splitA_nil]; rfl⟩
theorem drop_at {s : ByteArray} {i : Nat} (hi : i < lenB s) : (bytesOf s).drop i = (bytesOf s).getD i 0 :: (bytesOf s).drop (i + 1) := by
  have hi' : i < (bytesOf s).length := hi
  rw [List.drop_eq_getElem_cons hi', List.getD, List.getElem?_eq_getElem hi']; rfl
theorem nlDone.hit {s : ByteArray} {i o : Nat} {out : List ByteArray} (h : nlDone s i o out) (hi : i < lenB s) (hc : (bytesOf s).getD i 0 = 10) : nlDone s (i + 1) (i + 1) (out ++ [⟨(((bytesOf s).drop o).take (i - o)).toArray⟩]) := by
  obtain ⟨h1, h2, h3, h4⟩ := h
  refine ⟨Nat.le_refl _, hi, by simp; omega, ?_⟩
  rw [h4, drop_at hi, hc, splitA_nl, Nat.sub_self, List.take_zero, splitA_nil]
  simp
theorem nlDone.miss {s : ByteArray} {i o : Nat} {out : List ByteArray} (h : nlDone s i o out) (hi : i < lenB s) (hc : (bytesOf s).getD i 0 ≠ 10) : nlDone s (i + 1) o out := by
  obtain ⟨h1, h2, h3, h4⟩ := h
  refine ⟨by omega, hi, by omega, ?_⟩
  rw [h4, drop_at hi, splitA_step hc]
  have e : ((bytesOf s).drop o).take (i + 1 - o) = ((bytesOf s).drop o).take (i - o) ++ [(bytesOf s).getD i 0] := by
    have hl : i - o < ((bytesOf s).drop o).length := by rw [List.length_drop]; have : i < (bytesOf s).length := hi; omega
    rw [show i + 1 - o = (i - o) + 1 by omega, List.take_add_one, List.getElem?_drop, show o + (i - o) = i by omega, List.getD, List.getElem?_eq_getElem (show i < (bytesOf s).length from hi)]
    rfl
  rw [e]
theorem nlDone.last {s : ByteArray} {o : Nat} {out : List ByteArray} (h : nlDone s (lenB s) o out) : nlS s = out ++ [⟨(((bytesOf s).drop o).take (lenB s - o)).toArray⟩] := by
  obtain ⟨h1, h2, h3, h4⟩ := h
  rw [h4, show (bytesOf s).drop (lenB s) = [] from List.drop_length, splitA_end]; rfl

theorem app_be {e : TypeId} {out : List ByteArray} {p : ByteArray} {z : V} : BE ⟨e, out.length + 1, fun j => if j < out.length then vs (stAt out j) else if j - out.length = 0 then vs p else z⟩ ⟨e, (out ++ [p]).length, fun j => vs (stAt (out ++ [p]) j)⟩ := by
  refine ⟨rfl, by simp, fun j hj => VE.of_eq ?_⟩
  have hj : j < (out ++ [p]).length := hj
  rw [List.length_append, List.length_singleton] at hj
  show (if j < out.length then vs (stAt out j) else if j - out.length = 0 then vs p else z) = vs (stAt (out ++ [p]) j)
  by_cases h : j < out.length
  · rw [if_pos h]
    have : stAt (out ++ [p]) j = stAt out j := by unfold stAt; rw [List.getD, List.getElem?_append_left h]; rfl
    rw [this]
  · obtain rfl : j = out.length := by omega
    have : stAt (out ++ [p]) out.length = p := by unfold stAt; simp [List.getD]
    rw [if_neg h, if_pos (by omega), this]

set_option maxHeartbeats 1000000 in
theorem l1Split_fn (s : ByteArray) (hs : s.size ≤ 2147483648) : Fn Tryd.prog 14 [vs s, vu 10] (.one (.fr 1 (nlS s).length (bstrs (nlS s)))) := by
  have hsz := lenB_size s
  refine Fn.of_body Tryd.call14 Tryd.func14 rfl Tryd.ntmps14 (ts := [4]) rfl (by simp) rfl (fun N => ?_)
  repeat' (first | ((with_reducible show thenQ _ _ _ _); first | with_reducible refine then_normal ?_ | with_reducible refine then_ret ?_ | with_reducible refine then_exit ?_) | ((with_reducible show blockQ _ _ _ _); first | with_reducible refine block_normal ?_ | with_reducible refine block_ret ?_ | refine block_exit ?_ | refine block_exit_ne rfl ?_) | ((with_reducible show AWP _ _ _ _ _); first | with_reducible refine AWP.seq ?_ | with_reducible refine AWP.block ?_ | with_reducible refine AWP.region ?_ | (refine AWP.drawn rfl (by kernel_rfl) ?_) | with_reducible refine AWP.ret ?_ | with_reducible refine AWP.exit ?_ | with_reducible refine AWP.skip ?_ | refine AWP.cond rfl ?_ ?_) | with_reducible refine ev_nil ?_ | ((first | ((with_reducible show evOps _ _ _ _ _ _); (first | refine ev_step rfl ?_ | refine ev_undef rfl rfl rfl ?_); intro K hK) | ((with_reducible show EvOpen _ _ _ _ _ _ _); refine ev_open ?_; intro K hK) | ((with_reducible show SkOpen _ _ _ _ _ _ _); refine sk_open ?_; intro K hK) | ((with_reducible show callK _ _ _ _ _ _ _ _); first | fail)); simp only [evOp, oldZ, evQ, evB, capsK, dynK, tabV, bytesK, eqStK, vInt, binK, withS, opd, kput, putS, upd, lookup, skipOp, argsK, loadOwn, bringIn, bring, Res.list, Res.slot, slotsOf, InK_i64, appendK, srcK, growK, storeK, frz, storeV, setBlk, makeK, newBlk, boxV, allocK, buildK, partsK, buildSliceK, plSlice, cutK, boundK, V.one, Value.oneCell', List.set_cons_zero, List.set_cons_succ, c_int, u_bool, bints, u_int, sz_strs, c_string, ei_strs, ea_strs, u_string, bs_bytes, ei_bytes, ea_bytes, sz_bytes, c_u8, u_u8, bstrs, tf_0, tf_1, tf_2, tf_00, tf_01, tf_02, t3_0, t3_1, t3_2, retCell, retCell.cellOk, Nat.zero_le, lenB_is, byteI_is, InK_u8, del, List.getElem?_cons_zero, List.getElem?_cons_succ, Option.bind_some, List.reverse_cons, List.reverse_nil, List.nil_append, List.cons_append, List.length_cons, List.length_nil, Nat.reduceEqDiff, Nat.reduceAdd, Nat.reduceLT, Nat.reduceLeDiff, Nat.reduceMul, Nat.mul_one, Nat.one_mul, Nat.zero_mul, Nat.add_zero, Nat.zero_add, Nat.sub_zero, Nat.mod_one, Nat.not_lt_zero, List.getD_cons_zero, ↓reduceIte, if_true, if_false, eq_self, true_and, and_true, Bool.not_true, Bool.not_false, Bool.true_eq_false, Bool.false_eq_true, false_implies, forall_const, implies_true, Int.toNat_natCast, Int.toNat_zero, Int.toNat_one, Option.isSome_some]) | refine ev_guard rfl rfl rfl ?_ ?_ | ((with_reducible show retQ _ _ _ _); simp only [retQ, retOk, getL, lookup, Option.map_some, fitsL, fits, ND, srcs, Res.list, VE, List.getElem?_cons_zero, List.getElem?_cons_succ, Value.bool.injEq, Value.int.injEq, Nat.reduceEqDiff, ↓reduceIte, and_true, true_and]) | (with_reducible refine hK _ ?_; clear hK K) | (with_reducible refine And.intro ?_ ?_) | (with_reducible intro hc; try simp only [decide_eq_true_eq, decide_eq_false_iff_not, beq_iff_eq, beq_eq_false_iff_ne, bne_iff_ne, bne_eq_false_iff_eq, Bool.not_eq_true', Bool.not_eq_false', Bool.not_true, Bool.not_false, Int.not_lt, Int.not_le, gt_iff_lt, ge_iff_le, ne_eq, Decidable.not_not, reduceCtorEq, inB_true, inB_false, finB_true, finB_false, not_true_eq_false, eqB_refl, Bool.true_eq_false] at hc) | omega)
  all_goals try (exfalso; omega; done)
  refine AWP.virtual 5 9 1 rfl ?_
  refine AWP.loop_entR [0] (fun x : Nat × Nat × List ByteArray => ⟨[(0, .one (.pv (vs s))), (1, sc (.int .u8 10)), (5, .one (.own 0 1 0 x.2.2.length)), (6, sc (.int .i64 x.2.1)), (7, sc (.int .i64 x.1))], [some ⟨9, x.2.2.length, fun j => vs (stAt x.2.2 j)⟩], 34⟩)
    (fun x => nlDone s x.1 x.2.1 x.2.2) (fun x => lenB s - x.1) (0, 0, []) (nlDone.zero s) (by simp [EntR, EntSR, EntHR, SlR, VE, lookup, BE, upd, sc, VE.rfl']) ?_
  rintro ⟨i, o, out⟩ hD
  have hD : nlDone s i o out := hD
  obtain ⟨d1, d2, d3, d4⟩ := id hD
  by_cases hi : i < lenB s
  · by_cases hC : (bytesOf s).getD i 0 = 10
    · have hb : byteI s i = 10 := by unfold byteI; rw [hC]; rfl
      repeat' (first | ((with_reducible show thenQ _ _ _ _); first | with_reducible refine then_normal ?_ | with_reducible refine then_ret ?_ | with_reducible refine then_exit ?_) | ((with_reducible show blockQ _ _ _ _); first | with_reducible refine block_normal ?_ | with_reducible refine block_ret ?_ | refine block_exit ?_ | refine block_exit_ne rfl ?_) | ((with_reducible show AWP _ _ _ _ _); first | with_reducible refine AWP.seq ?_ | with_reducible refine AWP.block ?_ | with_reducible refine AWP.region ?_ | (refine AWP.drawn rfl (by kernel_rfl) ?_) | with_reducible refine AWP.ret ?_ | with_reducible refine AWP.exit ?_ | with_reducible refine AWP.skip ?_ | refine AWP.cond rfl ?_ ?_) | with_reducible refine ev_nil ?_ | ((first | ((with_reducible show evOps _ _ _ _ _ _); (first | refine ev_step rfl ?_ | refine ev_undef rfl rfl rfl ?_); intro K hK) | ((with_reducible show EvOpen _ _ _ _ _ _ _); refine ev_open ?_; intro K hK) | ((with_reducible show SkOpen _ _ _ _ _ _ _); refine sk_open ?_; intro K hK) | ((with_reducible show callK _ _ _ _ _ _ _ _); first | fail)); simp only [evOp, oldZ, evQ, evB, capsK, dynK, tabV, bytesK, eqStK, vInt, binK, withS, opd, kput, putS, upd, lookup, skipOp, argsK, loadOwn, bringIn, bring, Res.list, Res.slot, slotsOf, InK_i64, appendK, srcK, growK, storeK, frz, storeV, setBlk, makeK, newBlk, boxV, allocK, buildK, partsK, buildSliceK, plSlice, cutK, boundK, V.one, Value.oneCell', List.set_cons_zero, List.set_cons_succ, c_int, u_bool, bints, u_int, sz_strs, c_string, ei_strs, ea_strs, u_string, bs_bytes, ei_bytes, ea_bytes, sz_bytes, c_u8, u_u8, bstrs, tf_0, tf_1, tf_2, tf_00, tf_01, tf_02, t3_0, t3_1, t3_2, retCell, retCell.cellOk, Nat.zero_le, lenB_is, byteI_is, InK_u8, del, List.getElem?_cons_zero, List.getElem?_cons_succ, Option.bind_some, List.reverse_cons, List.reverse_nil, List.nil_append, List.cons_append, List.length_cons, List.length_nil, Nat.reduceEqDiff, Nat.reduceAdd, Nat.reduceLT, Nat.reduceLeDiff, Nat.reduceMul, Nat.mul_one, Nat.one_mul, Nat.zero_mul, Nat.add_zero, Nat.zero_add, Nat.sub_zero, Nat.mod_one, Nat.not_lt_zero, List.getD_cons_zero, ↓reduceIte, if_true, if_false, eq_self, true_and, and_true, Bool.not_true, Bool.not_false, Bool.true_eq_false, Bool.false_eq_true, false_implies, forall_const, implies_true, Int.toNat_natCast, Int.toNat_zero, Int.toNat_one, Option.isSome_some]) | refine ev_guard rfl rfl rfl ?_ ?_ | ((with_reducible show retQ _ _ _ _); simp only [retQ, retOk, getL, lookup, Option.map_some, fitsL, fits, ND, srcs, Res.list, VE, List.getElem?_cons_zero, List.getElem?_cons_succ, Value.bool.injEq, Value.int.injEq, Nat.reduceEqDiff, ↓reduceIte, and_true, true_and]) | (with_reducible refine hK _ ?_; clear hK K) | (with_reducible refine And.intro ?_ ?_) | (with_reducible intro hc; try simp only [decide_eq_true_eq, decide_eq_false_iff_not, beq_iff_eq, beq_eq_false_iff_ne, bne_iff_ne, bne_eq_false_iff_eq, Bool.not_eq_true', Bool.not_eq_false', Bool.not_true, Bool.not_false, Int.not_lt, Int.not_le, gt_iff_lt, ge_iff_le, ne_eq, Decidable.not_not, reduceCtorEq, inB_true, inB_false, finB_true, finB_false, not_true_eq_false, eqB_refl, Bool.true_eq_false] at hc) | omega)
      all_goals first
        | (exfalso; omega)
        | (rename_i q; obtain rfl : q = 0 := (by omega); rfl)
        | skip
      refine ⟨(i + 1, i + 1, out ++ [⟨(((bytesOf s).drop o).take (i - o)).toArray⟩]), hD.hit hi hC, by show lenB s - (i + 1) < lenB s - i; omega, [2], rfl, by decide, ?_, ?_, trivial⟩
      · simp [EntSR, SlR, VE, lookup, sc, VE.rfl']
      · show BE _ _
        exact app_be (z := vs ByteArray.empty)
    · have hb : byteI s i ≠ 10 := fun e => hC (UInt8.toNat_inj.1 (by unfold byteI at e; show _ = 10; omega))
      repeat' (first | ((with_reducible show thenQ _ _ _ _); first | with_reducible refine then_normal ?_ | with_reducible refine then_ret ?_ | with_reducible refine then_exit ?_) | ((with_reducible show blockQ _ _ _ _); first | with_reducible refine block_normal ?_ | with_reducible refine block_ret ?_ | refine block_exit ?_ | refine block_exit_ne rfl ?_) | ((with_reducible show AWP _ _ _ _ _); first | with_reducible refine AWP.seq ?_ | with_reducible refine AWP.block ?_ | with_reducible refine AWP.region ?_ | (refine AWP.drawn rfl (by kernel_rfl) ?_) | with_reducible refine AWP.ret ?_ | with_reducible refine AWP.exit ?_ | with_reducible refine AWP.skip ?_ | refine AWP.cond rfl ?_ ?_) | with_reducible refine ev_nil ?_ | ((first | ((with_reducible show evOps _ _ _ _ _ _); (first | refine ev_step rfl ?_ | refine ev_undef rfl rfl rfl ?_); intro K hK) | ((with_reducible show EvOpen _ _ _ _ _ _ _); refine ev_open ?_; intro K hK) | ((with_reducible show SkOpen _ _ _ _ _ _ _); refine sk_open ?_; intro K hK) | ((with_reducible show callK _ _ _ _ _ _ _ _); first | fail)); simp only [evOp, oldZ, evQ, evB, capsK, dynK, tabV, bytesK, eqStK, vInt, binK, withS, opd, kput, putS, upd, lookup, skipOp, argsK, loadOwn, bringIn, bring, Res.list, Res.slot, slotsOf, InK_i64, appendK, srcK, growK, storeK, frz, storeV, setBlk, makeK, newBlk, boxV, allocK, buildK, partsK, buildSliceK, plSlice, cutK, boundK, V.one, Value.oneCell', List.set_cons_zero, List.set_cons_succ, c_int, u_bool, bints, u_int, sz_strs, c_string, ei_strs, ea_strs, u_string, bs_bytes, ei_bytes, ea_bytes, sz_bytes, c_u8, u_u8, bstrs, tf_0, tf_1, tf_2, tf_00, tf_01, tf_02, t3_0, t3_1, t3_2, retCell, retCell.cellOk, Nat.zero_le, lenB_is, byteI_is, InK_u8, del, List.getElem?_cons_zero, List.getElem?_cons_succ, Option.bind_some, List.reverse_cons, List.reverse_nil, List.nil_append, List.cons_append, List.length_cons, List.length_nil, Nat.reduceEqDiff, Nat.reduceAdd, Nat.reduceLT, Nat.reduceLeDiff, Nat.reduceMul, Nat.mul_one, Nat.one_mul, Nat.zero_mul, Nat.add_zero, Nat.zero_add, Nat.sub_zero, Nat.mod_one, Nat.not_lt_zero, List.getD_cons_zero, ↓reduceIte, if_true, if_false, eq_self, true_and, and_true, Bool.not_true, Bool.not_false, Bool.true_eq_false, Bool.false_eq_true, false_implies, forall_const, implies_true, Int.toNat_natCast, Int.toNat_zero, Int.toNat_one, Option.isSome_some]) | refine ev_guard rfl rfl rfl ?_ ?_ | ((with_reducible show retQ _ _ _ _); simp only [retQ, retOk, getL, lookup, Option.map_some, fitsL, fits, ND, srcs, Res.list, VE, List.getElem?_cons_zero, List.getElem?_cons_succ, Value.bool.injEq, Value.int.injEq, Nat.reduceEqDiff, ↓reduceIte, and_true, true_and]) | (with_reducible refine hK _ ?_; clear hK K) | (with_reducible refine And.intro ?_ ?_) | (with_reducible intro hc; try simp only [decide_eq_true_eq, decide_eq_false_iff_not, beq_iff_eq, beq_eq_false_iff_ne, bne_iff_ne, bne_eq_false_iff_eq, Bool.not_eq_true', Bool.not_eq_false', Bool.not_true, Bool.not_false, Int.not_lt, Int.not_le, gt_iff_lt, ge_iff_le, ne_eq, Decidable.not_not, reduceCtorEq, inB_true, inB_false, finB_true, finB_false, not_true_eq_false, eqB_refl, Bool.true_eq_false] at hc) | omega)
      all_goals first
        | (exfalso; omega)
        | (exact ⟨(i + 1, o, out), hD.miss hi hC, by show lenB s - (i + 1) < lenB s - i; omega, [0], rfl, by decide, by simp [EntSR, SlR, VE, lookup, sc, VE.rfl'], BE.rfl' _, trivial⟩)
        | trace_state
  · obtain rfl : i = lenB s := by omega
    rw [hD.last]
    repeat' (first | ((with_reducible show thenQ _ _ _ _); first | with_reducible refine then_normal ?_ | with_reducible refine then_ret ?_ | with_reducible refine then_exit ?_) | ((with_reducible show blockQ _ _ _ _); first | with_reducible refine block_normal ?_ | with_reducible refine block_ret ?_ | refine block_exit ?_ | refine block_exit_ne rfl ?_) | ((with_reducible show AWP _ _ _ _ _); first | with_reducible refine AWP.seq ?_ | with_reducible refine AWP.block ?_ | with_reducible refine AWP.region ?_ | (refine AWP.drawn rfl (by kernel_rfl) ?_) | with_reducible refine AWP.ret ?_ | with_reducible refine AWP.exit ?_ | with_reducible refine AWP.skip ?_ | refine AWP.cond rfl ?_ ?_) | with_reducible refine ev_nil ?_ | ((first | ((with_reducible show evOps _ _ _ _ _ _); (first | refine ev_step rfl ?_ | refine ev_undef rfl rfl rfl ?_); intro K hK) | ((with_reducible show EvOpen _ _ _ _ _ _ _); refine ev_open ?_; intro K hK) | ((with_reducible show SkOpen _ _ _ _ _ _ _); refine sk_open ?_; intro K hK) | ((with_reducible show callK _ _ _ _ _ _ _ _); first | fail)); simp only [evOp, oldZ, evQ, evB, capsK, dynK, tabV, bytesK, eqStK, vInt, binK, withS, opd, kput, putS, upd, lookup, skipOp, argsK, loadOwn, bringIn, bring, Res.list, Res.slot, slotsOf, InK_i64, appendK, srcK, growK, storeK, frz, storeV, setBlk, makeK, newBlk, boxV, allocK, buildK, partsK, buildSliceK, plSlice, cutK, boundK, V.one, Value.oneCell', List.set_cons_zero, List.set_cons_succ, c_int, u_bool, bints, u_int, sz_strs, c_string, ei_strs, ea_strs, u_string, bs_bytes, ei_bytes, ea_bytes, sz_bytes, c_u8, u_u8, bstrs, tf_0, tf_1, tf_2, tf_00, tf_01, tf_02, t3_0, t3_1, t3_2, retCell, retCell.cellOk, Nat.zero_le, lenB_is, byteI_is, InK_u8, del, List.getElem?_cons_zero, List.getElem?_cons_succ, Option.bind_some, List.reverse_cons, List.reverse_nil, List.nil_append, List.cons_append, List.length_cons, List.length_nil, Nat.reduceEqDiff, Nat.reduceAdd, Nat.reduceLT, Nat.reduceLeDiff, Nat.reduceMul, Nat.mul_one, Nat.one_mul, Nat.zero_mul, Nat.add_zero, Nat.zero_add, Nat.sub_zero, Nat.mod_one, Nat.not_lt_zero, List.getD_cons_zero, ↓reduceIte, if_true, if_false, eq_self, true_and, and_true, Bool.not_true, Bool.not_false, Bool.true_eq_false, Bool.false_eq_true, false_implies, forall_const, implies_true, Int.toNat_natCast, Int.toNat_zero, Int.toNat_one, Option.isSome_some]) | refine ev_guard rfl rfl rfl ?_ ?_ | ((with_reducible show retQ _ _ _ _); simp only [retQ, retOk, getL, lookup, Option.map_some, fitsL, fits, ND, srcs, Res.list, VE, List.getElem?_cons_zero, List.getElem?_cons_succ, Value.bool.injEq, Value.int.injEq, Nat.reduceEqDiff, ↓reduceIte, and_true, true_and]) | (with_reducible refine hK _ ?_; clear hK K) | (with_reducible refine And.intro ?_ ?_) | (with_reducible intro hc; try simp only [decide_eq_true_eq, decide_eq_false_iff_not, beq_iff_eq, beq_eq_false_iff_ne, bne_iff_ne, bne_eq_false_iff_eq, Bool.not_eq_true', Bool.not_eq_false', Bool.not_true, Bool.not_false, Int.not_lt, Int.not_le, gt_iff_lt, ge_iff_le, ne_eq, Decidable.not_not, reduceCtorEq, inB_true, inB_false, finB_true, finB_false, not_true_eq_false, eqB_refl, Bool.true_eq_false] at hc) | omega)
    all_goals first
      | (exfalso; omega)
      | (rename_i q; obtain rfl : q = 0 := (by omega); rfl)
      | exact ⟨_, rfl, app_be⟩
      | (simp; done)
      | trace_state
end Go.Proofs.YtmfkclfeolpndaaDoor
