/- What JoinScripts returns. Conditions: texts no longer than 2^30. -/
import Derived.Test.YtmfkclfeolpndaaDoorFnNl
namespace Go.Proofs.YtmfkclfeolpndaaDoor
open Go.RowKit Go.Proofs
set_option linter.unusedSimpArgs false
set_option linter.unusedVariables false

/-- The text is a script. -/
def okL (s : ByteArray) : Bool := decide (lenB s ≤ 2000) && (decide (lenB s = 0) || decide (byteI s (lenB s - 1) = 10)) && decide ((nlS s).length ≤ 41)
theorem nlS_last (s : ByteArray) : stAt (nlS s) ((nlS s).length - 1) = ByteArray.empty ↔ (lenB s = 0 ∨ byteI s (lenB s - 1) = 10) := by
  have h := splitL_last (bytesOf s)
  have e1 : (nlS s).length - 1 = (bytesOf s).count 10 := by rw [nlS_len]; rfl
  have hlt : (bytesOf s).count 10 < (splitL (bytesOf s)).length := by rw [splitL_len]; omega
  have e2 : stAt (nlS s) ((nlS s).length - 1) = ⟨((splitL (bytesOf s)).getD ((bytesOf s).count 10) []).toArray⟩ := by
    rw [e1]
    unfold stAt nlS
    rw [List.getD, List.getElem?_map, List.getD]
    show Option.getD (Option.map _ (splitL (bytesOf s))[(bytesOf s).count 10]?) _ = _
    rw [List.getElem?_eq_getElem hlt]; rfl
  have e3 : (⟨((splitL (bytesOf s)).getD ((bytesOf s).count 10) []).toArray⟩ : ByteArray) = ByteArray.empty ↔ (splitL (bytesOf s)).getD ((bytesOf s).count 10) [] = [] := by
    constructor
    · intro e
      have := congrArg (fun x : ByteArray => x.data.toList) e
      simpa using this
    · intro e; rw [e]; rfl
  rw [e2, e3, h]
  have e4 : bytesOf s = [] ↔ lenB s = 0 := List.length_eq_zero_iff.symm
  have e5 : (bytesOf s).getD ((bytesOf s).length - 1) 0 = 10 ↔ byteI s (lenB s - 1) = 10 := by
    unfold byteI
    constructor
    · intro e; show (((bytesOf s).getD ((bytesOf s).length - 1) 0).toNat : Int) = 10; rw [e]; rfl
    · intro e
      have e : (((bytesOf s).getD ((bytesOf s).length - 1) 0).toNat : Int) = 10 := e
      exact UInt8.toNat_inj.1 (by show _ = 10; omega)
  rw [e4, e5]

theorem okL_iff (s : ByteArray) : okL s = true ↔ lenB s ≤ 2000 ∧ (lenB s = 0 ∨ byteI s (lenB s - 1) = 10) ∧ (nlS s).length ≤ 41 := by
  unfold okL
  simp only [Bool.and_eq_true, Bool.or_eq_true, decide_eq_true_eq]
  constructor
  · rintro ⟨⟨h1, h2⟩, h3⟩; exact ⟨h1, h2, h3⟩
  · rintro ⟨h1, h2, h3⟩; exact ⟨⟨h1, h2⟩, h3⟩
theorem nlS_le (s : ByteArray) : 1 ≤ (nlS s).length ∧ (nlS s).length ≤ s.size + 1 := by
  have := List.count_le_length (a := 10) (l := s.data.toList)
  have e : s.data.toList.length = s.size := Array.length_toList
  rw [nlS_len]; omega
theorem bytes_nil (s : ByteArray) : bytesOf s = bytesOf ⟨#[]⟩ ↔ lenB s = 0 := List.length_eq_zero_iff.symm
theorem bytes_empty (s : ByteArray) : bytesOf s = bytesOf ⟨#[]⟩ ↔ s = ByteArray.empty := by
  rw [bytes_nil, lenB_size]
  constructor
  · intro h
    apply ByteArray.ext
    apply Array.ext
    · exact h
    · intro i h1 h2; exact absurd h1 (by have : s.data.size = s.size := rfl; omega)
  · rintro rfl; rfl

set_option maxHeartbeats 1000000 in
theorem linesOf_fn (s : ByteArray) (hs : s.size ≤ 2147483648) : Fn Tryd.prog 13 [vs s] (.many [.fr 1 ((nlS s).length - 1) (bstrs (nlS s)), .pv (vb (okL s))]) := by
  have hsz := lenB_size s
  have hle := nlS_le s
  have hsp := split_fn s hs
  have hI := okL_iff s
  have hE : bytesOf (stAt (nlS s) (((nlS s).length : Int) - 1).toNat) = bytesOf ⟨#[]⟩ ↔ (lenB s = 0 ∨ byteI s (lenB s - 1) = 10) := by
    rw [show (((nlS s).length : Int) - 1).toNat = (nlS s).length - 1 by omega, bytes_empty, nlS_last]
  generalize okL s = ok at *
  generalize nlS s = L at *
  have hI2 : (ok = true → lenB s ≤ 2000 ∧ (lenB s = 0 ∨ byteI s (lenB s - 1) = 10) ∧ L.length ≤ 41) ∧ (ok = false → ¬ (lenB s ≤ 2000 ∧ (lenB s = 0 ∨ byteI s (lenB s - 1) = 10) ∧ L.length ≤ 41)) := ⟨hI.1, fun h e => by rw [hI.2 e] at h; cases h⟩
  clear hI
  cases ok
  all_goals
    first | have hI := hI2.1 rfl | have hI := hI2.2 rfl
    clear hI2
    refine Fn.of_body Tryd.call13 Tryd.func13 rfl Tryd.ntmps13 (ts := [2, 3]) rfl (by simp) rfl (fun N => ?_)
    repeat' (first | ((with_reducible show thenQ _ _ _ _); first | with_reducible refine then_normal ?_ | with_reducible refine then_ret ?_ | with_reducible refine then_exit ?_) | ((with_reducible show blockQ _ _ _ _); first | with_reducible refine block_normal ?_ | with_reducible refine block_ret ?_ | refine block_exit ?_ | refine block_exit_ne rfl ?_) | ((with_reducible show AWP _ _ _ _ _); first | with_reducible refine AWP.seq ?_ | with_reducible refine AWP.block ?_ | with_reducible refine AWP.region ?_ | (refine AWP.drawn rfl (by kernel_rfl) ?_) | with_reducible refine AWP.ret ?_ | with_reducible refine AWP.exit ?_ | with_reducible refine AWP.skip ?_ | refine AWP.cond rfl ?_ ?_) | with_reducible refine ev_nil ?_ | ((first | ((with_reducible show evOps _ _ _ _ _ _); (first | refine ev_step rfl ?_ | refine ev_undef rfl rfl rfl ?_); intro K hK) | ((with_reducible show EvOpen _ _ _ _ _ _ _); refine ev_open ?_; intro K hK) | ((with_reducible show SkOpen _ _ _ _ _ _ _); refine sk_open ?_; intro K hK) | ((with_reducible show callK _ _ _ _ _ _ _ _); first  | (refine call_safe ( hsp) (Nat.le_of_ble_eq_true rfl) (by repeat' (first | exact trivial | refine ⟨fun _ _ => ⟨_, rfl⟩, ?_⟩)) ?_))); simp only [evOp, oldZ, evQ, evB, capsK, dynK, tabV, bytesK, eqStK, vInt, binK, withS, opd, kput, putS, upd, lookup, skipOp, argsK, loadOwn, bringIn, bring, Res.list, Res.slot, slotsOf, InK_i64, appendK, srcK, growK, storeK, frz, storeV, setBlk, makeK, newBlk, boxV, allocK, buildK, partsK, buildSliceK, plSlice, cutK, boundK, V.one, Value.oneCell', List.set_cons_zero, List.set_cons_succ, c_int, u_bool, bints, u_int, sz_strs, c_string, ei_strs, ea_strs, u_string, bs_bytes, ei_bytes, ea_bytes, sz_bytes, c_u8, u_u8, bstrs, tf_0, tf_1, tf_2, tf_00, tf_01, tf_02, t3_0, t3_1, t3_2, retCell, retCell.cellOk, Nat.zero_le, lenB_is, byteI_is, InK_u8, del, List.getElem?_cons_zero, List.getElem?_cons_succ, Option.bind_some, List.reverse_cons, List.reverse_nil, List.nil_append, List.cons_append, List.length_cons, List.length_nil, Nat.reduceEqDiff, Nat.reduceAdd, Nat.reduceLT, Nat.reduceLeDiff, Nat.reduceMul, Nat.mul_one, Nat.one_mul, Nat.zero_mul, Nat.add_zero, Nat.zero_add, Nat.sub_zero, Nat.mod_one, Nat.not_lt_zero, List.getD_cons_zero, ↓reduceIte, if_true, if_false, eq_self, true_and, and_true, Bool.not_true, Bool.not_false, Bool.true_eq_false, Bool.false_eq_true, false_implies, forall_const, implies_true, Int.toNat_natCast, Int.toNat_zero, Int.toNat_one, Option.isSome_some]) | refine ev_guard rfl rfl rfl ?_ ?_ | ((with_reducible show retQ _ _ _ _); simp only [retQ, retOk, getL, lookup, Option.map_some, fitsL, fits, ND, srcs, Res.list, VE, List.getElem?_cons_zero, List.getElem?_cons_succ, Value.bool.injEq, Value.int.injEq, Nat.reduceEqDiff, ↓reduceIte, and_true, true_and]) | (with_reducible refine hK _ ?_; clear hK K) | (with_reducible refine And.intro ?_ ?_) | (with_reducible intro hc; try simp only [decide_eq_true_eq, decide_eq_false_iff_not, beq_iff_eq, beq_eq_false_iff_ne, bne_iff_ne, bne_eq_false_iff_eq, Bool.not_eq_true', Bool.not_eq_false', Bool.not_true, Bool.not_false, Int.not_lt, Int.not_le, gt_iff_lt, ge_iff_le, ne_eq, Decidable.not_not, reduceCtorEq, inB_true, inB_false, finB_true, finB_false, not_true_eq_false, eqB_refl, Bool.true_eq_false] at hc) | omega)
    all_goals first
      | (exfalso; omega)
      | omega
      | exact ⟨_, rfl, BE.rfl' _⟩
      | (simp; done)
      | skip
    all_goals try simp only [hE] at *
    all_goals first
      | (exfalso; omega)
      | (simp; omega)
      | trace_state

set_option maxHeartbeats 1000000 in
theorem csLines_fn (s : ByteArray) (hs : s.size ≤ 2147483648) : Fn Tryd.prog 12 [vs s] (.many [.fr 1 (if okL s then (nlS s).length - 1 else 0) (if okL s then bstrs (nlS s) else ⟨9, 0, fun _ => .val undef⟩), .pv (vb (okL s))]) := by
  have hsz := lenB_size s
  have hle := nlS_le s
  have hsp := l1Split_fn s hs
  have hI := okL_iff s
  have hZ := bytes_nil s
  generalize okL s = ok at *
  generalize nlS s = L at *
  have hI2 : (ok = true → lenB s ≤ 2000 ∧ (lenB s = 0 ∨ byteI s (lenB s - 1) = 10) ∧ L.length ≤ 41) ∧ (ok = false → ¬ (lenB s ≤ 2000 ∧ (lenB s = 0 ∨ byteI s (lenB s - 1) = 10) ∧ L.length ≤ 41)) := ⟨hI.1, fun h e => by rw [hI.2 e] at h; cases h⟩
  clear hI
  cases ok
  all_goals
    first | have hI := hI2.1 rfl | have hI := hI2.2 rfl
    clear hI2
    simp only [if_true, if_false, Bool.false_eq_true]
    by_cases h0 : lenB s = 0
    · have hJ : ((lenB s : Int) - 1).toNat = 0 := by omega
      have hZ := hZ.2 h0
      refine Fn.of_body Tryd.call12 Tryd.func12 rfl Tryd.ntmps12 (ts := [2, 3]) rfl (by simp) rfl (fun N => ?_)
      repeat' (first | ((with_reducible show thenQ _ _ _ _); first | with_reducible refine then_normal ?_ | with_reducible refine then_ret ?_ | with_reducible refine then_exit ?_) | ((with_reducible show blockQ _ _ _ _); first | with_reducible refine block_normal ?_ | with_reducible refine block_ret ?_ | refine block_exit ?_ | refine block_exit_ne rfl ?_) | ((with_reducible show AWP _ _ _ _ _); first | with_reducible refine AWP.seq ?_ | with_reducible refine AWP.block ?_ | with_reducible refine AWP.region ?_ | (refine AWP.drawn rfl (by kernel_rfl) ?_) | with_reducible refine AWP.ret ?_ | with_reducible refine AWP.exit ?_ | with_reducible refine AWP.skip ?_ | refine AWP.cond rfl ?_ ?_) | with_reducible refine ev_nil ?_ | ((first | ((with_reducible show evOps _ _ _ _ _ _); (first | refine ev_step rfl ?_ | refine ev_undef rfl rfl rfl ?_); intro K hK) | ((with_reducible show EvOpen _ _ _ _ _ _ _); refine ev_open ?_; intro K hK) | ((with_reducible show SkOpen _ _ _ _ _ _ _); refine sk_open ?_; intro K hK) | ((with_reducible show callK _ _ _ _ _ _ _ _); first  | (refine call_safe ( hsp) (Nat.le_of_ble_eq_true rfl) (by repeat' (first | exact trivial | refine ⟨fun _ _ => ⟨_, rfl⟩, ?_⟩)) ?_))); simp only [evOp, oldZ, evQ, evB, capsK, dynK, tabV, bytesK, eqStK, vInt, binK, withS, opd, kput, putS, upd, lookup, skipOp, argsK, loadOwn, bringIn, bring, Res.list, Res.slot, slotsOf, InK_i64, appendK, srcK, growK, storeK, frz, storeV, setBlk, makeK, newBlk, boxV, allocK, buildK, partsK, buildSliceK, plSlice, cutK, boundK, V.one, Value.oneCell', List.set_cons_zero, List.set_cons_succ, c_int, u_bool, bints, u_int, sz_strs, c_string, ei_strs, ea_strs, u_string, bs_bytes, ei_bytes, ea_bytes, sz_bytes, c_u8, u_u8, bstrs, tf_0, tf_1, tf_2, tf_00, tf_01, tf_02, t3_0, t3_1, t3_2, retCell, retCell.cellOk, Nat.zero_le, lenB_is, byteI_is, InK_u8, del, List.getElem?_cons_zero, List.getElem?_cons_succ, Option.bind_some, List.reverse_cons, List.reverse_nil, List.nil_append, List.cons_append, List.length_cons, List.length_nil, Nat.reduceEqDiff, Nat.reduceAdd, Nat.reduceLT, Nat.reduceLeDiff, Nat.reduceMul, Nat.mul_one, Nat.one_mul, Nat.zero_mul, Nat.add_zero, Nat.zero_add, Nat.sub_zero, Nat.mod_one, Nat.not_lt_zero, List.getD_cons_zero, ↓reduceIte, if_true, if_false, eq_self, true_and, and_true, Bool.not_true, Bool.not_false, Bool.true_eq_false, Bool.false_eq_true, false_implies, forall_const, implies_true, Int.toNat_natCast, Int.toNat_zero, Int.toNat_one, Option.isSome_some]) | refine ev_guard rfl rfl rfl ?_ ?_ | ((with_reducible show retQ _ _ _ _); simp only [retQ, retOk, getL, lookup, Option.map_some, fitsL, fits, ND, srcs, Res.list, VE, List.getElem?_cons_zero, List.getElem?_cons_succ, Value.bool.injEq, Value.int.injEq, Nat.reduceEqDiff, ↓reduceIte, and_true, true_and]) | (with_reducible refine hK _ ?_; clear hK K) | (with_reducible refine And.intro ?_ ?_) | (with_reducible intro hc; try simp only [decide_eq_true_eq, decide_eq_false_iff_not, beq_iff_eq, beq_eq_false_iff_ne, bne_iff_ne, bne_eq_false_iff_eq, Bool.not_eq_true', Bool.not_eq_false', Bool.not_true, Bool.not_false, Int.not_lt, Int.not_le, gt_iff_lt, ge_iff_le, ne_eq, Decidable.not_not, reduceCtorEq, inB_true, inB_false, finB_true, finB_false, not_true_eq_false, eqB_refl, Bool.true_eq_false] at hc) | omega)
      all_goals first
        | (exfalso; omega)
        | (exfalso; exact absurd hZ (by assumption))
        | omega
        | exact ⟨_, rfl, BE.rfl' _⟩
        | (simp; done)
        | trace_state
    · have hJ : ((lenB s : Int) - 1).toNat = lenB s - 1 := by omega
      have hZ : ¬ bytesOf s = bytesOf ⟨#[]⟩ := fun e => h0 (hZ.1 e)
      refine Fn.of_body Tryd.call12 Tryd.func12 rfl Tryd.ntmps12 (ts := [2, 3]) rfl (by simp) rfl (fun N => ?_)
      repeat' (first | ((with_reducible show thenQ _ _ _ _); first | with_reducible refine then_normal ?_ | with_reducible refine then_ret ?_ | with_reducible refine then_exit ?_) | ((with_reducible show blockQ _ _ _ _); first | with_reducible refine block_normal ?_ | with_reducible refine block_ret ?_ | refine block_exit ?_ | refine block_exit_ne rfl ?_) | ((with_reducible show AWP _ _ _ _ _); first | with_reducible refine AWP.seq ?_ | with_reducible refine AWP.block ?_ | with_reducible refine AWP.region ?_ | (refine AWP.drawn rfl (by kernel_rfl) ?_) | with_reducible refine AWP.ret ?_ | with_reducible refine AWP.exit ?_ | with_reducible refine AWP.skip ?_ | refine AWP.cond rfl ?_ ?_) | with_reducible refine ev_nil ?_ | ((first | ((with_reducible show evOps _ _ _ _ _ _); (first | refine ev_step rfl ?_ | refine ev_undef rfl rfl rfl ?_); intro K hK) | ((with_reducible show EvOpen _ _ _ _ _ _ _); refine ev_open ?_; intro K hK) | ((with_reducible show SkOpen _ _ _ _ _ _ _); refine sk_open ?_; intro K hK) | ((with_reducible show callK _ _ _ _ _ _ _ _); first  | (refine call_safe ( hsp) (Nat.le_of_ble_eq_true rfl) (by repeat' (first | exact trivial | refine ⟨fun _ _ => ⟨_, rfl⟩, ?_⟩)) ?_))); simp only [evOp, oldZ, evQ, evB, capsK, dynK, tabV, bytesK, eqStK, vInt, binK, withS, opd, kput, putS, upd, lookup, skipOp, argsK, loadOwn, bringIn, bring, Res.list, Res.slot, slotsOf, InK_i64, appendK, srcK, growK, storeK, frz, storeV, setBlk, makeK, newBlk, boxV, allocK, buildK, partsK, buildSliceK, plSlice, cutK, boundK, V.one, Value.oneCell', List.set_cons_zero, List.set_cons_succ, c_int, u_bool, bints, u_int, sz_strs, c_string, ei_strs, ea_strs, u_string, bs_bytes, ei_bytes, ea_bytes, sz_bytes, c_u8, u_u8, bstrs, tf_0, tf_1, tf_2, tf_00, tf_01, tf_02, t3_0, t3_1, t3_2, retCell, retCell.cellOk, Nat.zero_le, lenB_is, byteI_is, InK_u8, del, List.getElem?_cons_zero, List.getElem?_cons_succ, Option.bind_some, List.reverse_cons, List.reverse_nil, List.nil_append, List.cons_append, List.length_cons, List.length_nil, Nat.reduceEqDiff, Nat.reduceAdd, Nat.reduceLT, Nat.reduceLeDiff, Nat.reduceMul, Nat.mul_one, Nat.one_mul, Nat.zero_mul, Nat.add_zero, Nat.zero_add, Nat.sub_zero, Nat.mod_one, Nat.not_lt_zero, List.getD_cons_zero, ↓reduceIte, if_true, if_false, eq_self, true_and, and_true, Bool.not_true, Bool.not_false, Bool.true_eq_false, Bool.false_eq_true, false_implies, forall_const, implies_true, Int.toNat_natCast, Int.toNat_zero, Int.toNat_one, Option.isSome_some]) | refine ev_guard rfl rfl rfl ?_ ?_ | ((with_reducible show retQ _ _ _ _); simp only [retQ, retOk, getL, lookup, Option.map_some, fitsL, fits, ND, srcs, Res.list, VE, List.getElem?_cons_zero, List.getElem?_cons_succ, Value.bool.injEq, Value.int.injEq, Nat.reduceEqDiff, ↓reduceIte, and_true, true_and]) | (with_reducible refine hK _ ?_; clear hK K) | (with_reducible refine And.intro ?_ ?_) | (with_reducible intro hc; try simp only [decide_eq_true_eq, decide_eq_false_iff_not, beq_iff_eq, beq_eq_false_iff_ne, bne_iff_ne, bne_eq_false_iff_eq, Bool.not_eq_true', Bool.not_eq_false', Bool.not_true, Bool.not_false, Int.not_lt, Int.not_le, gt_iff_lt, ge_iff_le, ne_eq, Decidable.not_not, reduceCtorEq, inB_true, inB_false, finB_true, finB_false, not_true_eq_false, eqB_refl, Bool.true_eq_false] at hc) | omega)
      all_goals first
        | (exfalso; omega)
        | (exfalso; exact absurd (by assumption) hZ)
        | omega
        | exact ⟨_, rfl, BE.rfl' _⟩
        | (simp; done)
        | skip
      all_goals try simp only [hJ] at *
      all_goals first
        | (exfalso; omega)
        | trace_state
end Go.Proofs.YtmfkclfeolpndaaDoor
