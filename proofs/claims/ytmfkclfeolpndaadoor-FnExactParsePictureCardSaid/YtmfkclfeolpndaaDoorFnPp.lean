/- What ParsePicture returns. Conditions: texts no longer than 2^30. -/
import Derived.Test.YtmfkclfeolpndaaDoorFnJs
import Derived.Test.YtmfkclfeolpndaaDoorFnPic
namespace Go.Proofs.YtmfkclfeolpndaaDoor
open Go.RowKit Go.Proofs
set_option linter.unusedSimpArgs false
set_option linter.unusedVariables false

/-- The text ends in a newline. -/
def endNl (s : ByteArray) : Bool := Lib.hasSuffix s.data.toList [10]
def trimNl (s : ByteArray) : ByteArray := ⟨(Lib.trimSuffix s.data.toList [10]).toArray⟩
theorem endNl_split {s : ByteArray} (h : endNl s = true) : s.data.toList = (trimNl s).data.toList ++ [10] := by
  unfold endNl at h
  obtain ⟨t, ht⟩ := List.isSuffixOf_iff_suffix.1 h
  have e : Lib.trimSuffix s.data.toList [10] = t := by
    unfold Lib.trimSuffix
    rw [if_pos h, ← ht]
    simp
  show _ = Lib.trimSuffix s.data.toList [10] ++ [10]
  rw [e, ht]
theorem endNl_no {s : ByteArray} (h : endNl s = false) : ¬ (lenB s ≠ 0 ∧ byteI s (lenB s - 1) = 10) := fun ⟨h1, h2⟩ => by
  have hp : s.data.toList ≠ [] := fun e => h1 (by show s.data.toList.length = 0; rw [e]; rfl)
  have hl : s.data.toList.getD (s.data.toList.length - 1) 0 = 10 := UInt8.toNat_inj.1 (by
    have h2 : ((s.data.toList.getD (s.data.toList.length - 1) 0).toNat : Int) = 10 := h2
    show _ = 10; omega)
  have hpos : 0 < s.data.toList.length := List.length_pos_iff.2 hp
  have e : s.data.toList = s.data.toList.dropLast ++ [10] := by
    have := List.dropLast_concat_getLast hp
    rw [List.getLast_eq_getElem hp] at this
    rw [List.getD, List.getElem?_eq_getElem (by omega)] at hl
    have hl : s.data.toList[s.data.toList.length - 1] = 10 := hl
    rw [hl] at this
    exact this.symm
  have : endNl s = true := by
    unfold endNl
    exact List.isSuffixOf_iff_suffix.2 ⟨_, e.symm⟩
  rw [h] at this; cases this
theorem splitL_snoc (l : List UInt8) : splitL (l ++ [10]) = splitL l ++ [[]] := by
  induction l with
  | nil => rfl
  | cons c r ih =>
    obtain ⟨h, t, e⟩ := splitL_cons r
    rw [e] at ih
    by_cases hc : c = 10
    · subst hc; simp [splitL, ih, e]
    · simp [splitL, hc, ih, e]
theorem nlS_snoc {s : ByteArray} (h : endNl s = true) : nlS s = nlS (trimNl s) ++ [ByteArray.empty] := by
  unfold nlS
  rw [endNl_split h, splitL_snoc, List.map_append]; rfl
/-- What ParsePicture returns. -/
def prR (s : ByteArray) : List ByteArray × Bool := if endNl s && picB (nlS (trimNl s)) then (nlS (trimNl s), true) else ([], false)
theorem trimNl_size (s : ByteArray) : (trimNl s).size ≤ s.size := by
  have := Lib.trimSuffix_le s.data.toList [10]
  have e : s.data.toList.length = s.size := Array.length_toList
  show (Lib.trimSuffix s.data.toList [10]).toArray.size ≤ _
  simp; omega
theorem nlS_bytes (s : ByteArray) (i : Nat) : lenB (stAt (nlS s) i) ≤ s.size := by
  have h : ∀ (l : List UInt8) (i : Nat), ((splitL l).getD i []).length ≤ l.length := by
    intro l
    induction l with
    | nil => intro i; cases i <;> simp [splitL]
    | cons c r ih =>
      intro i
      obtain ⟨h, t, e⟩ := splitL_cons r
      by_cases hc : c = 10
      · subst hc
        cases i with
        | zero => simp [splitL]
        | succ i => have := ih i; simp [splitL]; simp at this; omega
      · cases i with
        | zero => have := ih 0; rw [e] at this; simp [splitL, hc, e] at this ⊢; omega
        | succ i => have := ih (i + 1); rw [e] at this; simp [splitL, hc, e] at this ⊢; omega
  have e : s.data.toList.length = s.size := Array.length_toList
  have h1 := h s.data.toList i
  have e2 : lenB (stAt (nlS s) i) = ((splitL s.data.toList).getD i []).length := by
    unfold stAt nlS lenB
    rw [List.getD, List.getElem?_map, List.getD]
    cases hh : (splitL s.data.toList)[i]? with
    | none => rfl
    | some x => simp [bytesOf]
  omega

theorem cutSuffix_fn (s : ByteArray) (hs : s.size ≤ 9223372036854775807) : Fn Tryd.prog 16 [vs s, vs nlB] (.many [.pv (vs (trimNl s)), .pv (vb (endNl s))]) := by
  refine ⟨Tryd.call16, fun w S0 us hus => ?_⟩
  match us, hus with
  | [u0, u1], ⟨h0, h1, _⟩ =>
    obtain rfl : u0 = .string s := h0
    obtain rfl : u1 = .string nlB := h1
    refine (Tryd.strings_CutSuffix s nlB w hs).mono ?_
    rintro e w' ⟨rfl, rfl⟩
    exact ⟨_, [], rfl, ⟨rfl, Below.refl _ _, fun id blk hi => by simp [bring, Res.list] at hi, fun i j bi bj b z z' hi => by simp [bring, Res.list] at hi⟩, [_, _], rfl, rfl, rfl, trivial⟩

set_option maxHeartbeats 1000000 in
theorem implParse_fn (s : ByteArray) (hs : s.size ≤ 1073741824) : Fn Tryd.prog 8 [vs s] (.many [.fr 1 (prR s).1.length (bstrs (prR s).1), .pv (vb (prR s).2)]) := by
  have h1 := cutSuffix_fn s (by omega)
  have ht := trimNl_size s
  have h2 := split_fn (trimNl s) (by omega)
  have hle := nlS_le (trimNl s)
  have h3 := isPicture_fn (nlS (trimNl s)) (by omega)
  have hj : prR s = if endNl s && picB (nlS (trimNl s)) then (nlS (trimNl s), true) else ([], false) := rfl
  generalize prR s = r at *
  generalize endNl s = o1 at *
  generalize trimNl s = t at *
  generalize nlS t = L at *
  generalize picB L = o2 at *
  subst hj
  cases o1 <;> cases o2
  all_goals
    refine Fn.of_body Tryd.call8 Tryd.func8 rfl Tryd.ntmps8 (ts := [2, 3]) rfl (by simp) rfl (fun N => ?_)
    repeat' (first | ((with_reducible show thenQ _ _ _ _); first | with_reducible refine then_normal ?_ | with_reducible refine then_ret ?_ | with_reducible refine then_exit ?_) | ((with_reducible show blockQ _ _ _ _); first | with_reducible refine block_normal ?_ | with_reducible refine block_ret ?_ | refine block_exit ?_ | refine block_exit_ne rfl ?_) | ((with_reducible show AWP _ _ _ _ _); first | with_reducible refine AWP.seq ?_ | with_reducible refine AWP.block ?_ | with_reducible refine AWP.region ?_ | (refine AWP.drawn rfl (by kernel_rfl) ?_) | with_reducible refine AWP.ret ?_ | with_reducible refine AWP.exit ?_ | with_reducible refine AWP.skip ?_ | refine AWP.cond rfl ?_ ?_) | with_reducible refine ev_nil ?_ | ((first | ((with_reducible show evOps _ _ _ _ _ _); (first | refine ev_step rfl ?_ | refine ev_undef rfl rfl rfl ?_); intro K hK) | ((with_reducible show EvOpen _ _ _ _ _ _ _); refine ev_open ?_; intro K hK) | ((with_reducible show SkOpen _ _ _ _ _ _ _); refine sk_open ?_; intro K hK) | ((with_reducible show callK _ _ _ _ _ _ _ _); first  | (refine call_scalar (h1) (Nat.le_of_ble_eq_true rfl) rfl ?_) | (refine call_safe ( h2) (Nat.le_of_ble_eq_true rfl) (by repeat' (first | exact trivial | refine ⟨fun _ _ => ⟨_, rfl⟩, ?_⟩)) ?_) | (refine call_scalar (h3) (Nat.le_of_ble_eq_true rfl) rfl ?_))); simp only [evOp, oldZ, evQ, evB, capsK, dynK, tabV, bytesK, eqStK, vInt, binK, withS, opd, kput, putS, upd, lookup, skipOp, argsK, loadOwn, bringIn, bring, Res.list, Res.slot, slotsOf, InK_i64, appendK, srcK, growK, storeK, frz, storeV, setBlk, makeK, newBlk, boxV, allocK, buildK, partsK, buildSliceK, plSlice, cutK, boundK, V.one, Value.oneCell', List.set_cons_zero, List.set_cons_succ, c_int, u_bool, bints, u_int, sz_strs, c_string, ei_strs, ea_strs, u_string, bs_bytes, ei_bytes, ea_bytes, sz_bytes, c_u8, u_u8, bstrs, tf_0, tf_1, tf_2, tf_00, tf_01, tf_02, t3_0, t3_1, t3_2, retCell, retCell.cellOk, Nat.zero_le, lenB_is, byteI_is, InK_u8, del, List.getElem?_cons_zero, List.getElem?_cons_succ, Option.bind_some, List.reverse_cons, List.reverse_nil, List.nil_append, List.cons_append, List.length_cons, List.length_nil, Nat.reduceEqDiff, Nat.reduceAdd, Nat.reduceLT, Nat.reduceLeDiff, Nat.reduceMul, Nat.mul_one, Nat.one_mul, Nat.zero_mul, Nat.add_zero, Nat.zero_add, Nat.sub_zero, Nat.mod_one, Nat.not_lt_zero, List.getD_cons_zero, ↓reduceIte, if_true, if_false, eq_self, true_and, and_true, Bool.not_true, Bool.not_false, Bool.true_eq_false, Bool.false_eq_true, false_implies, forall_const, implies_true, Int.toNat_natCast, Int.toNat_zero, Int.toNat_one, Option.isSome_some]) | refine ev_guard rfl rfl rfl ?_ ?_ | ((with_reducible show retQ _ _ _ _); simp only [retQ, retOk, getL, lookup, Option.map_some, fitsL, fits, ND, srcs, Res.list, VE, List.getElem?_cons_zero, List.getElem?_cons_succ, Value.bool.injEq, Value.int.injEq, Nat.reduceEqDiff, ↓reduceIte, and_true, true_and]) | (with_reducible refine hK _ ?_; clear hK K) | (with_reducible refine And.intro ?_ ?_) | (with_reducible intro hc; try simp only [decide_eq_true_eq, decide_eq_false_iff_not, beq_iff_eq, beq_eq_false_iff_ne, bne_iff_ne, bne_eq_false_iff_eq, Bool.not_eq_true', Bool.not_eq_false', Bool.not_true, Bool.not_false, Int.not_lt, Int.not_le, gt_iff_lt, ge_iff_le, ne_eq, Decidable.not_not, reduceCtorEq, inB_true, inB_false, finB_true, finB_false, not_true_eq_false, eqB_refl, Bool.true_eq_false] at hc) | omega)
    all_goals first
      | (exfalso; omega)
      | (exfalso; simp_all; done)
      | omega
      | rfl
      | exact ⟨_, rfl, BE.rfl' _⟩
      | (simp; done)
      | trace_state

set_option maxHeartbeats 1000000 in
theorem specParse_fn (s : ByteArray) (hs : s.size ≤ 1073741824) : Fn Tryd.prog 7 [vs s] (.many [.fr 1 (prR s).1.length (bstrs (prR s).1), .pv (vb (prR s).2)]) := by
  have h1 := l1Split_fn s (by omega)
  have hle := nlS_le s
  have hsz := lenB_size s
  have hlast := nlS_last s
  have hbytes := nlS_bytes s
  have hE : bytesOf (stAt (nlS s) (((nlS s).length : Int) - 1).toNat) = bytesOf ⟨#[]⟩ ↔ (lenB s = 0 ∨ byteI s (lenB s - 1) = 10) := by
    rw [show (((nlS s).length : Int) - 1).toNat = (nlS s).length - 1 by omega, bytes_empty, nlS_last]
  have hn : ((((nlS s).length : Int) - 1).toNat) = (nlS s).length - 1 := by omega
  have hmain : ∀ M : List ByteArray, (nlS s).length = M.length + 1 → (∀ i, i < M.length → stAt (nlS s) i = stAt M i) → (bytesOf (stAt (nlS s) (((nlS s).length : Int) - 1).toNat) = bytesOf ⟨#[]⟩ → prR s = if picB M then (M, true) else ([], false)) → (¬ bytesOf (stAt (nlS s) (((nlS s).length : Int) - 1).toNat) = bytesOf ⟨#[]⟩ → prR s = ([], false)) →
      (17 < (nlS s).length → prR s = ([], false)) → Fn Tryd.prog 7 [vs s] (.many [.fr 1 (prR s).1.length (bstrs (prR s).1), .pv (vb (prR s).2)]) := by
    intro M hML hfM hp1 hp2 hp3
    have hd := drGood_fn M (by omega) (fun i => by
      by_cases hi : i < M.length
      · have := hbytes i
        rw [hfM i hi] at this
        omega
      · have : stAt M i = ByteArray.empty := by simp [stAt, List.getD, List.getElem?_eq_none (by omega : M.length ≤ i)]
        rw [this]; show 0 ≤ _; omega)
    have hdv : ∀ (n : Nat) (f : Nat → V), n = M.length → (∀ i, i < n → f i = vs (stAt M i)) → Fn Tryd.prog 15 [.seq 1 n f] (.one (.pv (vb (picB M)))) := fun n f h1 h2 => hd.of_ve ⟨⟨rfl, h1, fun i hi => VE.of_eq (h2 i (by omega))⟩, trivial⟩
    clear hE hlast hbytes
    generalize prR s = r at *
    generalize nlS s = L at *
    by_cases hE : bytesOf (stAt L ((L.length : Int) - 1).toNat) = bytesOf ⟨#[]⟩
    · have hp1 := hp1 hE
      clear hp2
      by_cases h17 : 17 < L.length
      · have hp3 := hp3 h17
        clear hp1
        subst hp3
        refine Fn.of_body Tryd.call7 Tryd.func7 rfl Tryd.ntmps7 (ts := [2, 3]) rfl (by simp) rfl (fun N => ?_)
        repeat' (first | ((with_reducible show thenQ _ _ _ _); first | with_reducible refine then_normal ?_ | with_reducible refine then_ret ?_ | with_reducible refine then_exit ?_) | ((with_reducible show blockQ _ _ _ _); first | with_reducible refine block_normal ?_ | with_reducible refine block_ret ?_ | refine block_exit ?_ | refine block_exit_ne rfl ?_) | ((with_reducible show AWP _ _ _ _ _); first | with_reducible refine AWP.seq ?_ | with_reducible refine AWP.block ?_ | with_reducible refine AWP.region ?_ | (refine AWP.drawn rfl (by kernel_rfl) ?_) | with_reducible refine AWP.ret ?_ | with_reducible refine AWP.exit ?_ | with_reducible refine AWP.skip ?_ | refine AWP.cond rfl ?_ ?_) | with_reducible refine ev_nil ?_ | ((first | ((with_reducible show evOps _ _ _ _ _ _); (first | refine ev_step rfl ?_ | refine ev_undef rfl rfl rfl ?_); intro K hK) | ((with_reducible show EvOpen _ _ _ _ _ _ _); refine ev_open ?_; intro K hK) | ((with_reducible show SkOpen _ _ _ _ _ _ _); refine sk_open ?_; intro K hK) | ((with_reducible show callK _ _ _ _ _ _ _ _); first  | (refine call_safe ( h1) (Nat.le_of_ble_eq_true rfl) (by repeat' (first | exact trivial | refine ⟨fun _ _ => ⟨_, rfl⟩, ?_⟩)) ?_))); simp only [evOp, oldZ, evQ, evB, capsK, dynK, tabV, bytesK, eqStK, vInt, binK, withS, opd, kput, putS, upd, lookup, skipOp, argsK, loadOwn, bringIn, bring, Res.list, Res.slot, slotsOf, InK_i64, appendK, srcK, growK, storeK, frz, storeV, setBlk, makeK, newBlk, boxV, allocK, buildK, partsK, buildSliceK, plSlice, cutK, boundK, V.one, Value.oneCell', List.set_cons_zero, List.set_cons_succ, c_int, u_bool, bints, u_int, sz_strs, c_string, ei_strs, ea_strs, u_string, bs_bytes, ei_bytes, ea_bytes, sz_bytes, c_u8, u_u8, bstrs, tf_0, tf_1, tf_2, tf_00, tf_01, tf_02, t3_0, t3_1, t3_2, retCell, retCell.cellOk, Nat.zero_le, lenB_is, byteI_is, InK_u8, del, List.getElem?_cons_zero, List.getElem?_cons_succ, Option.bind_some, List.reverse_cons, List.reverse_nil, List.nil_append, List.cons_append, List.length_cons, List.length_nil, Nat.reduceEqDiff, Nat.reduceAdd, Nat.reduceLT, Nat.reduceLeDiff, Nat.reduceMul, Nat.mul_one, Nat.one_mul, Nat.zero_mul, Nat.add_zero, Nat.zero_add, Nat.sub_zero, Nat.mod_one, Nat.not_lt_zero, List.getD_cons_zero, ↓reduceIte, if_true, if_false, eq_self, true_and, and_true, Bool.not_true, Bool.not_false, Bool.true_eq_false, Bool.false_eq_true, false_implies, forall_const, implies_true, Int.toNat_natCast, Int.toNat_zero, Int.toNat_one, Option.isSome_some]) | refine ev_guard rfl rfl rfl ?_ ?_ | ((with_reducible show retQ _ _ _ _); simp only [retQ, retOk, getL, lookup, Option.map_some, fitsL, fits, ND, srcs, Res.list, VE, List.getElem?_cons_zero, List.getElem?_cons_succ, Value.bool.injEq, Value.int.injEq, Nat.reduceEqDiff, ↓reduceIte, and_true, true_and]) | (with_reducible refine hK _ ?_; clear hK K) | (with_reducible refine And.intro ?_ ?_) | (with_reducible intro hc; try simp only [decide_eq_true_eq, decide_eq_false_iff_not, beq_iff_eq, beq_eq_false_iff_ne, bne_iff_ne, bne_eq_false_iff_eq, Bool.not_eq_true', Bool.not_eq_false', Bool.not_true, Bool.not_false, Int.not_lt, Int.not_le, gt_iff_lt, ge_iff_le, ne_eq, Decidable.not_not, reduceCtorEq, inB_true, inB_false, finB_true, finB_false, not_true_eq_false, eqB_refl, Bool.true_eq_false] at hc) | omega)
        all_goals first
          | (exfalso; omega)
          | omega
          | rfl
          | (simp; done)
          | trace_state
      · clear hp3
        cases hP : picB M
        all_goals
          rw [hP] at hp1 hdv
          simp only [if_true, if_false, Bool.false_eq_true] at hp1
          subst hp1
          refine Fn.of_body Tryd.call7 Tryd.func7 rfl Tryd.ntmps7 (ts := [2, 3]) rfl (by simp) rfl (fun N => ?_)
          repeat' (first | ((with_reducible show thenQ _ _ _ _); first | with_reducible refine then_normal ?_ | with_reducible refine then_ret ?_ | with_reducible refine then_exit ?_) | ((with_reducible show blockQ _ _ _ _); first | with_reducible refine block_normal ?_ | with_reducible refine block_ret ?_ | refine block_exit ?_ | refine block_exit_ne rfl ?_) | ((with_reducible show AWP _ _ _ _ _); first | with_reducible refine AWP.seq ?_ | with_reducible refine AWP.block ?_ | with_reducible refine AWP.region ?_ | (refine AWP.drawn rfl (by kernel_rfl) ?_) | with_reducible refine AWP.ret ?_ | with_reducible refine AWP.exit ?_ | with_reducible refine AWP.skip ?_ | refine AWP.cond rfl ?_ ?_) | with_reducible refine ev_nil ?_ | ((first | ((with_reducible show evOps _ _ _ _ _ _); (first | refine ev_step rfl ?_ | refine ev_undef rfl rfl rfl ?_); intro K hK) | ((with_reducible show EvOpen _ _ _ _ _ _ _); refine ev_open ?_; intro K hK) | ((with_reducible show SkOpen _ _ _ _ _ _ _); refine sk_open ?_; intro K hK) | ((with_reducible show callK _ _ _ _ _ _ _ _); first  | (refine call_safe ( h1) (Nat.le_of_ble_eq_true rfl) (by repeat' (first | exact trivial | refine ⟨fun _ _ => ⟨_, rfl⟩, ?_⟩)) ?_) | (refine call_scalar (hdv _ _ (by omega) (fun i hi => by simpa using hfM i (by omega))) (Nat.le_of_ble_eq_true rfl) rfl ?_))); simp only [evOp, oldZ, evQ, evB, capsK, dynK, tabV, bytesK, eqStK, vInt, binK, withS, opd, kput, putS, upd, lookup, skipOp, argsK, loadOwn, bringIn, bring, Res.list, Res.slot, slotsOf, InK_i64, appendK, srcK, growK, storeK, frz, storeV, setBlk, makeK, newBlk, boxV, allocK, buildK, partsK, buildSliceK, plSlice, cutK, boundK, V.one, Value.oneCell', List.set_cons_zero, List.set_cons_succ, c_int, u_bool, bints, u_int, sz_strs, c_string, ei_strs, ea_strs, u_string, bs_bytes, ei_bytes, ea_bytes, sz_bytes, c_u8, u_u8, bstrs, tf_0, tf_1, tf_2, tf_00, tf_01, tf_02, t3_0, t3_1, t3_2, retCell, retCell.cellOk, Nat.zero_le, lenB_is, byteI_is, InK_u8, del, List.getElem?_cons_zero, List.getElem?_cons_succ, Option.bind_some, List.reverse_cons, List.reverse_nil, List.nil_append, List.cons_append, List.length_cons, List.length_nil, Nat.reduceEqDiff, Nat.reduceAdd, Nat.reduceLT, Nat.reduceLeDiff, Nat.reduceMul, Nat.mul_one, Nat.one_mul, Nat.zero_mul, Nat.add_zero, Nat.zero_add, Nat.sub_zero, Nat.mod_one, Nat.not_lt_zero, List.getD_cons_zero, ↓reduceIte, if_true, if_false, eq_self, true_and, and_true, Bool.not_true, Bool.not_false, Bool.true_eq_false, Bool.false_eq_true, false_implies, forall_const, implies_true, Int.toNat_natCast, Int.toNat_zero, Int.toNat_one, Option.isSome_some]) | refine ev_guard rfl rfl rfl ?_ ?_ | ((with_reducible show retQ _ _ _ _); simp only [retQ, retOk, getL, lookup, Option.map_some, fitsL, fits, ND, srcs, Res.list, VE, List.getElem?_cons_zero, List.getElem?_cons_succ, Value.bool.injEq, Value.int.injEq, Nat.reduceEqDiff, ↓reduceIte, and_true, true_and]) | (with_reducible refine hK _ ?_; clear hK K) | (with_reducible refine And.intro ?_ ?_) | (with_reducible intro hc; try simp only [decide_eq_true_eq, decide_eq_false_iff_not, beq_iff_eq, beq_eq_false_iff_ne, bne_iff_ne, bne_eq_false_iff_eq, Bool.not_eq_true', Bool.not_eq_false', Bool.not_true, Bool.not_false, Int.not_lt, Int.not_le, gt_iff_lt, ge_iff_le, ne_eq, Decidable.not_not, reduceCtorEq, inB_true, inB_false, finB_true, finB_false, not_true_eq_false, eqB_refl, Bool.true_eq_false] at hc) | omega)
          all_goals first
            | (exfalso; omega)
            | (exfalso; exact absurd hE (by assumption))
            | omega
            | rfl
            | exact ⟨_, rfl, rfl, by show M.length ≤ ((L.length : Int) - 1).toNat; omega, fun i hi => VE.of_eq (by have hi : i < M.length := hi; show vs (stAt L i) = vs (stAt M i); rw [hfM i hi])⟩
            | (simp; done)
            | trace_state
    · have hp2 := hp2 hE
      clear hp1
      subst hp2
      refine Fn.of_body Tryd.call7 Tryd.func7 rfl Tryd.ntmps7 (ts := [2, 3]) rfl (by simp) rfl (fun N => ?_)
      repeat' (first | ((with_reducible show thenQ _ _ _ _); first | with_reducible refine then_normal ?_ | with_reducible refine then_ret ?_ | with_reducible refine then_exit ?_) | ((with_reducible show blockQ _ _ _ _); first | with_reducible refine block_normal ?_ | with_reducible refine block_ret ?_ | refine block_exit ?_ | refine block_exit_ne rfl ?_) | ((with_reducible show AWP _ _ _ _ _); first | with_reducible refine AWP.seq ?_ | with_reducible refine AWP.block ?_ | with_reducible refine AWP.region ?_ | (refine AWP.drawn rfl (by kernel_rfl) ?_) | with_reducible refine AWP.ret ?_ | with_reducible refine AWP.exit ?_ | with_reducible refine AWP.skip ?_ | refine AWP.cond rfl ?_ ?_) | with_reducible refine ev_nil ?_ | ((first | ((with_reducible show evOps _ _ _ _ _ _); (first | refine ev_step rfl ?_ | refine ev_undef rfl rfl rfl ?_); intro K hK) | ((with_reducible show EvOpen _ _ _ _ _ _ _); refine ev_open ?_; intro K hK) | ((with_reducible show SkOpen _ _ _ _ _ _ _); refine sk_open ?_; intro K hK) | ((with_reducible show callK _ _ _ _ _ _ _ _); first  | (refine call_safe ( h1) (Nat.le_of_ble_eq_true rfl) (by repeat' (first | exact trivial | refine ⟨fun _ _ => ⟨_, rfl⟩, ?_⟩)) ?_))); simp only [evOp, oldZ, evQ, evB, capsK, dynK, tabV, bytesK, eqStK, vInt, binK, withS, opd, kput, putS, upd, lookup, skipOp, argsK, loadOwn, bringIn, bring, Res.list, Res.slot, slotsOf, InK_i64, appendK, srcK, growK, storeK, frz, storeV, setBlk, makeK, newBlk, boxV, allocK, buildK, partsK, buildSliceK, plSlice, cutK, boundK, V.one, Value.oneCell', List.set_cons_zero, List.set_cons_succ, c_int, u_bool, bints, u_int, sz_strs, c_string, ei_strs, ea_strs, u_string, bs_bytes, ei_bytes, ea_bytes, sz_bytes, c_u8, u_u8, bstrs, tf_0, tf_1, tf_2, tf_00, tf_01, tf_02, t3_0, t3_1, t3_2, retCell, retCell.cellOk, Nat.zero_le, lenB_is, byteI_is, InK_u8, del, List.getElem?_cons_zero, List.getElem?_cons_succ, Option.bind_some, List.reverse_cons, List.reverse_nil, List.nil_append, List.cons_append, List.length_cons, List.length_nil, Nat.reduceEqDiff, Nat.reduceAdd, Nat.reduceLT, Nat.reduceLeDiff, Nat.reduceMul, Nat.mul_one, Nat.one_mul, Nat.zero_mul, Nat.add_zero, Nat.zero_add, Nat.sub_zero, Nat.mod_one, Nat.not_lt_zero, List.getD_cons_zero, ↓reduceIte, if_true, if_false, eq_self, true_and, and_true, Bool.not_true, Bool.not_false, Bool.true_eq_false, Bool.false_eq_true, false_implies, forall_const, implies_true, Int.toNat_natCast, Int.toNat_zero, Int.toNat_one, Option.isSome_some]) | refine ev_guard rfl rfl rfl ?_ ?_ | ((with_reducible show retQ _ _ _ _); simp only [retQ, retOk, getL, lookup, Option.map_some, fitsL, fits, ND, srcs, Res.list, VE, List.getElem?_cons_zero, List.getElem?_cons_succ, Value.bool.injEq, Value.int.injEq, Nat.reduceEqDiff, ↓reduceIte, and_true, true_and]) | (with_reducible refine hK _ ?_; clear hK K) | (with_reducible refine And.intro ?_ ?_) | (with_reducible intro hc; try simp only [decide_eq_true_eq, decide_eq_false_iff_not, beq_iff_eq, beq_eq_false_iff_ne, bne_iff_ne, bne_eq_false_iff_eq, Bool.not_eq_true', Bool.not_eq_false', Bool.not_true, Bool.not_false, Int.not_lt, Int.not_le, gt_iff_lt, ge_iff_le, ne_eq, Decidable.not_not, reduceCtorEq, inB_true, inB_false, finB_true, finB_false, not_true_eq_false, eqB_refl, Bool.true_eq_false] at hc) | omega)
      all_goals first
        | (exfalso; omega)
        | (exfalso; exact absurd (by assumption) hE)
        | omega
        | rfl
        | (simp; done)
        | trace_state
  cases h0 : endNl s with
  | true =>
    have hsn := nlS_snoc h0
    have hL : (nlS s).length = (nlS (trimNl s)).length + 1 := by rw [hsn]; simp
    refine hmain (nlS (trimNl s)) hL (fun i hi => by rw [hsn]; unfold stAt; rw [List.getD, List.getElem?_append_left hi]; rfl) (fun _ => by unfold prR; rw [h0]; rfl) (fun h => absurd (hE.2 (hlast.1 (by rw [hL, hsn]; simp [stAt, List.getD]))) h) (fun h => ?_)
    unfold prR
    cases hP : picB (nlS (trimNl s)) with
    | true => have := (picB_parts hP).1; omega
    | false => simp
  | false =>
    have hno := endNl_no h0
    have hr : prR s = ([], false) := by unfold prR; rw [h0]; rfl
    refine hmain ((nlS s).dropLast) (by rw [List.length_dropLast]; omega) (fun i hi => ?_) (fun h => ?_) (fun _ => hr) (fun _ => hr)
    · rw [List.length_dropLast] at hi
      unfold stAt
      rw [List.getD, List.getD, List.getElem?_dropLast, if_pos (by omega)]
    · have h2 := hE.1 h
      have h3 : lenB s = 0 := by
        rcases h2 with h2 | h2
        · exact h2
        · by_cases h4 : lenB s = 0
          · exact h4
          · exact absurd ⟨h4, h2⟩ hno
      have h4 : (nlS s).dropLast = [] := by
        have h5 : (nlS s).length = 1 := by have := hsz; omega
        exact List.length_eq_zero_iff.1 (by rw [List.length_dropLast]; omega)
      rw [hr, h4]; rfl
end Go.Proofs.YtmfkclfeolpndaaDoor
