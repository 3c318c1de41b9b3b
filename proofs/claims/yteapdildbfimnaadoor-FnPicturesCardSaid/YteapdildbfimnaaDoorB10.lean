/- Parts of the proof of LawFnPictures: contracts of functions, laws of an abstract state, plain facts. No conditions. -/
import Derived.Test.YteapdildbfimnaaDoorB09
import Derived.Test.YteapdildbfimnaaDoorShelf
namespace Go.Proofs.YteapdildbfimnaaDoor
open Go.RowKit Go.Proofs
set_option linter.unusedSimpArgs false
set_option linter.unusedVariables false

/-- The text ends in a newline. -/
def endNl (s : ByteArray) : Bool := Lib.hasSuffix s.data.toList [10]
def trimNl (s : ByteArray) : ByteArray := ⟨(Lib.trimSuffix s.data.toList [10]).toArray⟩
theorem endNl_split {s : ByteArray} (h : endNl s = true) : s.data.toList = (trimNl s).data.toList ++ [10] := by
  unfold endNl at h
  obtain ⟨t, ht⟩ := List.isSuffixOf_iff_suffix.1 h
  have e : Lib.trimSuffix s.data.toList [10] = t := by
    unfold Lib.trimSuffix
    rw [if_pos h, ← ht]
    simp
  show _ = Lib.trimSuffix s.data.toList [10] ++ [10]
  rw [e, ht]
theorem endNl_no {s : ByteArray} (h : endNl s = false) : ¬ (lenB s ≠ 0 ∧ byteI s (lenB s - 1) = 10) := fun ⟨h1, h2⟩ => by
  have hp : s.data.toList ≠ [] := fun e => h1 (by show s.data.toList.length = 0; rw [e]; rfl)
  have hl : s.data.toList.getD (s.data.toList.length - 1) 0 = 10 := UInt8.toNat_inj.1 (by
    have h2 : ((s.data.toList.getD (s.data.toList.length - 1) 0).toNat : Int) = 10 := h2
    show _ = 10; omega)
  have hpos : 0 < s.data.toList.length := List.length_pos_iff.2 hp
  have e : s.data.toList = s.data.toList.dropLast ++ [10] := by
    have := List.dropLast_concat_getLast hp
    rw [List.getLast_eq_getElem hp] at this
    rw [List.getD, List.getElem?_eq_getElem (by omega)] at hl
    have hl : s.data.toList[s.data.toList.length - 1] = 10 := hl
    rw [hl] at this
    exact this.symm
  have : endNl s = true := by
    unfold endNl
    exact List.isSuffixOf_iff_suffix.2 ⟨_, e.symm⟩
  rw [h] at this; cases this
theorem splitL_snoc (l : List UInt8) : splitL (l ++ [10]) = splitL l ++ [[]] := by
  induction l with
  | nil => rfl
  | cons c r ih =>
    obtain ⟨h, t, e⟩ := splitL_cons r
    rw [e] at ih
    by_cases hc : c = 10
    · subst hc; simp [splitL, ih, e]
    · simp [splitL, hc, ih, e]
theorem nlS_snoc {s : ByteArray} (h : endNl s = true) : nlS s = nlS (trimNl s) ++ [ByteArray.empty] := by
  unfold nlS
  rw [endNl_split h, splitL_snoc, List.map_append]; rfl
/-- What ParsePicture returns. -/
def prR (s : ByteArray) : List ByteArray × Bool := if endNl s && picB (nlS (trimNl s)) then (nlS (trimNl s), true) else ([], false)
theorem trimNl_size (s : ByteArray) : (trimNl s).size ≤ s.size := by
  have := Lib.trimSuffix_le s.data.toList [10]
  have e : s.data.toList.length = s.size := Array.length_toList
  show (Lib.trimSuffix s.data.toList [10]).toArray.size ≤ _
  simp; omega
theorem nlS_bytes (s : ByteArray) (i : Nat) : lenB (stAt (nlS s) i) ≤ s.size := by
  have h : ∀ (l : List UInt8) (i : Nat), ((splitL l).getD i []).length ≤ l.length := by
    intro l
    induction l with
    | nil => intro i; cases i <;> simp [splitL]
    | cons c r ih =>
      intro i
      obtain ⟨h, t, e⟩ := splitL_cons r
      by_cases hc : c = 10
      · subst hc
        cases i with
        | zero => simp [splitL]
        | succ i => have := ih i; simp [splitL]; simp at this; omega
      · cases i with
        | zero => have := ih 0; rw [e] at this; simp [splitL, hc, e] at this ⊢; omega
        | succ i => have := ih (i + 1); rw [e] at this; simp [splitL, hc, e] at this ⊢; omega
  have e : s.data.toList.length = s.size := Array.length_toList
  have h1 := h s.data.toList i
  have e2 : lenB (stAt (nlS s) i) = ((splitL s.data.toList).getD i []).length := by
    unfold stAt nlS lenB
    rw [List.getD, List.getElem?_map, List.getD]
    cases hh : (splitL s.data.toList)[i]? with
    | none => rfl
    | some x => simp [bytesOf]
  omega

theorem cutSuffix_fn (s : ByteArray) (hs : s.size ≤ 9223372036854775807) : Fn Tryd.prog 43 [vs s, vs nlB] (.many [.pv (vs (trimNl s)), .pv (vb (endNl s))]) := by
  refine ⟨Tryd.call43, fun w S0 us hus => ?_⟩
  match us, hus with
  | [u0, u1], ⟨h0, h1, _⟩ =>
    obtain rfl : u0 = .string s := h0
    obtain rfl : u1 = .string nlB := h1
    refine (Tryd.strings_CutSuffix s nlB w hs).mono ?_
    rintro e w' ⟨rfl, rfl⟩
    exact ⟨_, [], rfl, ⟨rfl, Below.refl _ _, fun id blk hi => by simp [bring, Res.list] at hi, fun i j bi bj b z z' hi => by simp [bring, Res.list] at hi⟩, [_, _], rfl, rfl, rfl, trivial⟩

set_option maxHeartbeats 1000000 in
theorem implParse_fn (s : ByteArray) (hs : s.size ≤ 1073741824) : Fn Tryd.prog 19 [vs s] (.many [.fr 1 (prR s).1.length (bstrs (prR s).1), .pv (vb (prR s).2)]) := by
  have h1 := cutSuffix_fn s (by omega)
  have ht := trimNl_size s
  have h2 := split_fn (trimNl s) (by omega)
  have hle := nlS_le (trimNl s)
  have h3 := isPicture_fn (nlS (trimNl s)) (by omega)
  have hj : prR s = if endNl s && picB (nlS (trimNl s)) then (nlS (trimNl s), true) else ([], false) := rfl
  generalize prR s = r at *
  generalize endNl s = o1 at *
  generalize trimNl s = t at *
  generalize nlS t = L at *
  generalize picB L = o2 at *
  subst hj
  cases o1 <;> cases o2
  all_goals
    refine Fn.of_body Tryd.call19 Tryd.func19 rfl Tryd.ntmps19 (ts := [2, 3]) rfl (by simp) rfl (fun N => ?_)
    repeat' (first | (with_reducible first | refine then_normal ?_ | refine then_ret ?_ | refine then_exit ?_ | refine block_normal ?_ | refine block_ret ?_) | ((with_reducible show blockQ _ _ _ _); first | refine block_exit ?_ | refine block_exit_ne rfl ?_) | ((with_reducible show AWP _ _ _ _ _); first | (with_reducible first | refine AWP.seq ?_ | refine AWP.block ?_ | refine AWP.region ?_ | refine AWP.ret ?_ | refine AWP.exit ?_ | refine AWP.skip ?_) | refine AWP.drawn rfl (by kernel_rfl) ?_ | refine AWP.cond rfl ?_ ?_) | with_reducible refine ev_nil ?_ | ((first | ((with_reducible show evOps _ _ _ _ _ _); (first | refine ev_step rfl ?_ | refine ev_undef rfl rfl rfl ?_); intro K hK) | ((with_reducible show EvOpen _ _ _ _ _ _ _); refine ev_open ?_; intro K hK) | ((with_reducible show SkOpen _ _ _ _ _ _ _); refine sk_open ?_; intro K hK) | ((with_reducible show callK _ _ _ _ _ _ _ _); first  | (refine call_scalar (h1) (Nat.le_of_ble_eq_true rfl) rfl ?_) | (refine call_safe ( h2) (Nat.le_of_ble_eq_true rfl) (by repeat' (first | exact trivial | refine ⟨fun _ _ => ⟨_, rfl⟩, ?_⟩)) ?_) | (refine call_scalar (h3) (Nat.le_of_ble_eq_true rfl) rfl ?_))); simp only [evOp, oldZ, evQ, evB, capsK, dynK, tabV, bytesK, eqStK, vInt, binK, withS, opd, kput, putS, upd, lookup, skipOp, argsK, loadOwn, bringIn, bring, Res.list, Res.slot, slotsOf, InK_i64, appendK, srcK, growK, storeK, frz, storeV, setBlk, makeK, newBlk, boxV, allocK, buildK, partsK, buildSliceK, plSlice, cutK, boundK, V.one, Value.oneCell', List.set_cons_zero, List.set_cons_succ, sz_ints, c_int, ei_ints, ea_ints, u_bool, bints, u_int, sz_strs, c_string, ei_strs, ea_strs, u_string, c_ints, sz_terms, ei_terms, ea_terms, c_term, fi0, fi1, fi2, z_term, pl_term, is_term, bs_bytes, ei_bytes, ea_bytes, sz_bytes, c_u8, u_u8, bstrs, brows, tf_0, tf_1, tf_2, tf_00, tf_01, tf_02, t3_0, t3_1, t3_2, bterms, retCell, retCell.cellOk, Nat.zero_le, lenB_is, byteI_is, InK_u8, del, List.getElem?_cons_zero, List.getElem?_cons_succ, Option.bind_some, List.reverse_cons, List.reverse_nil, List.nil_append, List.cons_append, List.length_cons, List.length_nil, Nat.reduceEqDiff, Nat.reduceAdd, Nat.reduceLT, Nat.reduceLeDiff, Nat.reduceMul, Nat.mul_one, Nat.one_mul, Nat.zero_mul, Nat.add_zero, Nat.zero_add, Nat.sub_zero, Nat.mod_one, Nat.not_lt_zero, List.getD_cons_zero, ↓reduceIte, if_true, if_false, eq_self, true_and, and_true, Bool.not_true, Bool.not_false, Bool.true_eq_false, Bool.false_eq_true, false_implies, forall_const, implies_true, Int.toNat_natCast, Int.toNat_zero, Int.toNat_one, Option.isSome_some]) | refine ev_guard rfl rfl rfl ?_ ?_ | ((with_reducible show retQ _ _ _ _); simp only [retQ, retOk, getL, lookup, Option.map_some, fitsL, fits, ND, srcs, Res.list, VE, List.getElem?_cons_zero, List.getElem?_cons_succ, Value.bool.injEq, Value.int.injEq, Nat.reduceEqDiff, ↓reduceIte, and_true, true_and]) | (with_reducible refine hK _ ?_; clear hK K) | (with_reducible refine And.intro ?_ ?_) | (with_reducible intro hc; try simp only [decide_eq_true_eq, decide_eq_false_iff_not, beq_iff_eq, beq_eq_false_iff_ne, bne_iff_ne, bne_eq_false_iff_eq, Bool.not_eq_true', Bool.not_eq_false', Bool.not_true, Bool.not_false, Int.not_lt, Int.not_le, gt_iff_lt, ge_iff_le, ne_eq, Decidable.not_not, reduceCtorEq, inB_true, inB_false, finB_true, finB_false, not_true_eq_false, eqB_refl, Bool.true_eq_false] at hc) | omega)
    all_goals first
      | (exfalso; omega)
      | (exfalso; simp_all; done)
      | omega
      | rfl
      | exact ⟨_, rfl, BE.rfl' _⟩
      | (simp; done)
      | trace_state

set_option maxHeartbeats 1000000 in
theorem specParse_fn (s : ByteArray) (hs : s.size ≤ 1073741824) : Fn Tryd.prog 20 [vs s] (.many [.fr 1 (prR s).1.length (bstrs (prR s).1), .pv (vb (prR s).2)]) := by
  have h1 := l1Split_fn s (by omega)
  have hle := nlS_le s
  have hsz := lenB_size s
  have hlast := nlS_last s
  have hbytes := nlS_bytes s
  have hE : bytesOf (stAt (nlS s) (((nlS s).length : Int) - 1).toNat) = bytesOf ⟨#[]⟩ ↔ (lenB s = 0 ∨ byteI s (lenB s - 1) = 10) := by
    rw [show (((nlS s).length : Int) - 1).toNat = (nlS s).length - 1 by omega, bytes_empty, nlS_last]
  have hn : ((((nlS s).length : Int) - 1).toNat) = (nlS s).length - 1 := by omega
  have hmain : ∀ M : List ByteArray, (nlS s).length = M.length + 1 → (∀ i, i < M.length → stAt (nlS s) i = stAt M i) → (bytesOf (stAt (nlS s) (((nlS s).length : Int) - 1).toNat) = bytesOf ⟨#[]⟩ → prR s = if picB M then (M, true) else ([], false)) → (¬ bytesOf (stAt (nlS s) (((nlS s).length : Int) - 1).toNat) = bytesOf ⟨#[]⟩ → prR s = ([], false)) →
      (17 < (nlS s).length → prR s = ([], false)) → Fn Tryd.prog 20 [vs s] (.many [.fr 1 (prR s).1.length (bstrs (prR s).1), .pv (vb (prR s).2)]) := by
    intro M hML hfM hp1 hp2 hp3
    have hd := drGood_fn M (by omega) (fun i => by
      by_cases hi : i < M.length
      · have := hbytes i
        rw [hfM i hi] at this
        omega
      · have : stAt M i = ByteArray.empty := by simp [stAt, List.getD, List.getElem?_eq_none (by omega : M.length ≤ i)]
        rw [this]; show 0 ≤ _; omega)
    have hdv : ∀ (n : Nat) (f : Nat → V), n = M.length → (∀ i, i < n → f i = vs (stAt M i)) → Fn Tryd.prog 36 [.seq 1 n f] (.one (.pv (vb (picB M)))) := fun n f h1 h2 => hd.of_ve ⟨⟨rfl, h1, fun i hi => VE.of_eq (h2 i (by omega))⟩, trivial⟩
    clear hE hlast hbytes
    generalize prR s = r at *
    generalize nlS s = L at *
    by_cases hE : bytesOf (stAt L ((L.length : Int) - 1).toNat) = bytesOf ⟨#[]⟩
    · have hp1 := hp1 hE
      clear hp2
      by_cases h17 : 17 < L.length
      · have hp3 := hp3 h17
        clear hp1
        subst hp3
        refine Fn.of_body Tryd.call20 Tryd.func20 rfl Tryd.ntmps20 (ts := [2, 3]) rfl (by simp) rfl (fun N => ?_)
        repeat' (first | (with_reducible first | refine then_normal ?_ | refine then_ret ?_ | refine then_exit ?_ | refine block_normal ?_ | refine block_ret ?_) | ((with_reducible show blockQ _ _ _ _); first | refine block_exit ?_ | refine block_exit_ne rfl ?_) | ((with_reducible show AWP _ _ _ _ _); first | (with_reducible first | refine AWP.seq ?_ | refine AWP.block ?_ | refine AWP.region ?_ | refine AWP.ret ?_ | refine AWP.exit ?_ | refine AWP.skip ?_) | refine AWP.drawn rfl (by kernel_rfl) ?_ | refine AWP.cond rfl ?_ ?_) | with_reducible refine ev_nil ?_ | ((first | ((with_reducible show evOps _ _ _ _ _ _); (first | refine ev_step rfl ?_ | refine ev_undef rfl rfl rfl ?_); intro K hK) | ((with_reducible show EvOpen _ _ _ _ _ _ _); refine ev_open ?_; intro K hK) | ((with_reducible show SkOpen _ _ _ _ _ _ _); refine sk_open ?_; intro K hK) | ((with_reducible show callK _ _ _ _ _ _ _ _); first  | (refine call_safe ( h1) (Nat.le_of_ble_eq_true rfl) (by repeat' (first | exact trivial | refine ⟨fun _ _ => ⟨_, rfl⟩, ?_⟩)) ?_))); simp only [evOp, oldZ, evQ, evB, capsK, dynK, tabV, bytesK, eqStK, vInt, binK, withS, opd, kput, putS, upd, lookup, skipOp, argsK, loadOwn, bringIn, bring, Res.list, Res.slot, slotsOf, InK_i64, appendK, srcK, growK, storeK, frz, storeV, setBlk, makeK, newBlk, boxV, allocK, buildK, partsK, buildSliceK, plSlice, cutK, boundK, V.one, Value.oneCell', List.set_cons_zero, List.set_cons_succ, sz_ints, c_int, ei_ints, ea_ints, u_bool, bints, u_int, sz_strs, c_string, ei_strs, ea_strs, u_string, c_ints, sz_terms, ei_terms, ea_terms, c_term, fi0, fi1, fi2, z_term, pl_term, is_term, bs_bytes, ei_bytes, ea_bytes, sz_bytes, c_u8, u_u8, bstrs, brows, tf_0, tf_1, tf_2, tf_00, tf_01, tf_02, t3_0, t3_1, t3_2, bterms, retCell, retCell.cellOk, Nat.zero_le, lenB_is, byteI_is, InK_u8, del, List.getElem?_cons_zero, List.getElem?_cons_succ, Option.bind_some, List.reverse_cons, List.reverse_nil, List.nil_append, List.cons_append, List.length_cons, List.length_nil, Nat.reduceEqDiff, Nat.reduceAdd, Nat.reduceLT, Nat.reduceLeDiff, Nat.reduceMul, Nat.mul_one, Nat.one_mul, Nat.zero_mul, Nat.add_zero, Nat.zero_add, Nat.sub_zero, Nat.mod_one, Nat.not_lt_zero, List.getD_cons_zero, ↓reduceIte, if_true, if_false, eq_self, true_and, and_true, Bool.not_true, Bool.not_false, Bool.true_eq_false, Bool.false_eq_true, false_implies, forall_const, implies_true, Int.toNat_natCast, Int.toNat_zero, Int.toNat_one, Option.isSome_some]) | refine ev_guard rfl rfl rfl ?_ ?_ | ((with_reducible show retQ _ _ _ _); simp only [retQ, retOk, getL, lookup, Option.map_some, fitsL, fits, ND, srcs, Res.list, VE, List.getElem?_cons_zero, List.getElem?_cons_succ, Value.bool.injEq, Value.int.injEq, Nat.reduceEqDiff, ↓reduceIte, and_true, true_and]) | (with_reducible refine hK _ ?_; clear hK K) | (with_reducible refine And.intro ?_ ?_) | (with_reducible intro hc; try simp only [decide_eq_true_eq, decide_eq_false_iff_not, beq_iff_eq, beq_eq_false_iff_ne, bne_iff_ne, bne_eq_false_iff_eq, Bool.not_eq_true', Bool.not_eq_false', Bool.not_true, Bool.not_false, Int.not_lt, Int.not_le, gt_iff_lt, ge_iff_le, ne_eq, Decidable.not_not, reduceCtorEq, inB_true, inB_false, finB_true, finB_false, not_true_eq_false, eqB_refl, Bool.true_eq_false] at hc) | omega)
        all_goals first
          | (exfalso; omega)
          | omega
          | rfl
          | (simp; done)
          | trace_state
      · clear hp3
        cases hP : picB M
        all_goals
          rw [hP] at hp1 hdv
          simp only [if_true, if_false, Bool.false_eq_true] at hp1
          subst hp1
          refine Fn.of_body Tryd.call20 Tryd.func20 rfl Tryd.ntmps20 (ts := [2, 3]) rfl (by simp) rfl (fun N => ?_)
          repeat' (first | (with_reducible first | refine then_normal ?_ | refine then_ret ?_ | refine then_exit ?_ | refine block_normal ?_ | refine block_ret ?_) | ((with_reducible show blockQ _ _ _ _); first | refine block_exit ?_ | refine block_exit_ne rfl ?_) | ((with_reducible show AWP _ _ _ _ _); first | (with_reducible first | refine AWP.seq ?_ | refine AWP.block ?_ | refine AWP.region ?_ | refine AWP.ret ?_ | refine AWP.exit ?_ | refine AWP.skip ?_) | refine AWP.drawn rfl (by kernel_rfl) ?_ | refine AWP.cond rfl ?_ ?_) | with_reducible refine ev_nil ?_ | ((first | ((with_reducible show evOps _ _ _ _ _ _); (first | refine ev_step rfl ?_ | refine ev_undef rfl rfl rfl ?_); intro K hK) | ((with_reducible show EvOpen _ _ _ _ _ _ _); refine ev_open ?_; intro K hK) | ((with_reducible show SkOpen _ _ _ _ _ _ _); refine sk_open ?_; intro K hK) | ((with_reducible show callK _ _ _ _ _ _ _ _); first  | (refine call_safe ( h1) (Nat.le_of_ble_eq_true rfl) (by repeat' (first | exact trivial | refine ⟨fun _ _ => ⟨_, rfl⟩, ?_⟩)) ?_) | (refine call_scalar (hdv _ _ (by omega) (fun i hi => by simpa using hfM i (by omega))) (Nat.le_of_ble_eq_true rfl) rfl ?_))); simp only [evOp, oldZ, evQ, evB, capsK, dynK, tabV, bytesK, eqStK, vInt, binK, withS, opd, kput, putS, upd, lookup, skipOp, argsK, loadOwn, bringIn, bring, Res.list, Res.slot, slotsOf, InK_i64, appendK, srcK, growK, storeK, frz, storeV, setBlk, makeK, newBlk, boxV, allocK, buildK, partsK, buildSliceK, plSlice, cutK, boundK, V.one, Value.oneCell', List.set_cons_zero, List.set_cons_succ, sz_ints, c_int, ei_ints, ea_ints, u_bool, bints, u_int, sz_strs, c_string, ei_strs, ea_strs, u_string, c_ints, sz_terms, ei_terms, ea_terms, c_term, fi0, fi1, fi2, z_term, pl_term, is_term, bs_bytes, ei_bytes, ea_bytes, sz_bytes, c_u8, u_u8, bstrs, brows, tf_0, tf_1, tf_2, tf_00, tf_01, tf_02, t3_0, t3_1, t3_2, bterms, retCell, retCell.cellOk, Nat.zero_le, lenB_is, byteI_is, InK_u8, del, List.getElem?_cons_zero, List.getElem?_cons_succ, Option.bind_some, List.reverse_cons, List.reverse_nil, List.nil_append, List.cons_append, List.length_cons, List.length_nil, Nat.reduceEqDiff, Nat.reduceAdd, Nat.reduceLT, Nat.reduceLeDiff, Nat.reduceMul, Nat.mul_one, Nat.one_mul, Nat.zero_mul, Nat.add_zero, Nat.zero_add, Nat.sub_zero, Nat.mod_one, Nat.not_lt_zero, List.getD_cons_zero, ↓reduceIte, if_true, if_false, eq_self, true_and, and_true, Bool.not_true, Bool.not_false, Bool.true_eq_false, Bool.false_eq_true, false_implies, forall_const, implies_true, Int.toNat_natCast, Int.toNat_zero, Int.toNat_one, Option.isSome_some]) | refine ev_guard rfl rfl rfl ?_ ?_ | ((with_reducible show retQ _ _ _ _); simp only [retQ, retOk, getL, lookup, Option.map_some, fitsL, fits, ND, srcs, Res.list, VE, List.getElem?_cons_zero, List.getElem?_cons_succ, Value.bool.injEq, Value.int.injEq, Nat.reduceEqDiff, ↓reduceIte, and_true, true_and]) | (with_reducible refine hK _ ?_; clear hK K) | (with_reducible refine And.intro ?_ ?_) | (with_reducible intro hc; try simp only [decide_eq_true_eq, decide_eq_false_iff_not, beq_iff_eq, beq_eq_false_iff_ne, bne_iff_ne, bne_eq_false_iff_eq, Bool.not_eq_true', Bool.not_eq_false', Bool.not_true, Bool.not_false, Int.not_lt, Int.not_le, gt_iff_lt, ge_iff_le, ne_eq, Decidable.not_not, reduceCtorEq, inB_true, inB_false, finB_true, finB_false, not_true_eq_false, eqB_refl, Bool.true_eq_false] at hc) | omega)
          all_goals first
            | (exfalso; omega)
            | (exfalso; exact absurd hE (by assumption))
            | omega
            | rfl
            | exact ⟨_, rfl, rfl, by show M.length ≤ ((L.length : Int) - 1).toNat; omega, fun i hi => VE.of_eq (by have hi : i < M.length := hi; show vs (stAt L i) = vs (stAt M i); rw [hfM i hi])⟩
            | (simp; done)
            | trace_state
    · have hp2 := hp2 hE
      clear hp1
      subst hp2
      refine Fn.of_body Tryd.call20 Tryd.func20 rfl Tryd.ntmps20 (ts := [2, 3]) rfl (by simp) rfl (fun N => ?_)
      repeat' (first | (with_reducible first | refine then_normal ?_ | refine then_ret ?_ | refine then_exit ?_ | refine block_normal ?_ | refine block_ret ?_) | ((with_reducible show blockQ _ _ _ _); first | refine block_exit ?_ | refine block_exit_ne rfl ?_) | ((with_reducible show AWP _ _ _ _ _); first | (with_reducible first | refine AWP.seq ?_ | refine AWP.block ?_ | refine AWP.region ?_ | refine AWP.ret ?_ | refine AWP.exit ?_ | refine AWP.skip ?_) | refine AWP.drawn rfl (by kernel_rfl) ?_ | refine AWP.cond rfl ?_ ?_) | with_reducible refine ev_nil ?_ | ((first | ((with_reducible show evOps _ _ _ _ _ _); (first | refine ev_step rfl ?_ | refine ev_undef rfl rfl rfl ?_); intro K hK) | ((with_reducible show EvOpen _ _ _ _ _ _ _); refine ev_open ?_; intro K hK) | ((with_reducible show SkOpen _ _ _ _ _ _ _); refine sk_open ?_; intro K hK) | ((with_reducible show callK _ _ _ _ _ _ _ _); first  | (refine call_safe ( h1) (Nat.le_of_ble_eq_true rfl) (by repeat' (first | exact trivial | refine ⟨fun _ _ => ⟨_, rfl⟩, ?_⟩)) ?_))); simp only [evOp, oldZ, evQ, evB, capsK, dynK, tabV, bytesK, eqStK, vInt, binK, withS, opd, kput, putS, upd, lookup, skipOp, argsK, loadOwn, bringIn, bring, Res.list, Res.slot, slotsOf, InK_i64, appendK, srcK, growK, storeK, frz, storeV, setBlk, makeK, newBlk, boxV, allocK, buildK, partsK, buildSliceK, plSlice, cutK, boundK, V.one, Value.oneCell', List.set_cons_zero, List.set_cons_succ, sz_ints, c_int, ei_ints, ea_ints, u_bool, bints, u_int, sz_strs, c_string, ei_strs, ea_strs, u_string, c_ints, sz_terms, ei_terms, ea_terms, c_term, fi0, fi1, fi2, z_term, pl_term, is_term, bs_bytes, ei_bytes, ea_bytes, sz_bytes, c_u8, u_u8, bstrs, brows, tf_0, tf_1, tf_2, tf_00, tf_01, tf_02, t3_0, t3_1, t3_2, bterms, retCell, retCell.cellOk, Nat.zero_le, lenB_is, byteI_is, InK_u8, del, List.getElem?_cons_zero, List.getElem?_cons_succ, Option.bind_some, List.reverse_cons, List.reverse_nil, List.nil_append, List.cons_append, List.length_cons, List.length_nil, Nat.reduceEqDiff, Nat.reduceAdd, Nat.reduceLT, Nat.reduceLeDiff, Nat.reduceMul, Nat.mul_one, Nat.one_mul, Nat.zero_mul, Nat.add_zero, Nat.zero_add, Nat.sub_zero, Nat.mod_one, Nat.not_lt_zero, List.getD_cons_zero, ↓reduceIte, if_true, if_false, eq_self, true_and, and_true, Bool.not_true, Bool.not_false, Bool.true_eq_false, Bool.false_eq_true, false_implies, forall_const, implies_true, Int.toNat_natCast, Int.toNat_zero, Int.toNat_one, Option.isSome_some]) | refine ev_guard rfl rfl rfl ?_ ?_ | ((with_reducible show retQ _ _ _ _); simp only [retQ, retOk, getL, lookup, Option.map_some, fitsL, fits, ND, srcs, Res.list, VE, List.getElem?_cons_zero, List.getElem?_cons_succ, Value.bool.injEq, Value.int.injEq, Nat.reduceEqDiff, ↓reduceIte, and_true, true_and]) | (with_reducible refine hK _ ?_; clear hK K) | (with_reducible refine And.intro ?_ ?_) | (with_reducible intro hc; try simp only [decide_eq_true_eq, decide_eq_false_iff_not, beq_iff_eq, beq_eq_false_iff_ne, bne_iff_ne, bne_eq_false_iff_eq, Bool.not_eq_true', Bool.not_eq_false', Bool.not_true, Bool.not_false, Int.not_lt, Int.not_le, gt_iff_lt, ge_iff_le, ne_eq, Decidable.not_not, reduceCtorEq, inB_true, inB_false, finB_true, finB_false, not_true_eq_false, eqB_refl, Bool.true_eq_false] at hc) | omega)
      all_goals first
        | (exfalso; omega)
        | (exfalso; exact absurd (by assumption) hE)
        | omega
        | rfl
        | (simp; done)
        | trace_state
  cases h0 : endNl s with
  | true =>
    have hsn := nlS_snoc h0
    have hL : (nlS s).length = (nlS (trimNl s)).length + 1 := by rw [hsn]; simp
    refine hmain (nlS (trimNl s)) hL (fun i hi => by rw [hsn]; unfold stAt; rw [List.getD, List.getElem?_append_left hi]; rfl) (fun _ => by unfold prR; rw [h0]; rfl) (fun h => absurd (hE.2 (hlast.1 (by rw [hL, hsn]; simp [stAt, List.getD]))) h) (fun h => ?_)
    unfold prR
    cases hP : picB (nlS (trimNl s)) with
    | true => have := (picB_parts hP).1; omega
    | false => simp
  | false =>
    have hno := endNl_no h0
    have hr : prR s = ([], false) := by unfold prR; rw [h0]; rfl
    refine hmain ((nlS s).dropLast) (by rw [List.length_dropLast]; omega) (fun i hi => ?_) (fun h => ?_) (fun _ => hr) (fun _ => hr)
    · rw [List.length_dropLast] at hi
      unfold stAt
      rw [List.getD, List.getD, List.getElem?_dropLast, if_pos (by omega)]
    · have h2 := hE.1 h
      have h3 : lenB s = 0 := by
        rcases h2 with h2 | h2
        · exact h2
        · by_cases h4 : lenB s = 0
          · exact h4
          · exact absurd ⟨h4, h2⟩ hno
      have h4 : (nlS s).dropLast = [] := by
        have h5 : (nlS s).length = 1 := by have := hsz; omega
        exact List.length_eq_zero_iff.1 (by rw [List.length_dropLast]; omega)
      rw [hr, h4]; rfl
end Go.Proofs.YteapdildbfimnaaDoor
namespace Go.Proofs.YteapdildbfimnaaDoor
open Go.RowKit Go.Proofs
set_option linter.unusedSimpArgs false
set_option linter.unusedVariables false

theorem letP_ltr {l : List T3} {x y : Int} (h : goodP l x y = true) : ltrI (letP l x y) = true ∧ 0 ≤ letP l x y ∧ letP l x y ≤ 255 := by
  have hf := plcP_first h
  unfold letP
  split
  · exact ⟨rfl, by omega, by omega⟩
  · exact ⟨ltrI_in (by omega) (by omega), by omega, by omega⟩
theorem byteI_nums {xs : List Int} {j : Nat} (hj : j < xs.length) (h : 0 ≤ xs.getD j 0 ∧ xs.getD j 0 ≤ 255) : byteI (strOfNums xs) j = xs.getD j 0 := by
  have e : (bytesOf (strOfNums xs)).getD j 0 = UInt8.ofNat (xs.getD j 0).toNat := by
    unfold bytesOf; rw [strOfNums_data]; simp [List.getD, hj]
  unfold byteI
  rw [e, UInt8.toNat_ofNat']
  omega
theorem ba_byteI {a b : ByteArray} (hl : lenB a = lenB b) (h : ∀ j, j < lenB a → byteI a j = byteI b j) : a = b := by
  apply ba_ext
  refine List.ext_getElem hl fun j h1 h2 => ?_
  have := h j h1
  unfold byteI at this
  have e1 : (bytesOf a).getD j 0 = (bytesOf a)[j] := by simp [List.getD, h1]
  have e2 : (bytesOf b).getD j 0 = (bytesOf b)[j] := by simp [List.getD, h2]
  rw [e1, e2] at this
  exact UInt8.toNat_inj.1 (by omega)
theorem sts_ext {a b : List ByteArray} (hl : a.length = b.length) (h : ∀ i, i < a.length → stAt a i = stAt b i) : a = b := by
  refine List.ext_getElem hl fun i h1 h2 => ?_
  have := h i h1
  simpa [stAt, List.getD, h1, h2] using this

theorem row_letter {l : List T3} {x v : Int} {n j : Nat} (hj : j < n) (h : goodP l (x + (j : Int)) v = true) : byteI (rowS l x v n) j = letP l (x + (j : Int)) v := by
  have e : ((List.range n).map fun (j : Nat) => letP l (x + (j : Int)) v).getD j 0 = letP l (x + (j : Int)) v := by simp [List.getD, hj]
  unfold rowS
  rw [byteI_nums (by simpa using hj) (by rw [e]; exact (letP_ltr h).2), e]
theorem rowS_len (l : List T3) (x v : Int) (n : Nat) : lenB (rowS l x v n) = n := by rw [lenB_size, rowS_size]
/-- One letter of a text. -/
theorem cut1 {b : ByteArray} {j : Nat} (hj : j < lenB b) : ByteArray.mk (List.toArray (((bytesOf b).drop j).take 1)) = strOfNums [byteI b j] := by
  have := cut_one hj
  rwa [show ((j : Int) + 1).toNat - j = 1 by omega] at this

/-- What a drawn picture's law asks. -/
structure PoOk (l : List T3) (x y : Int) (w h : Nat) : Prop where
  pic : picB (poL l x y w h) = true
  w1 : 1 ≤ w ∧ w ≤ 16
  h1 : 1 ≤ h ∧ h ≤ 16
  ask : ∀ i j, i < h → j < w → askP l (x + (j : Int)) (y + h - 1 - (i : Int)) = true
theorem po_ok {l : List T3} {x y w h : Int} (e : (poR l x y w h).2 = true) : poR l x y w h = (poL l x y w.toNat h.toNat, true) ∧ PoOk l x y w.toNat h.toNat ∧ (1 ≤ w ∧ w ≤ 16) ∧ (1 ≤ h ∧ h ≤ 16) ∧ (-100 ≤ x ∧ x ≤ 100) ∧ (-100 ≤ y ∧ y ≤ 100) := by
  have hb : (pokB l x y w h && aall l x y w.toNat h.toNat) = true := by
    unfold poR at e; split at e
    · assumption
    · cases e
  simp only [Bool.and_eq_true] at hb
  obtain ⟨h1, h2⟩ := hb
  have hp := h1
  unfold pokB at hp
  simp only [Bool.and_eq_true] at hp
  have hw := inB_true.1 hp.1.2
  have hh := inB_true.1 hp.2
  have hask : ∀ i j, i < h.toNat → j < w.toNat → askP l (x + (j : Int)) (y + (h.toNat : Int) - 1 - (i : Int)) = true := fun i j hi hj => allN_iff.1 (allN_iff.1 h2 i hi) j hj
  refine ⟨poR_yes h1 h2, ⟨?_, by omega, by omega, hask⟩, hw, hh, inB_true.1 hp.1.1.1.2, inB_true.1 hp.1.1.2⟩
  have hl : ∀ i, i < h.toNat → lenB (stAt (poL l x y w.toNat h.toNat) i) = w.toNat := fun i hi => by rw [poL_get hi, rowS_len]
  refine picB_yes (by rw [poL_len]; exact inB_true.2 (by omega)) (by rw [hl 0 (by omega)]; exact inB_true.2 (by omega)) fun i hi => ?_
  rw [poL_len] at hi
  refine rowB_yes (by rw [hl i hi, hl 0 (by omega)]) ?_
  unfold letsB
  rw [hl i hi]
  refine allN_true fun j hj => ?_
  rw [poL_get hi, row_letter hj (askP_good (hask i j hi hj))]
  exact (letP_ltr (askP_good (hask i j hi hj))).1

/-! ### Mirrored twice -/
theorem revK_len (b : ByteArray) (j : Nat) : lenB (revK b j) = j := by rw [lenB_size, revK_size]
theorem revK_byte {b : ByteArray} {n j : Nat} (hj : j < n) : byteI (revK b n) j = byteI b (n - 1 - j) := by
  have e : ((List.range n).map fun i => byteI b (n - 1 - i)).getD j 0 = byteI b (n - 1 - j) := by simp [List.getD, hj]
  unfold revK
  rw [byteI_nums (by simpa using hj) (by rw [e]; exact byteI_lt _ _), e]
theorem rev_rev (b : ByteArray) : revK (revK b (lenB b)) (lenB b) = b := by
  refine ba_byteI (by rw [revK_len]) fun j hj => ?_
  rw [revK_len] at hj
  rw [revK_byte hj, revK_byte (by omega)]
  congr 1; omega
theorem lets_get {b : ByteArray} (h : letsB b = true) {j : Nat} (hj : j < lenB b) : ltrI (byteI b j) = true := allN_iff.1 h j hj
theorem pic_lets {u : List ByteArray} (h : picB u = true) {i : Nat} (hi : i < u.length) : letsB (stAt u i) = true := by
  unfold picB at h
  simp only [Bool.and_eq_true] at h
  have := allN_iff.1 h.2 i hi
  unfold rowB at this
  simp only [Bool.and_eq_true] at this
  exact this.2
theorem mir_pic {u : List ByteArray} (h : picB u = true) : picB (mirL u) = true := by
  obtain ⟨h1, h2, h3⟩ := picB_parts h
  have hl : ∀ i, i < u.length → lenB (stAt (mirL u) i) = lenB (stAt u 0) := fun i hi => by rw [mirL_get hi, revK_len, h3 i hi]
  refine picB_yes (by rw [mirL_len]; exact inB_true.2 (by omega)) (by rw [hl 0 (by omega)]; exact inB_true.2 (by omega)) fun i hi => ?_
  rw [mirL_len] at hi
  refine rowB_yes (by rw [hl i hi, hl 0 (by omega)]) ?_
  refine allN_true fun j hj => ?_
  rw [hl i hi] at hj
  have e := h3 i hi
  rw [mirL_get hi, revK_byte (by omega)]
  exact lets_get (pic_lets h hi) (by omega)
theorem mir_mir (u : List ByteArray) : mirL (mirL u) = u := by
  refine sts_ext (by simp) fun i hi => ?_
  have hi' : i < u.length := by simpa using hi
  rw [mirL_get (by simpa using hi'), mirL_get hi', revK_len, rev_rev]
theorem mir_back {u : List ByteArray} (h : picB u = true) : mirR (mirL u) = (u, true) := by rw [mirR_yes (mir_pic h), mir_mir]

/-! ### Read back -/
theorem split_app : ∀ {x : List UInt8} (p r : List UInt8), (∀ c ∈ x, c ≠ 10) → splitA p (x ++ 10 :: r) = (p ++ x) :: splitL r
  | [], p, r, _ => by rw [List.nil_append, splitA_nl, List.append_nil]
  | c :: x, p, r, h => by
    rw [List.cons_append, splitA_step (h c (by simp)), split_app (p ++ [c]) r fun d hd => h d (by simp [hd])]
    simp
theorem split_txtL : ∀ {L : List (List UInt8)}, (∀ x ∈ L, ∀ c ∈ x, c ≠ 10) → splitL (txtL L) = L ++ [[]]
  | [], _ => rfl
  | x :: r, h => by
    have e : txtL (x :: r) = x ++ 10 :: txtL r := by simp [txtL]
    rw [e, ← splitA_nil, split_app [] _ (h x (by simp)), split_txtL fun y hy => h y (by simp [hy])]
    simp
theorem ltr_ne {n : Int} (h : ltrI n = true) : n ≠ 10 := by
  intro e; subst e; revert h; decide
theorem nlS_txt {u : List ByteArray} (h : picB u = true) : nlS (txtK u u.length) = u ++ [ByteArray.empty] := by
  have e1 : (txtK u u.length).data.toList = txtL (u.map bytesOf) := by
    have := txtK_bytes u u.length (Nat.le_refl _)
    rw [List.take_length] at this
    exact this
  unfold nlS
  rw [e1, split_txtL]
  · rw [List.map_append, List.map_map]
    congr 1
    refine (List.map_congr_left fun b hb => ?_).trans (List.map_id _)
    apply ByteArray.ext
    simp [bytesOf]
  · intro x hx c hc e
    obtain ⟨b, hb, rfl⟩ := List.mem_map.1 hx
    obtain ⟨i, hi, rfl⟩ := List.mem_iff_getElem.1 hb
    obtain ⟨j, hj, rfl⟩ := List.mem_iff_getElem.1 hc
    have es : stAt u i = u[i] := by simp [stAt, List.getD, hi]
    have h1 := lets_get (pic_lets h hi) (j := j) (by rw [es]; exact hj)
    refine ltr_ne h1 ?_
    unfold byteI
    rw [es]
    have : (bytesOf u[i]).getD j 0 = (bytesOf u[i])[j] := by simp [List.getD, hj]
    rw [this, e]; rfl
theorem endNl_of {s : ByteArray} {t : List UInt8} (h : s.data.toList = t ++ [10]) : endNl s = true := by
  unfold endNl
  rw [h]
  simp [Lib.hasSuffix]
theorem txt_end {u : List ByteArray} (h : 1 ≤ u.length) : endNl (txtK u u.length) = true := by
  obtain ⟨n, hn⟩ : ∃ n, u.length = n + 1 := ⟨u.length - 1, by omega⟩
  rw [hn]
  refine endNl_of (t := bytesOf (txtK u n) ++ bytesOf (stAt u n)) ?_
  show bytesOf (txtK u n ++ (stAt u n ++ ⟨#[10]⟩)) = _
  rw [bytes_app, bytes_app, List.append_assoc]; rfl
theorem pr_back {u : List ByteArray} (h : picB u = true) : prR (txtK u u.length) = (u, true) := by
  have h1 := (picB_parts h).1.1
  have he := txt_end h1
  have h2 := nlS_snoc he
  rw [nlS_txt h] at h2
  have h3 : nlS (trimNl (txtK u u.length)) = u := (List.append_cancel_right h2).symm
  unfold prR
  rw [he, h3, h]; rfl

/-! ### Whole -/
theorem cut_all (b : ByteArray) : cutS b 0 (lenB b) = b := by
  apply ByteArray.ext
  unfold cutS lenB bytesOf
  rw [List.drop_zero, List.take_length]
theorem cut_back {u : List ByteArray} (h : picB u = true) : cutR u 0 0 (lenB (stAt u 0)) u.length = (u, true) := by
  obtain ⟨h1, h2, h3⟩ := picB_parts h
  rw [cutR_yes (cutB_iff.2 ⟨h, by omega, by omega, by omega, by omega, by omega, by omega⟩)]
  congr 1
  refine sts_ext (by simp) fun i hi => ?_
  have hi : i < u.length := by simpa using hi
  have e0 : (0 : Int).toNat = 0 := rfl
  rw [e0, cutL_get (by simpa using hi), Nat.zero_add]
  have : ((lenB (stAt u 0) : Nat) : Int).toNat = lenB (stAt u i) := by rw [h3 i hi]; omega
  rw [this, cut_all]
end Go.Proofs.YteapdildbfimnaaDoor
namespace Go.Proofs.YteapdildbfimnaaDoor
open Go.RowKit Go.Proofs
set_option linter.unusedSimpArgs false
set_option linter.unusedVariables false

/-- A contract out of a run that hands a scalar back. -/
theorem Fn.of_calls {P : Program} {f : FuncId} {vs : List V} {v : Value} (he : ∀ (args : Array Value) (w : World), (callFunc f args).run P w = .ok (.enter f args) w)
    (h : ∀ (w : World) (S0 : Nat → Prop) (us : List Value), RdL w S0 vs us → Calls P f us.toArray w fun e w' => e = .returned v ∧ Below w.heap.size w w') : Fn P f vs (.one (.pv (.val v))) := by
  refine ⟨he, fun w S0 us hus => (h w S0 us hus).mono ?_⟩
  rintro e w' ⟨rfl, hb⟩
  exact ⟨v, [], rfl, ⟨rfl, hb, fun id blk hi => by simp [bring, Res.list] at hi, fun i j bi bj b z z' hi => by simp [bring, Res.list] at hi⟩, rfl⟩

theorem join_fn (l : List ByteArray) (sep : ByteArray) (hl : l.length ≤ 1099511627776) (hlen : (Lib.join (l.map (·.data.toList)) sep.data.toList).length ≤ 140737488355328) :
    Fn Tryd.prog 37 [strs l, vs sep] (.one (.pv (vs (joinB l sep)))) := by
  refine Fn.of_calls Tryd.call37 fun w S0 us hus => ?_
  match us, hus with
  | [u0, u1], ⟨h0, h1, _⟩ =>
    obtain rfl : u1 = .string sep := h1
    obtain ⟨A, c, rfl, hc, hr⟩ := h0
    rcases Nat.eq_zero_or_pos l.length with h | h
    · obtain rfl : l = [] := List.length_eq_zero_iff.1 h
      refine (Tryd.strings_Join_none _ _ sep w).mono ?_
      rintro e w' ⟨rfl, rfl⟩
      exact ⟨rfl, Below.refl _ _⟩
    · obtain ⟨b, off, rfl, hS, hr⟩ := hr (by omega)
      obtain ⟨x0, hx0, _⟩ := hr 0 (by omega)
      refine (Tryd.strings_Join b off c l sep w (fun j x hj => ?_) (block_of_cell hx0) (by omega) hc hlen).mono ?_
      · obtain ⟨hlt, rfl⟩ := List.getElem?_eq_some_iff.1 hj
        obtain ⟨y, hy, e⟩ := hr j (by omega)
        have e' : y = .string (stAt l j) := e
        subst e'
        rw [hy]
        simp [stAt, List.getD, hlt]
      · rintro e w' ⟨rfl, hb⟩
        exact ⟨rfl, hb⟩

end Go.Proofs.YteapdildbfimnaaDoor
namespace Go.Proofs.YteapdildbfimnaaDoor
open Go.RowKit Go.Proofs
set_option linter.unusedSimpArgs false
set_option linter.unusedVariables false

theorem drText_fn (l : List ByteArray) (hl : l.length ≤ 1099511627776) (hs : sumB l l.length ≤ 1099511627776) : Fn Tryd.prog 38 [strs l] (.one (.pv (vs (txtK l l.length)))) := by
  refine Fn.of_body Tryd.call38 Tryd.func38 rfl Tryd.ntmps38 (ts := [2]) rfl (by simp) rfl (fun N => ?_)
  repeat' (first | (with_reducible first | refine then_normal ?_ | refine then_ret ?_ | refine then_exit ?_ | refine block_normal ?_ | refine block_ret ?_) | ((with_reducible show blockQ _ _ _ _); first | refine block_exit ?_ | refine block_exit_ne rfl ?_) | ((with_reducible show AWP _ _ _ _ _); first | (with_reducible first | refine AWP.seq ?_ | refine AWP.block ?_ | refine AWP.region ?_ | refine AWP.ret ?_ | refine AWP.exit ?_ | refine AWP.skip ?_) | refine AWP.drawn rfl (by kernel_rfl) ?_ | refine AWP.cond rfl ?_ ?_) | with_reducible refine ev_nil ?_ | ((first | ((with_reducible show evOps _ _ _ _ _ _); (first | refine ev_step rfl ?_ | refine ev_undef rfl rfl rfl ?_); intro K hK) | ((with_reducible show EvOpen _ _ _ _ _ _ _); refine ev_open ?_; intro K hK) | ((with_reducible show SkOpen _ _ _ _ _ _ _); refine sk_open ?_; intro K hK) | ((with_reducible show callK _ _ _ _ _ _ _ _); first | fail)); simp only [evOp, oldZ, evQ, evB, capsK, dynK, tabV, bytesK, eqStK, vInt, binK, withS, opd, kput, putS, upd, lookup, skipOp, argsK, loadOwn, bringIn, bring, Res.list, Res.slot, slotsOf, InK_i64, appendK, srcK, growK, storeK, frz, storeV, setBlk, makeK, newBlk, boxV, allocK, buildK, partsK, buildSliceK, plSlice, cutK, boundK, V.one, Value.oneCell', List.set_cons_zero, List.set_cons_succ, sz_ints, c_int, ei_ints, ea_ints, u_bool, bints, u_int, sz_strs, c_string, ei_strs, ea_strs, u_string, c_ints, sz_terms, ei_terms, ea_terms, c_term, fi0, fi1, fi2, z_term, pl_term, is_term, bs_bytes, ei_bytes, ea_bytes, sz_bytes, c_u8, u_u8, bstrs, brows, tf_0, tf_1, tf_2, tf_00, tf_01, tf_02, t3_0, t3_1, t3_2, bterms, retCell, retCell.cellOk, Nat.zero_le, lenB_is, byteI_is, InK_u8, List.getElem?_cons_zero, List.getElem?_cons_succ, Option.bind_some, List.reverse_cons, List.reverse_nil, List.nil_append, List.cons_append, List.length_cons, List.length_nil, Nat.reduceEqDiff, Nat.reduceAdd, Nat.reduceLT, Nat.reduceLeDiff, Nat.reduceMul, Nat.mul_one, Nat.one_mul, Nat.zero_mul, Nat.add_zero, Nat.zero_add, Nat.sub_zero, Nat.mod_one, Nat.not_lt_zero, List.getD_cons_zero, ↓reduceIte, if_true, if_false, eq_self, true_and, and_true, Bool.not_true, Bool.not_false, Bool.true_eq_false, Bool.false_eq_true, false_implies, forall_const, implies_true, Int.toNat_natCast, Int.toNat_zero, Int.toNat_one, Option.isSome_some]) | refine ev_guard rfl rfl rfl ?_ ?_ | ((with_reducible show retQ _ _ _ _); simp only [retQ, retOk, getL, lookup, Option.map_some, fitsL, fits, ND, srcs, Res.list, VE, List.getElem?_cons_zero, List.getElem?_cons_succ, Value.bool.injEq, Value.int.injEq, Nat.reduceEqDiff, ↓reduceIte, and_true, true_and]) | (with_reducible refine hK _ ?_; clear hK K) | (with_reducible refine And.intro ?_ ?_) | (with_reducible intro hc; try simp only [decide_eq_true_eq, decide_eq_false_iff_not, beq_iff_eq, beq_eq_false_iff_ne, bne_iff_ne, bne_eq_false_iff_eq, Bool.not_eq_true', Bool.not_eq_false', Bool.not_true, Bool.not_false, Int.not_lt, Int.not_le, gt_iff_lt, ge_iff_le, ne_eq, Decidable.not_not, reduceCtorEq, inB_true, inB_false, finB_true, finB_false, not_true_eq_false, eqB_refl, Bool.true_eq_false] at hc) | omega)
  refine AWP.loop_ent (fun k : Nat => ⟨[(3, .one (.pv (vs (txtK l k)))), (6, .one (.pv (strs l))), (7, sc (.int .i64 l.length)), (8, sc (.int .i64 k))], [], 18⟩)
    (fun k => k ≤ l.length) (fun k => l.length - k) 0 (by omega) (by simp [Ent, EntS, EntH, SlE, VE, VE.rfl', lookup, BE, txtK]) ?_
  intro k hk
  by_cases hkl : k < l.length
  · have h1 := sumB_mono l (show k + 1 ≤ l.length by omega)
    have h2 := txtK_size l k
    have h3 : sumB l (k + 1) = sumB l k + lenB (stAt l k) := rfl
    have h4 := lenB_size (stAt l k)
    have h5 : (stAt l k ++ ⟨#[10]⟩ : ByteArray).size = (stAt l k).size + 1 := by simp only [ByteArray.size_append]; rfl
    have h6 : (⟨#[10]⟩ : ByteArray).size = 1 := rfl
    repeat' (first | (with_reducible first | refine then_normal ?_ | refine then_ret ?_ | refine then_exit ?_ | refine block_normal ?_ | refine block_ret ?_) | ((with_reducible show blockQ _ _ _ _); first | refine block_exit ?_ | refine block_exit_ne rfl ?_) | ((with_reducible show AWP _ _ _ _ _); first | (with_reducible first | refine AWP.seq ?_ | refine AWP.block ?_ | refine AWP.region ?_ | refine AWP.ret ?_ | refine AWP.exit ?_ | refine AWP.skip ?_) | refine AWP.drawn rfl (by kernel_rfl) ?_ | refine AWP.cond rfl ?_ ?_) | with_reducible refine ev_nil ?_ | ((first | ((with_reducible show evOps _ _ _ _ _ _); (first | refine ev_step rfl ?_ | refine ev_undef rfl rfl rfl ?_); intro K hK) | ((with_reducible show EvOpen _ _ _ _ _ _ _); refine ev_open ?_; intro K hK) | ((with_reducible show SkOpen _ _ _ _ _ _ _); refine sk_open ?_; intro K hK) | ((with_reducible show callK _ _ _ _ _ _ _ _); first | fail)); simp only [evOp, oldZ, evQ, evB, capsK, dynK, tabV, bytesK, eqStK, vInt, binK, withS, opd, kput, putS, upd, lookup, skipOp, argsK, loadOwn, bringIn, bring, Res.list, Res.slot, slotsOf, InK_i64, appendK, srcK, growK, storeK, frz, storeV, setBlk, makeK, newBlk, boxV, allocK, buildK, partsK, buildSliceK, plSlice, cutK, boundK, V.one, Value.oneCell', List.set_cons_zero, List.set_cons_succ, sz_ints, c_int, ei_ints, ea_ints, u_bool, bints, u_int, sz_strs, c_string, ei_strs, ea_strs, u_string, c_ints, sz_terms, ei_terms, ea_terms, c_term, fi0, fi1, fi2, z_term, pl_term, is_term, bs_bytes, ei_bytes, ea_bytes, sz_bytes, c_u8, u_u8, bstrs, brows, tf_0, tf_1, tf_2, tf_00, tf_01, tf_02, t3_0, t3_1, t3_2, bterms, retCell, retCell.cellOk, Nat.zero_le, lenB_is, byteI_is, InK_u8, List.getElem?_cons_zero, List.getElem?_cons_succ, Option.bind_some, List.reverse_cons, List.reverse_nil, List.nil_append, List.cons_append, List.length_cons, List.length_nil, Nat.reduceEqDiff, Nat.reduceAdd, Nat.reduceLT, Nat.reduceLeDiff, Nat.reduceMul, Nat.mul_one, Nat.one_mul, Nat.zero_mul, Nat.add_zero, Nat.zero_add, Nat.sub_zero, Nat.mod_one, Nat.not_lt_zero, List.getD_cons_zero, ↓reduceIte, if_true, if_false, eq_self, true_and, and_true, Bool.not_true, Bool.not_false, Bool.true_eq_false, Bool.false_eq_true, false_implies, forall_const, implies_true, Int.toNat_natCast, Int.toNat_zero, Int.toNat_one, Option.isSome_some]) | refine ev_guard rfl rfl rfl ?_ ?_ | ((with_reducible show retQ _ _ _ _); simp only [retQ, retOk, getL, lookup, Option.map_some, fitsL, fits, ND, srcs, Res.list, VE, List.getElem?_cons_zero, List.getElem?_cons_succ, Value.bool.injEq, Value.int.injEq, Nat.reduceEqDiff, ↓reduceIte, and_true, true_and]) | (with_reducible refine hK _ ?_; clear hK K) | (with_reducible refine And.intro ?_ ?_) | (with_reducible intro hc; try simp only [decide_eq_true_eq, decide_eq_false_iff_not, beq_iff_eq, beq_eq_false_iff_ne, bne_iff_ne, bne_eq_false_iff_eq, Bool.not_eq_true', Bool.not_eq_false', Bool.not_true, Bool.not_false, Int.not_lt, Int.not_le, gt_iff_lt, ge_iff_le, ne_eq, Decidable.not_not, reduceCtorEq, inB_true, inB_false, finB_true, finB_false, not_true_eq_false, eqB_refl, Bool.true_eq_false] at hc) | omega)
    all_goals first
      | (exfalso; omega)
      | omega
      | (refine ⟨k + 1, by omega, by omega, by simp [Ent, EntS, EntH, SlE, VE, VE.rfl', lookup, BE, txtK]⟩)
      | trace_state
  · obtain rfl : k = l.length := by omega
    repeat' (first | (with_reducible first | refine then_normal ?_ | refine then_ret ?_ | refine then_exit ?_ | refine block_normal ?_ | refine block_ret ?_) | ((with_reducible show blockQ _ _ _ _); first | refine block_exit ?_ | refine block_exit_ne rfl ?_) | ((with_reducible show AWP _ _ _ _ _); first | (with_reducible first | refine AWP.seq ?_ | refine AWP.block ?_ | refine AWP.region ?_ | refine AWP.ret ?_ | refine AWP.exit ?_ | refine AWP.skip ?_) | refine AWP.drawn rfl (by kernel_rfl) ?_ | refine AWP.cond rfl ?_ ?_) | with_reducible refine ev_nil ?_ | ((first | ((with_reducible show evOps _ _ _ _ _ _); (first | refine ev_step rfl ?_ | refine ev_undef rfl rfl rfl ?_); intro K hK) | ((with_reducible show EvOpen _ _ _ _ _ _ _); refine ev_open ?_; intro K hK) | ((with_reducible show SkOpen _ _ _ _ _ _ _); refine sk_open ?_; intro K hK) | ((with_reducible show callK _ _ _ _ _ _ _ _); first | fail)); simp only [evOp, oldZ, evQ, evB, capsK, dynK, tabV, bytesK, eqStK, vInt, binK, withS, opd, kput, putS, upd, lookup, skipOp, argsK, loadOwn, bringIn, bring, Res.list, Res.slot, slotsOf, InK_i64, appendK, srcK, growK, storeK, frz, storeV, setBlk, makeK, newBlk, boxV, allocK, buildK, partsK, buildSliceK, plSlice, cutK, boundK, V.one, Value.oneCell', List.set_cons_zero, List.set_cons_succ, sz_ints, c_int, ei_ints, ea_ints, u_bool, bints, u_int, sz_strs, c_string, ei_strs, ea_strs, u_string, c_ints, sz_terms, ei_terms, ea_terms, c_term, fi0, fi1, fi2, z_term, pl_term, is_term, bs_bytes, ei_bytes, ea_bytes, sz_bytes, c_u8, u_u8, bstrs, brows, tf_0, tf_1, tf_2, tf_00, tf_01, tf_02, t3_0, t3_1, t3_2, bterms, retCell, retCell.cellOk, Nat.zero_le, lenB_is, byteI_is, InK_u8, List.getElem?_cons_zero, List.getElem?_cons_succ, Option.bind_some, List.reverse_cons, List.reverse_nil, List.nil_append, List.cons_append, List.length_cons, List.length_nil, Nat.reduceEqDiff, Nat.reduceAdd, Nat.reduceLT, Nat.reduceLeDiff, Nat.reduceMul, Nat.mul_one, Nat.one_mul, Nat.zero_mul, Nat.add_zero, Nat.zero_add, Nat.sub_zero, Nat.mod_one, Nat.not_lt_zero, List.getD_cons_zero, ↓reduceIte, if_true, if_false, eq_self, true_and, and_true, Bool.not_true, Bool.not_false, Bool.true_eq_false, Bool.false_eq_true, false_implies, forall_const, implies_true, Int.toNat_natCast, Int.toNat_zero, Int.toNat_one, Option.isSome_some]) | refine ev_guard rfl rfl rfl ?_ ?_ | ((with_reducible show retQ _ _ _ _); simp only [retQ, retOk, getL, lookup, Option.map_some, fitsL, fits, ND, srcs, Res.list, VE, List.getElem?_cons_zero, List.getElem?_cons_succ, Value.bool.injEq, Value.int.injEq, Nat.reduceEqDiff, ↓reduceIte, and_true, true_and]) | (with_reducible refine hK _ ?_; clear hK K) | (with_reducible refine And.intro ?_ ?_) | (with_reducible intro hc; try simp only [decide_eq_true_eq, decide_eq_false_iff_not, beq_iff_eq, beq_eq_false_iff_ne, bne_iff_ne, bne_eq_false_iff_eq, Bool.not_eq_true', Bool.not_eq_false', Bool.not_true, Bool.not_false, Int.not_lt, Int.not_le, gt_iff_lt, ge_iff_le, ne_eq, Decidable.not_not, reduceCtorEq, inB_true, inB_false, finB_true, finB_false, not_true_eq_false, eqB_refl, Bool.true_eq_false] at hc) | omega)
    all_goals first
      | (exfalso; omega)
      | rfl
      | trace_state

theorem implPictureText_fn (l : List ByteArray) (hl : l.length ≤ 1099511627776) : Fn Tryd.prog 16 [strs l] (.many [.pv (vs (ptR l).1), .pv (vb (ptR l).2)]) := by
  by_cases h : picB l = true
  · obtain ⟨h2, h3, h4⟩ := picB_parts h
    have h5 := picB_sum h l.length (Nat.le_refl _)
    have h6 := join_nl_len (l := l) (by omega)
    have h7 : (joinB l ⟨#[10]⟩).size = (Lib.join (l.map (·.data.toList)) [10]).length := rfl
    have h8 : (⟨#[10]⟩ : ByteArray).size = 1 := rfl
    have hcon := join_fn l ⟨#[10]⟩ hl (by show (Lib.join (l.map (·.data.toList)) [10]).length ≤ _; omega)
    refine Fn.of_body Tryd.call16 Tryd.func16 rfl Tryd.ntmps16 (ts := [2, 3]) rfl (by simp) rfl (fun N => ?_)
    repeat' (first | (with_reducible first | refine then_normal ?_ | refine then_ret ?_ | refine then_exit ?_ | refine block_normal ?_ | refine block_ret ?_) | ((with_reducible show blockQ _ _ _ _); first | refine block_exit ?_ | refine block_exit_ne rfl ?_) | ((with_reducible show AWP _ _ _ _ _); first | (with_reducible first | refine AWP.seq ?_ | refine AWP.block ?_ | refine AWP.region ?_ | refine AWP.ret ?_ | refine AWP.exit ?_ | refine AWP.skip ?_) | refine AWP.drawn rfl (by kernel_rfl) ?_ | refine AWP.cond rfl ?_ ?_) | with_reducible refine ev_nil ?_ | ((first | ((with_reducible show evOps _ _ _ _ _ _); (first | refine ev_step rfl ?_ | refine ev_undef rfl rfl rfl ?_); intro K hK) | ((with_reducible show EvOpen _ _ _ _ _ _ _); refine ev_open ?_; intro K hK) | ((with_reducible show SkOpen _ _ _ _ _ _ _); refine sk_open ?_; intro K hK) | ((with_reducible show callK _ _ _ _ _ _ _ _); first  | (refine call_scalar (isPicture_fn l hl) (Nat.le_of_ble_eq_true rfl) rfl ?_) | (refine call_scalar (hcon) (Nat.le_of_ble_eq_true rfl) rfl ?_))); simp only [evOp, oldZ, evQ, evB, capsK, dynK, tabV, bytesK, eqStK, vInt, binK, withS, opd, kput, putS, upd, lookup, skipOp, argsK, loadOwn, bringIn, bring, Res.list, Res.slot, slotsOf, InK_i64, appendK, srcK, growK, storeK, frz, storeV, setBlk, makeK, newBlk, boxV, allocK, buildK, partsK, buildSliceK, plSlice, cutK, boundK, V.one, Value.oneCell', List.set_cons_zero, List.set_cons_succ, sz_ints, c_int, ei_ints, ea_ints, u_bool, bints, u_int, sz_strs, c_string, ei_strs, ea_strs, u_string, c_ints, sz_terms, ei_terms, ea_terms, c_term, fi0, fi1, fi2, z_term, pl_term, is_term, bs_bytes, ei_bytes, ea_bytes, sz_bytes, c_u8, u_u8, bstrs, brows, tf_0, tf_1, tf_2, tf_00, tf_01, tf_02, t3_0, t3_1, t3_2, bterms, retCell, retCell.cellOk, Nat.zero_le, lenB_is, byteI_is, InK_u8, List.getElem?_cons_zero, List.getElem?_cons_succ, Option.bind_some, List.reverse_cons, List.reverse_nil, List.nil_append, List.cons_append, List.length_cons, List.length_nil, Nat.reduceEqDiff, Nat.reduceAdd, Nat.reduceLT, Nat.reduceLeDiff, Nat.reduceMul, Nat.mul_one, Nat.one_mul, Nat.zero_mul, Nat.add_zero, Nat.zero_add, Nat.sub_zero, Nat.mod_one, Nat.not_lt_zero, List.getD_cons_zero, ↓reduceIte, if_true, if_false, eq_self, true_and, and_true, Bool.not_true, Bool.not_false, Bool.true_eq_false, Bool.false_eq_true, false_implies, forall_const, implies_true, Int.toNat_natCast, Int.toNat_zero, Int.toNat_one, Option.isSome_some]) | refine ev_guard rfl rfl rfl ?_ ?_ | ((with_reducible show retQ _ _ _ _); simp only [retQ, retOk, getL, lookup, Option.map_some, fitsL, fits, ND, srcs, Res.list, VE, List.getElem?_cons_zero, List.getElem?_cons_succ, Value.bool.injEq, Value.int.injEq, Nat.reduceEqDiff, ↓reduceIte, and_true, true_and]) | (with_reducible refine hK _ ?_; clear hK K) | (with_reducible refine And.intro ?_ ?_) | (with_reducible intro hc; try simp only [decide_eq_true_eq, decide_eq_false_iff_not, beq_iff_eq, beq_eq_false_iff_ne, bne_iff_ne, bne_eq_false_iff_eq, Bool.not_eq_true', Bool.not_eq_false', Bool.not_true, Bool.not_false, Int.not_lt, Int.not_le, gt_iff_lt, ge_iff_le, ne_eq, Decidable.not_not, reduceCtorEq, inB_true, inB_false, finB_true, finB_false, not_true_eq_false, eqB_refl, Bool.true_eq_false] at hc) | omega)
    all_goals first
      | (exfalso; simp_all; done)
      | omega
      | (rw [ptR_yes h, txt_join (by omega)]; done)
      | (rw [ptR_yes h]; done)
      | trace_state
  · refine Fn.of_body Tryd.call16 Tryd.func16 rfl Tryd.ntmps16 (ts := [2, 3]) rfl (by simp) rfl (fun N => ?_)
    repeat' (first | (with_reducible first | refine then_normal ?_ | refine then_ret ?_ | refine then_exit ?_ | refine block_normal ?_ | refine block_ret ?_) | ((with_reducible show blockQ _ _ _ _); first | refine block_exit ?_ | refine block_exit_ne rfl ?_) | ((with_reducible show AWP _ _ _ _ _); first | (with_reducible first | refine AWP.seq ?_ | refine AWP.block ?_ | refine AWP.region ?_ | refine AWP.ret ?_ | refine AWP.exit ?_ | refine AWP.skip ?_) | refine AWP.drawn rfl (by kernel_rfl) ?_ | refine AWP.cond rfl ?_ ?_) | with_reducible refine ev_nil ?_ | ((first | ((with_reducible show evOps _ _ _ _ _ _); (first | refine ev_step rfl ?_ | refine ev_undef rfl rfl rfl ?_); intro K hK) | ((with_reducible show EvOpen _ _ _ _ _ _ _); refine ev_open ?_; intro K hK) | ((with_reducible show SkOpen _ _ _ _ _ _ _); refine sk_open ?_; intro K hK) | ((with_reducible show callK _ _ _ _ _ _ _ _); first  | (refine call_scalar (isPicture_fn l hl) (Nat.le_of_ble_eq_true rfl) rfl ?_))); simp only [evOp, oldZ, evQ, evB, capsK, dynK, tabV, bytesK, eqStK, vInt, binK, withS, opd, kput, putS, upd, lookup, skipOp, argsK, loadOwn, bringIn, bring, Res.list, Res.slot, slotsOf, InK_i64, appendK, srcK, growK, storeK, frz, storeV, setBlk, makeK, newBlk, boxV, allocK, buildK, partsK, buildSliceK, plSlice, cutK, boundK, V.one, Value.oneCell', List.set_cons_zero, List.set_cons_succ, sz_ints, c_int, ei_ints, ea_ints, u_bool, bints, u_int, sz_strs, c_string, ei_strs, ea_strs, u_string, c_ints, sz_terms, ei_terms, ea_terms, c_term, fi0, fi1, fi2, z_term, pl_term, is_term, bs_bytes, ei_bytes, ea_bytes, sz_bytes, c_u8, u_u8, bstrs, brows, tf_0, tf_1, tf_2, tf_00, tf_01, tf_02, t3_0, t3_1, t3_2, bterms, retCell, retCell.cellOk, Nat.zero_le, lenB_is, byteI_is, InK_u8, List.getElem?_cons_zero, List.getElem?_cons_succ, Option.bind_some, List.reverse_cons, List.reverse_nil, List.nil_append, List.cons_append, List.length_cons, List.length_nil, Nat.reduceEqDiff, Nat.reduceAdd, Nat.reduceLT, Nat.reduceLeDiff, Nat.reduceMul, Nat.mul_one, Nat.one_mul, Nat.zero_mul, Nat.add_zero, Nat.zero_add, Nat.sub_zero, Nat.mod_one, Nat.not_lt_zero, List.getD_cons_zero, ↓reduceIte, if_true, if_false, eq_self, true_and, and_true, Bool.not_true, Bool.not_false, Bool.true_eq_false, Bool.false_eq_true, false_implies, forall_const, implies_true, Int.toNat_natCast, Int.toNat_zero, Int.toNat_one, Option.isSome_some]) | refine ev_guard rfl rfl rfl ?_ ?_ | ((with_reducible show retQ _ _ _ _); simp only [retQ, retOk, getL, lookup, Option.map_some, fitsL, fits, ND, srcs, Res.list, VE, List.getElem?_cons_zero, List.getElem?_cons_succ, Value.bool.injEq, Value.int.injEq, Nat.reduceEqDiff, ↓reduceIte, and_true, true_and]) | (with_reducible refine hK _ ?_; clear hK K) | (with_reducible refine And.intro ?_ ?_) | (with_reducible intro hc; try simp only [decide_eq_true_eq, decide_eq_false_iff_not, beq_iff_eq, beq_eq_false_iff_ne, bne_iff_ne, bne_eq_false_iff_eq, Bool.not_eq_true', Bool.not_eq_false', Bool.not_true, Bool.not_false, Int.not_lt, Int.not_le, gt_iff_lt, ge_iff_le, ne_eq, Decidable.not_not, reduceCtorEq, inB_true, inB_false, finB_true, finB_false, not_true_eq_false, eqB_refl, Bool.true_eq_false] at hc) | omega)
    all_goals first
      | (exfalso; simp_all; done)
      | (rw [ptR_no (by simpa using h)]; done)
      | trace_state

theorem specPictureText_fn (l : List ByteArray) (hl : l.length ≤ 1099511627776) (hs : ∀ i, lenB (stAt l i) ≤ 1099511627776) : Fn Tryd.prog 17 [strs l] (.many [.pv (vs (ptR l).1), .pv (vb (ptR l).2)]) := by
  by_cases h : picB l = true
  · obtain ⟨h2, h3, h4⟩ := picB_parts h
    have h5 := picB_sum h l.length (Nat.le_refl _)
    refine Fn.of_body Tryd.call17 Tryd.func17 rfl Tryd.ntmps17 (ts := [2, 3]) rfl (by simp) rfl (fun N => ?_)
    repeat' (first | (with_reducible first | refine then_normal ?_ | refine then_ret ?_ | refine then_exit ?_ | refine block_normal ?_ | refine block_ret ?_) | ((with_reducible show blockQ _ _ _ _); first | refine block_exit ?_ | refine block_exit_ne rfl ?_) | ((with_reducible show AWP _ _ _ _ _); first | (with_reducible first | refine AWP.seq ?_ | refine AWP.block ?_ | refine AWP.region ?_ | refine AWP.ret ?_ | refine AWP.exit ?_ | refine AWP.skip ?_) | refine AWP.drawn rfl (by kernel_rfl) ?_ | refine AWP.cond rfl ?_ ?_) | with_reducible refine ev_nil ?_ | ((first | ((with_reducible show evOps _ _ _ _ _ _); (first | refine ev_step rfl ?_ | refine ev_undef rfl rfl rfl ?_); intro K hK) | ((with_reducible show EvOpen _ _ _ _ _ _ _); refine ev_open ?_; intro K hK) | ((with_reducible show SkOpen _ _ _ _ _ _ _); refine sk_open ?_; intro K hK) | ((with_reducible show callK _ _ _ _ _ _ _ _); first  | (refine call_scalar (drGood_fn l hl hs) (Nat.le_of_ble_eq_true rfl) rfl ?_) | (refine call_scalar (drText_fn l hl (by omega)) (Nat.le_of_ble_eq_true rfl) rfl ?_))); simp only [evOp, oldZ, evQ, evB, capsK, dynK, tabV, bytesK, eqStK, vInt, binK, withS, opd, kput, putS, upd, lookup, skipOp, argsK, loadOwn, bringIn, bring, Res.list, Res.slot, slotsOf, InK_i64, appendK, srcK, growK, storeK, frz, storeV, setBlk, makeK, newBlk, boxV, allocK, buildK, partsK, buildSliceK, plSlice, cutK, boundK, V.one, Value.oneCell', List.set_cons_zero, List.set_cons_succ, sz_ints, c_int, ei_ints, ea_ints, u_bool, bints, u_int, sz_strs, c_string, ei_strs, ea_strs, u_string, c_ints, sz_terms, ei_terms, ea_terms, c_term, fi0, fi1, fi2, z_term, pl_term, is_term, bs_bytes, ei_bytes, ea_bytes, sz_bytes, c_u8, u_u8, bstrs, brows, tf_0, tf_1, tf_2, tf_00, tf_01, tf_02, t3_0, t3_1, t3_2, bterms, retCell, retCell.cellOk, Nat.zero_le, lenB_is, byteI_is, InK_u8, List.getElem?_cons_zero, List.getElem?_cons_succ, Option.bind_some, List.reverse_cons, List.reverse_nil, List.nil_append, List.cons_append, List.length_cons, List.length_nil, Nat.reduceEqDiff, Nat.reduceAdd, Nat.reduceLT, Nat.reduceLeDiff, Nat.reduceMul, Nat.mul_one, Nat.one_mul, Nat.zero_mul, Nat.add_zero, Nat.zero_add, Nat.sub_zero, Nat.mod_one, Nat.not_lt_zero, List.getD_cons_zero, ↓reduceIte, if_true, if_false, eq_self, true_and, and_true, Bool.not_true, Bool.not_false, Bool.true_eq_false, Bool.false_eq_true, false_implies, forall_const, implies_true, Int.toNat_natCast, Int.toNat_zero, Int.toNat_one, Option.isSome_some]) | refine ev_guard rfl rfl rfl ?_ ?_ | ((with_reducible show retQ _ _ _ _); simp only [retQ, retOk, getL, lookup, Option.map_some, fitsL, fits, ND, srcs, Res.list, VE, List.getElem?_cons_zero, List.getElem?_cons_succ, Value.bool.injEq, Value.int.injEq, Nat.reduceEqDiff, ↓reduceIte, and_true, true_and]) | (with_reducible refine hK _ ?_; clear hK K) | (with_reducible refine And.intro ?_ ?_) | (with_reducible intro hc; try simp only [decide_eq_true_eq, decide_eq_false_iff_not, beq_iff_eq, beq_eq_false_iff_ne, bne_iff_ne, bne_eq_false_iff_eq, Bool.not_eq_true', Bool.not_eq_false', Bool.not_true, Bool.not_false, Int.not_lt, Int.not_le, gt_iff_lt, ge_iff_le, ne_eq, Decidable.not_not, reduceCtorEq, inB_true, inB_false, finB_true, finB_false, not_true_eq_false, eqB_refl, Bool.true_eq_false] at hc) | omega)
    all_goals first
      | (exfalso; simp_all; done)
      | (rw [ptR_yes h]; done)
      | trace_state
  · refine Fn.of_body Tryd.call17 Tryd.func17 rfl Tryd.ntmps17 (ts := [2, 3]) rfl (by simp) rfl (fun N => ?_)
    repeat' (first | (with_reducible first | refine then_normal ?_ | refine then_ret ?_ | refine then_exit ?_ | refine block_normal ?_ | refine block_ret ?_) | ((with_reducible show blockQ _ _ _ _); first | refine block_exit ?_ | refine block_exit_ne rfl ?_) | ((with_reducible show AWP _ _ _ _ _); first | (with_reducible first | refine AWP.seq ?_ | refine AWP.block ?_ | refine AWP.region ?_ | refine AWP.ret ?_ | refine AWP.exit ?_ | refine AWP.skip ?_) | refine AWP.drawn rfl (by kernel_rfl) ?_ | refine AWP.cond rfl ?_ ?_) | with_reducible refine ev_nil ?_ | ((first | ((with_reducible show evOps _ _ _ _ _ _); (first | refine ev_step rfl ?_ | refine ev_undef rfl rfl rfl ?_); intro K hK) | ((with_reducible show EvOpen _ _ _ _ _ _ _); refine ev_open ?_; intro K hK) | ((with_reducible show SkOpen _ _ _ _ _ _ _); refine sk_open ?_; intro K hK) | ((with_reducible show callK _ _ _ _ _ _ _ _); first  | (refine call_scalar (drGood_fn l hl hs) (Nat.le_of_ble_eq_true rfl) rfl ?_))); simp only [evOp, oldZ, evQ, evB, capsK, dynK, tabV, bytesK, eqStK, vInt, binK, withS, opd, kput, putS, upd, lookup, skipOp, argsK, loadOwn, bringIn, bring, Res.list, Res.slot, slotsOf, InK_i64, appendK, srcK, growK, storeK, frz, storeV, setBlk, makeK, newBlk, boxV, allocK, buildK, partsK, buildSliceK, plSlice, cutK, boundK, V.one, Value.oneCell', List.set_cons_zero, List.set_cons_succ, sz_ints, c_int, ei_ints, ea_ints, u_bool, bints, u_int, sz_strs, c_string, ei_strs, ea_strs, u_string, c_ints, sz_terms, ei_terms, ea_terms, c_term, fi0, fi1, fi2, z_term, pl_term, is_term, bs_bytes, ei_bytes, ea_bytes, sz_bytes, c_u8, u_u8, bstrs, brows, tf_0, tf_1, tf_2, tf_00, tf_01, tf_02, t3_0, t3_1, t3_2, bterms, retCell, retCell.cellOk, Nat.zero_le, lenB_is, byteI_is, InK_u8, List.getElem?_cons_zero, List.getElem?_cons_succ, Option.bind_some, List.reverse_cons, List.reverse_nil, List.nil_append, List.cons_append, List.length_cons, List.length_nil, Nat.reduceEqDiff, Nat.reduceAdd, Nat.reduceLT, Nat.reduceLeDiff, Nat.reduceMul, Nat.mul_one, Nat.one_mul, Nat.zero_mul, Nat.add_zero, Nat.zero_add, Nat.sub_zero, Nat.mod_one, Nat.not_lt_zero, List.getD_cons_zero, ↓reduceIte, if_true, if_false, eq_self, true_and, and_true, Bool.not_true, Bool.not_false, Bool.true_eq_false, Bool.false_eq_true, false_implies, forall_const, implies_true, Int.toNat_natCast, Int.toNat_zero, Int.toNat_one, Option.isSome_some]) | refine ev_guard rfl rfl rfl ?_ ?_ | ((with_reducible show retQ _ _ _ _); simp only [retQ, retOk, getL, lookup, Option.map_some, fitsL, fits, ND, srcs, Res.list, VE, List.getElem?_cons_zero, List.getElem?_cons_succ, Value.bool.injEq, Value.int.injEq, Nat.reduceEqDiff, ↓reduceIte, and_true, true_and]) | (with_reducible refine hK _ ?_; clear hK K) | (with_reducible refine And.intro ?_ ?_) | (with_reducible intro hc; try simp only [decide_eq_true_eq, decide_eq_false_iff_not, beq_iff_eq, beq_eq_false_iff_ne, bne_iff_ne, bne_eq_false_iff_eq, Bool.not_eq_true', Bool.not_eq_false', Bool.not_true, Bool.not_false, Int.not_lt, Int.not_le, gt_iff_lt, ge_iff_le, ne_eq, Decidable.not_not, reduceCtorEq, inB_true, inB_false, finB_true, finB_false, not_true_eq_false, eqB_refl, Bool.true_eq_false] at hc) | omega)
    all_goals first
      | (exfalso; simp_all; done)
      | (rw [ptR_no (by simpa using h)]; done)
      | trace_state

end Go.Proofs.YteapdildbfimnaaDoor
