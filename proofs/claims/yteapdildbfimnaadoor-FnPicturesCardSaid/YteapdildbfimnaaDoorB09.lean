/- Parts of the proof of LawFnPictures: contracts of functions, laws of an abstract state, plain facts. No conditions. -/
import Derived.Test.YteapdildbfimnaaDoorB08
import Derived.Lib.Split
import Derived.Lib.SplitLaws
import Derived.Lib.IndexLaws
import Derived.Lib.IndexBytes
import Derived.Test.YteapdildbfimnaaDoorShelf
namespace Go.Proofs.YteapdildbfimnaaDoor
open Go.RowKit Go.Proofs
set_option linter.unusedSimpArgs false
set_option linter.unusedVariables false

theorem strOfNums_app (a b : List Int) : strOfNums (a ++ b) = strOfNums a ++ strOfNums b := by
  apply ByteArray.ext
  rw [ByteArray.data_append]
  simp [strOfNums]

def rowS (l : List T3) (x v : Int) (n : Nat) : ByteArray := strOfNums ((List.range n).map fun (j : Nat) => letP l (x + (j : Int)) v)
theorem rowS_zero (l : List T3) (x v : Int) : rowS l x v 0 = ByteArray.mk #[] := rfl
theorem rowS_succ (l : List T3) (x v : Int) (n : Nat) : rowS l x v (n + 1) = rowS l x v n ++ letS l (x + (n : Int)) v := by
  unfold rowS letS
  rw [List.range_succ, List.map_append, strOfNums_app]; rfl
theorem rowS_size (l : List T3) (x v : Int) (n : Nat) : (rowS l x v n).size = n := by unfold rowS; rw [strOfNums_size]; simp
theorem letS_size (l : List T3) (x y : Int) : (letS l x y).size = 1 := by unfold letS; rw [strOfNums_size]; rfl
def pokB (l : List T3) (x y w h : Int) : Bool := planeB l && inB x (-100) 100 && inB y (-100) 100 && inB w 1 16 && inB h 1 16
theorem pokB_no {l : List T3} {x y w h : Int} (hn : ¬ ((-100 ≤ x ∧ x ≤ 100) ∧ (-100 ≤ y ∧ y ≤ 100) ∧ (1 ≤ w ∧ w ≤ 16) ∧ (1 ≤ h ∧ h ≤ 16))) : pokB l x y w h = false := by
  cases e : pokB l x y w h with
  | false => rfl
  | true =>
    unfold pokB at e
    simp only [Bool.and_eq_true] at e
    exact absurd ⟨inB_true.1 e.1.1.1.2, inB_true.1 e.1.1.2, inB_true.1 e.1.2, inB_true.1 e.2⟩ hn
theorem pokB_noP {l : List T3} {x y w h : Int} (hn : planeB l = false) : pokB l x y w h = false := by unfold pokB; rw [hn]; rfl
theorem pokB_yes {l : List T3} {x y w h : Int} (hp : planeB l = true) (hn : (-100 ≤ x ∧ x ≤ 100) ∧ (-100 ≤ y ∧ y ≤ 100) ∧ (1 ≤ w ∧ w ≤ 16) ∧ (1 ≤ h ∧ h ≤ 16)) : pokB l x y w h = true := by
  unfold pokB; rw [hp, inB_true.2 hn.1, inB_true.2 hn.2.1, inB_true.2 hn.2.2.1, inB_true.2 hn.2.2.2]; rfl
def arow (l : List T3) (x v : Int) (n : Nat) : Bool := allN n fun j => askP l (x + (j : Int)) v
def aall (l : List T3) (x y : Int) (w h : Nat) : Bool := allN h fun i => arow l x (y + h - 1 - (i : Int)) w
def poL (l : List T3) (x y : Int) (w h : Nat) : List ByteArray := (List.range h).map fun (i : Nat) => rowS l x (y + h - 1 - (i : Int)) w
@[simp] theorem poL_len (l : List T3) (x y : Int) (w h : Nat) : (poL l x y w h).length = h := by simp [poL]
theorem poL_get {l : List T3} {x y : Int} {w h i : Nat} (hi : i < h) : stAt (poL l x y w h) i = rowS l x (y + h - 1 - (i : Int)) w := by simp [stAt, poL, List.getD, hi]
def poR (l : List T3) (x y w h : Int) : List ByteArray × Bool := if pokB l x y w h && aall l x y w.toNat h.toNat then (poL l x y w.toNat h.toNat, true) else ([], false)
theorem poR_no {l : List T3} {x y w h : Int} (hn : pokB l x y w h = false) : poR l x y w h = ([], false) := by unfold poR; rw [hn]; rfl
theorem poR_ask {l : List T3} {x y w h : Int} {i j : Nat} (hi : i < h.toNat) (hj : j < w.toNat) (hn : askP l (x + (j : Int)) (y + (h.toNat : Int) - 1 - (i : Int)) = false) : poR l x y w h = ([], false) := by
  have : aall l x y w.toNat h.toNat = false := allN_false hi (allN_false hj hn)
  unfold poR; rw [this, Bool.and_false]; rfl
theorem poR_yes {l : List T3} {x y w h : Int} (hp : pokB l x y w h = true) (ha : aall l x y w.toNat h.toNat = true) : poR l x y w h = (poL l x y w.toNat h.toNat, true) := by unfold poR; rw [hp, ha]; rfl
theorem grow_strs2 {e : TypeId} {k : Nat} {L : List ByteArray} {v z : V} (h : v = vs (stAt L k)) : BE ⟨e, k + 1, fun i => if i < k then vs (stAt L i) else if i - k = 0 then v else z⟩ ⟨e, k + 1, fun i => vs (stAt L i)⟩ := grow_be (VE.of_eq h)

set_option maxHeartbeats 2000000 in
theorem implPictureOf_fn (l : List T3) (x y w h : Int) (hl : l.length ≤ 1099511627776) : Fn Tryd.prog 6 [terms l, vi x, vi y, vi w, vi h]
    (.many [.fr 1 (poR l x y w h).1.length (bstrs (poR l x y w h).1), .pv (vb (poR l x y w h).2)]) := by
  refine Fn.of_body Tryd.call6 Tryd.func6 rfl Tryd.ntmps6 (ts := [10, 11]) rfl (by simp) rfl (fun N => ?_)
  repeat' (first | (with_reducible first | refine then_normal ?_ | refine then_ret ?_ | refine then_exit ?_ | refine block_normal ?_ | refine block_ret ?_) | ((with_reducible show blockQ _ _ _ _); first | refine block_exit ?_ | refine block_exit_ne rfl ?_) | ((with_reducible show AWP _ _ _ _ _); first | (with_reducible first | refine AWP.seq ?_ | refine AWP.block ?_ | refine AWP.region ?_ | refine AWP.ret ?_ | refine AWP.exit ?_ | refine AWP.skip ?_) | refine AWP.drawn rfl (by kernel_rfl) ?_ | refine AWP.cond rfl ?_ ?_) | with_reducible refine ev_nil ?_ | ((first | ((with_reducible show evOps _ _ _ _ _ _); (first | refine ev_step rfl ?_ | refine ev_undef rfl rfl rfl ?_); intro K hK) | ((with_reducible show EvOpen _ _ _ _ _ _ _); refine ev_open ?_; intro K hK) | ((with_reducible show SkOpen _ _ _ _ _ _ _); refine sk_open ?_; intro K hK) | ((with_reducible show callK _ _ _ _ _ _ _ _); first  | (refine call_scalar (isPlane_fn l hl) (Nat.le_of_ble_eq_true rfl) rfl ?_) | (refine call_scalar (within_fn _ _ _) (Nat.le_of_ble_eq_true rfl) rfl ?_))); simp only [evOp, oldZ, evQ, evB, capsK, dynK, tabV, bytesK, eqStK, vInt, binK, withS, opd, kput, putS, upd, lookup, skipOp, argsK, loadOwn, bringIn, bring, Res.list, Res.slot, slotsOf, InK_i64, appendK, srcK, growK, storeK, frz, storeV, setBlk, makeK, newBlk, boxV, allocK, buildK, partsK, buildSliceK, plSlice, cutK, boundK, V.one, Value.oneCell', List.set_cons_zero, List.set_cons_succ, sz_ints, c_int, ei_ints, ea_ints, u_bool, bints, u_int, sz_strs, c_string, ei_strs, ea_strs, u_string, c_ints, sz_terms, ei_terms, ea_terms, c_term, fi0, fi1, fi2, z_term, pl_term, is_term, bs_bytes, ei_bytes, ea_bytes, sz_bytes, c_u8, u_u8, bstrs, brows, tf_0, tf_1, tf_2, tf_00, tf_01, tf_02, t3_0, t3_1, t3_2, bterms, retCell, retCell.cellOk, Nat.zero_le, lenB_is, byteI_is, InK_u8, List.getElem?_cons_zero, List.getElem?_cons_succ, Option.bind_some, List.reverse_cons, List.reverse_nil, List.nil_append, List.cons_append, List.length_cons, List.length_nil, Nat.reduceEqDiff, Nat.reduceAdd, Nat.reduceLT, Nat.reduceLeDiff, Nat.reduceMul, Nat.mul_one, Nat.one_mul, Nat.zero_mul, Nat.add_zero, Nat.zero_add, Nat.sub_zero, Nat.mod_one, Nat.not_lt_zero, List.getD_cons_zero, ↓reduceIte, if_true, if_false, eq_self, true_and, and_true, Bool.not_true, Bool.not_false, Bool.true_eq_false, Bool.false_eq_true, false_implies, forall_const, implies_true, Int.toNat_natCast, Int.toNat_zero, Int.toNat_one, Option.isSome_some]) | refine ev_guard rfl rfl rfl ?_ ?_ | ((with_reducible show retQ _ _ _ _); simp only [retQ, retOk, getL, lookup, Option.map_some, fitsL, fits, ND, srcs, Res.list, VE, List.getElem?_cons_zero, List.getElem?_cons_succ, Value.bool.injEq, Value.int.injEq, Nat.reduceEqDiff, ↓reduceIte, and_true, true_and]) | (with_reducible refine hK _ ?_; clear hK K) | (with_reducible refine And.intro ?_ ?_) | (with_reducible intro hc; try simp only [decide_eq_true_eq, decide_eq_false_iff_not, beq_iff_eq, beq_eq_false_iff_ne, bne_iff_ne, bne_eq_false_iff_eq, Bool.not_eq_true', Bool.not_eq_false', Bool.not_true, Bool.not_false, Int.not_lt, Int.not_le, gt_iff_lt, ge_iff_le, ne_eq, Decidable.not_not, reduceCtorEq, inB_true, inB_false, finB_true, finB_false, not_true_eq_false, eqB_refl, Bool.true_eq_false] at hc) | omega)
  any_goals first
    | (simp [poR_no (pokB_noP (x := x) (y := y) (w := w) (h := h) ‹planeB l = false›), bstrs]; done)
    | (simp [poR_no (pokB_no (l := l) (x := x) (y := y) (w := w) (h := h) (by omega)), bstrs]; done)
  have hok : pokB l x y w h = true := pokB_yes ‹planeB l = true› ⟨by omega, by omega, by omega, by omega⟩
  refine AWP.loop_entR [0] (fun i : Nat => ⟨[(0, .one (.pv (terms l))), (1, sc (.int .i64 x)), (2, sc (.int .i64 y)), (3, sc (.int .i64 w)), (12, .one (.own 0 1 0 i)), (13, sc (.int .i64 (y + (h.toNat : Int) - 1 - (i : Int))))], [some ⟨9, i, fun k => vs (stAt (poL l x y w.toNat h.toNat) k)⟩], 79⟩)
    (fun i => i ≤ h.toNat ∧ ∀ k, k < i → arow l x (y + (h.toNat : Int) - 1 - (k : Int)) w.toNat = true) (fun i => h.toNat - i) 0 ⟨by omega, by simp⟩ (by simp [EntR, EntSR, EntHR, SlR, VE, VE.rfl', lookup, BE, upd, sc]; omega) ?_
  rintro i ⟨hi, hall⟩
  repeat' (first | (with_reducible first | refine then_normal ?_ | refine then_ret ?_ | refine then_exit ?_ | refine block_normal ?_ | refine block_ret ?_) | ((with_reducible show blockQ _ _ _ _); first | refine block_exit ?_ | refine block_exit_ne rfl ?_) | ((with_reducible show AWP _ _ _ _ _); first | (with_reducible first | refine AWP.seq ?_ | refine AWP.block ?_ | refine AWP.region ?_ | refine AWP.ret ?_ | refine AWP.exit ?_ | refine AWP.skip ?_) | refine AWP.drawn rfl (by kernel_rfl) ?_ | refine AWP.cond rfl ?_ ?_) | with_reducible refine ev_nil ?_ | ((first | ((with_reducible show evOps _ _ _ _ _ _); (first | refine ev_step rfl ?_ | refine ev_undef rfl rfl rfl ?_); intro K hK) | ((with_reducible show EvOpen _ _ _ _ _ _ _); refine ev_open ?_; intro K hK) | ((with_reducible show SkOpen _ _ _ _ _ _ _); refine sk_open ?_; intro K hK) | ((with_reducible show callK _ _ _ _ _ _ _ _); first | fail)); simp only [evOp, oldZ, evQ, evB, capsK, dynK, tabV, bytesK, eqStK, vInt, binK, withS, opd, kput, putS, upd, lookup, skipOp, argsK, loadOwn, bringIn, bring, Res.list, Res.slot, slotsOf, InK_i64, appendK, srcK, growK, storeK, frz, storeV, setBlk, makeK, newBlk, boxV, allocK, buildK, partsK, buildSliceK, plSlice, cutK, boundK, V.one, Value.oneCell', List.set_cons_zero, List.set_cons_succ, sz_ints, c_int, ei_ints, ea_ints, u_bool, bints, u_int, sz_strs, c_string, ei_strs, ea_strs, u_string, c_ints, sz_terms, ei_terms, ea_terms, c_term, fi0, fi1, fi2, z_term, pl_term, is_term, bs_bytes, ei_bytes, ea_bytes, sz_bytes, c_u8, u_u8, bstrs, brows, tf_0, tf_1, tf_2, tf_00, tf_01, tf_02, t3_0, t3_1, t3_2, bterms, retCell, retCell.cellOk, Nat.zero_le, lenB_is, byteI_is, InK_u8, List.getElem?_cons_zero, List.getElem?_cons_succ, Option.bind_some, List.reverse_cons, List.reverse_nil, List.nil_append, List.cons_append, List.length_cons, List.length_nil, Nat.reduceEqDiff, Nat.reduceAdd, Nat.reduceLT, Nat.reduceLeDiff, Nat.reduceMul, Nat.mul_one, Nat.one_mul, Nat.zero_mul, Nat.add_zero, Nat.zero_add, Nat.sub_zero, Nat.mod_one, Nat.not_lt_zero, List.getD_cons_zero, ↓reduceIte, if_true, if_false, eq_self, true_and, and_true, Bool.not_true, Bool.not_false, Bool.true_eq_false, Bool.false_eq_true, false_implies, forall_const, implies_true, Int.toNat_natCast, Int.toNat_zero, Int.toNat_one, Option.isSome_some]) | refine ev_guard rfl rfl rfl ?_ ?_ | ((with_reducible show retQ _ _ _ _); simp only [retQ, retOk, getL, lookup, Option.map_some, fitsL, fits, ND, srcs, Res.list, VE, List.getElem?_cons_zero, List.getElem?_cons_succ, Value.bool.injEq, Value.int.injEq, Nat.reduceEqDiff, ↓reduceIte, and_true, true_and]) | (with_reducible refine hK _ ?_; clear hK K) | (with_reducible refine And.intro ?_ ?_) | (with_reducible intro hc; try simp only [decide_eq_true_eq, decide_eq_false_iff_not, beq_iff_eq, beq_eq_false_iff_ne, bne_iff_ne, bne_eq_false_iff_eq, Bool.not_eq_true', Bool.not_eq_false', Bool.not_true, Bool.not_false, Int.not_lt, Int.not_le, gt_iff_lt, ge_iff_le, ne_eq, Decidable.not_not, reduceCtorEq, inB_true, inB_false, finB_true, finB_false, not_true_eq_false, eqB_refl, Bool.true_eq_false] at hc) | omega)
  · refine AWP.loop_entR [0, 1] (fun j : Nat => ⟨[(0, .one (.pv (terms l))), (1, sc (.int .i64 x)), (2, sc (.int .i64 y)), (3, sc (.int .i64 w)), (12, .one (.own 0 1 0 i)), (13, sc (.int .i64 (y + (h.toNat : Int) - 1 - (i : Int)))), (14, .one (.own 1 1 0 j)), (15, sc (.int .i64 (x + (j : Int))))], [some ⟨9, i, fun k => vs (stAt (poL l x y w.toNat h.toNat) k)⟩, some ⟨5, j, fun (q : Nat) => vu (letP l (x + (q : Int)) (y + (h.toNat : Int) - 1 - (i : Int)))⟩], 79⟩)
      (fun j => j ≤ w.toNat ∧ ∀ q, q < j → askP l (x + ((q : Nat) : Int)) (y + (h.toNat : Int) - 1 - (i : Int)) = true) (fun j => w.toNat - j) 0 ⟨by omega, by simp⟩ (by simp [EntR, EntSR, EntHR, SlR, VE, VE.rfl', lookup, BE, upd, sc]) ?_
    rintro j ⟨hj, hrow⟩
    repeat' (first | (with_reducible first | refine then_normal ?_ | refine then_ret ?_ | refine then_exit ?_ | refine block_normal ?_ | refine block_ret ?_) | ((with_reducible show blockQ _ _ _ _); first | refine block_exit ?_ | refine block_exit_ne rfl ?_) | ((with_reducible show AWP _ _ _ _ _); first | (with_reducible first | refine AWP.seq ?_ | refine AWP.block ?_ | refine AWP.region ?_ | refine AWP.ret ?_ | refine AWP.exit ?_ | refine AWP.skip ?_) | refine AWP.drawn rfl (by kernel_rfl) ?_ | refine AWP.cond rfl ?_ ?_) | with_reducible refine ev_nil ?_ | ((first | ((with_reducible show evOps _ _ _ _ _ _); (first | refine ev_step rfl ?_ | refine ev_undef rfl rfl rfl ?_); intro K hK) | ((with_reducible show EvOpen _ _ _ _ _ _ _); refine ev_open ?_; intro K hK) | ((with_reducible show SkOpen _ _ _ _ _ _ _); refine sk_open ?_; intro K hK) | ((with_reducible show callK _ _ _ _ _ _ _ _); first  | (refine call_scalar (letter_fn l _ _ hl) (Nat.le_of_ble_eq_true rfl) rfl ?_))); simp only [evOp, oldZ, evQ, evB, capsK, dynK, tabV, bytesK, eqStK, vInt, binK, withS, opd, kput, putS, upd, lookup, skipOp, argsK, loadOwn, bringIn, bring, Res.list, Res.slot, slotsOf, InK_i64, appendK, srcK, growK, storeK, frz, storeV, setBlk, makeK, newBlk, boxV, allocK, buildK, partsK, buildSliceK, plSlice, cutK, boundK, V.one, Value.oneCell', List.set_cons_zero, List.set_cons_succ, sz_ints, c_int, ei_ints, ea_ints, u_bool, bints, u_int, sz_strs, c_string, ei_strs, ea_strs, u_string, c_ints, sz_terms, ei_terms, ea_terms, c_term, fi0, fi1, fi2, z_term, pl_term, is_term, bs_bytes, ei_bytes, ea_bytes, sz_bytes, c_u8, u_u8, bstrs, brows, tf_0, tf_1, tf_2, tf_00, tf_01, tf_02, t3_0, t3_1, t3_2, bterms, retCell, retCell.cellOk, Nat.zero_le, lenB_is, byteI_is, InK_u8, List.getElem?_cons_zero, List.getElem?_cons_succ, Option.bind_some, List.reverse_cons, List.reverse_nil, List.nil_append, List.cons_append, List.length_cons, List.length_nil, Nat.reduceEqDiff, Nat.reduceAdd, Nat.reduceLT, Nat.reduceLeDiff, Nat.reduceMul, Nat.mul_one, Nat.one_mul, Nat.zero_mul, Nat.add_zero, Nat.zero_add, Nat.sub_zero, Nat.mod_one, Nat.not_lt_zero, List.getD_cons_zero, ↓reduceIte, if_true, if_false, eq_self, true_and, and_true, Bool.not_true, Bool.not_false, Bool.true_eq_false, Bool.false_eq_true, false_implies, forall_const, implies_true, Int.toNat_natCast, Int.toNat_zero, Int.toNat_one, Option.isSome_some]) | refine ev_guard rfl rfl rfl ?_ ?_ | ((with_reducible show retQ _ _ _ _); simp only [retQ, retOk, getL, lookup, Option.map_some, fitsL, fits, ND, srcs, Res.list, VE, List.getElem?_cons_zero, List.getElem?_cons_succ, Value.bool.injEq, Value.int.injEq, Nat.reduceEqDiff, ↓reduceIte, and_true, true_and]) | (with_reducible refine hK _ ?_; clear hK K) | (with_reducible refine And.intro ?_ ?_) | (with_reducible intro hc; try simp only [decide_eq_true_eq, decide_eq_false_iff_not, beq_iff_eq, beq_eq_false_iff_ne, bne_iff_ne, bne_eq_false_iff_eq, Bool.not_eq_true', Bool.not_eq_false', Bool.not_true, Bool.not_false, Int.not_lt, Int.not_le, gt_iff_lt, ge_iff_le, ne_eq, Decidable.not_not, reduceCtorEq, inB_true, inB_false, finB_true, finB_false, not_true_eq_false, eqB_refl, Bool.true_eq_false] at hc) | omega)
    all_goals first
      | (simp [poR_ask (l := l) (i := i) (j := j) (show i < h.toNat by omega) (show j < w.toNat by omega) (ltR_ask.symm.trans ‹(ltR l (x + (j : Int)) (y + (h.toNat : Int) - 1 - (i : Int))).2 = false›), bstrs]; done)
      | exact ⟨j + 1, ⟨by omega, upto_succ hrow (ltR_ask.symm.trans ‹(ltR l (x + (j : Int)) (y + (h.toNat : Int) - 1 - (i : Int))).2 = true›)⟩, by omega, [0, 3], rfl, by decide, by first | (simp [EntSR, SlR, VE, VE.rfl', lookup, sc]; done) | (simp [EntSR, SlR, VE, VE.rfl', lookup, sc]; omega), BE.rfl' _, grow_be (VE.of_eq (by rw [ltR_val (ltR_ask.symm.trans ‹(ltR l (x + (j : Int)) (y + (h.toNat : Int) - 1 - (i : Int))).2 = true›)])), trivial⟩
      | (obtain rfl : j = w.toNat := by omega
         refine ⟨i + 1, ⟨by omega, upto_succ hall (allN_true fun q hq => hrow q (by omega))⟩, by omega, [3], rfl, by decide, ?_, grow_strs2 ?_, trivial⟩
         · first
             | (simp [EntSR, SlR, VE, VE.rfl', lookup, sc]; done)
             | (simp [EntSR, SlR, VE, VE.rfl', lookup, sc]; omega)
         · rw [poL_get (by omega)]; rfl)
      | (rename_i q; obtain rfl : q = 0 := (by omega); rfl)
      | (intro q hq; rfl)
      | (show j ≤ 9223372036854775807; omega)
      | trace_state
  all_goals first
    | (exfalso; omega)
    | (obtain rfl : i = h.toNat := by omega
       have ha : aall l x y w.toNat h.toNat = true := allN_true fun k hk => hall k hk
       first
         | (simp [poR_yes hok ha]; done)
         | (rw [poR_yes hok ha]; exact ⟨_, rfl, rfl, by simp [bstrs], fun q hq => VE.of_eq rfl⟩))
    | trace_state

set_option maxHeartbeats 2000000 in
theorem specPictureOf_fn (l : List T3) (x y w h : Int) (hl : l.length ≤ 1099511627776) : Fn Tryd.prog 7 [terms l, vi x, vi y, vi w, vi h]
    (.many [.fr 1 (poR l x y w h).1.length (bstrs (poR l x y w h).1), .pv (vb (poR l x y w h).2)]) := by
  have hdr := drSize_fn w h
  by_cases hsz : (1 ≤ w ∧ w ≤ 16) ∧ (1 ≤ h ∧ h ≤ 16)
  case neg =>
    have e : (inB w 1 16 && inB h 1 16) = false := by
      cases e1 : inB w 1 16 with
      | false => rfl
      | true =>
        cases e2 : inB h 1 16 with
        | false => rfl
        | true => exact absurd ⟨inB_true.1 e1, inB_true.1 e2⟩ hsz
    rw [e] at hdr
    have hno : poR l x y w h = ([], false) := poR_no (pokB_no fun hh => hsz hh.2.2)
    rw [hno]
    refine Fn.of_body Tryd.call7 Tryd.func7 rfl Tryd.ntmps7 (ts := [10, 11]) rfl (by simp) rfl (fun N => ?_)
    repeat' (first | (with_reducible first | refine then_normal ?_ | refine then_ret ?_ | refine then_exit ?_ | refine block_normal ?_ | refine block_ret ?_) | ((with_reducible show blockQ _ _ _ _); first | refine block_exit ?_ | refine block_exit_ne rfl ?_) | ((with_reducible show AWP _ _ _ _ _); first | (with_reducible first | refine AWP.seq ?_ | refine AWP.block ?_ | refine AWP.region ?_ | refine AWP.ret ?_ | refine AWP.exit ?_ | refine AWP.skip ?_) | refine AWP.drawn rfl (by kernel_rfl) ?_ | refine AWP.cond rfl ?_ ?_) | with_reducible refine ev_nil ?_ | ((first | ((with_reducible show evOps _ _ _ _ _ _); (first | refine ev_step rfl ?_ | refine ev_undef rfl rfl rfl ?_); intro K hK) | ((with_reducible show EvOpen _ _ _ _ _ _ _); refine ev_open ?_; intro K hK) | ((with_reducible show SkOpen _ _ _ _ _ _ _); refine sk_open ?_; intro K hK) | ((with_reducible show callK _ _ _ _ _ _ _ _); first  | (refine call_scalar (plGood_fn l hl) (Nat.le_of_ble_eq_true rfl) rfl ?_) | (refine call_scalar (hdr) (Nat.le_of_ble_eq_true rfl) rfl ?_) | (refine call_scalar (l1In_fn _ _ _) (Nat.le_of_ble_eq_true rfl) rfl ?_))); simp only [evOp, oldZ, evQ, evB, capsK, dynK, tabV, bytesK, eqStK, vInt, binK, withS, opd, kput, putS, upd, lookup, skipOp, argsK, loadOwn, bringIn, bring, Res.list, Res.slot, slotsOf, InK_i64, appendK, srcK, growK, storeK, frz, storeV, setBlk, makeK, newBlk, boxV, allocK, buildK, partsK, buildSliceK, plSlice, cutK, boundK, V.one, Value.oneCell', List.set_cons_zero, List.set_cons_succ, sz_ints, c_int, ei_ints, ea_ints, u_bool, bints, u_int, sz_strs, c_string, ei_strs, ea_strs, u_string, c_ints, sz_terms, ei_terms, ea_terms, c_term, fi0, fi1, fi2, z_term, pl_term, is_term, bs_bytes, ei_bytes, ea_bytes, sz_bytes, c_u8, u_u8, bstrs, brows, tf_0, tf_1, tf_2, tf_00, tf_01, tf_02, t3_0, t3_1, t3_2, bterms, retCell, retCell.cellOk, Nat.zero_le, lenB_is, byteI_is, InK_u8, List.getElem?_cons_zero, List.getElem?_cons_succ, Option.bind_some, List.reverse_cons, List.reverse_nil, List.nil_append, List.cons_append, List.length_cons, List.length_nil, Nat.reduceEqDiff, Nat.reduceAdd, Nat.reduceLT, Nat.reduceLeDiff, Nat.reduceMul, Nat.mul_one, Nat.one_mul, Nat.zero_mul, Nat.add_zero, Nat.zero_add, Nat.sub_zero, Nat.mod_one, Nat.not_lt_zero, List.getD_cons_zero, ↓reduceIte, if_true, if_false, eq_self, true_and, and_true, Bool.not_true, Bool.not_false, Bool.true_eq_false, Bool.false_eq_true, false_implies, forall_const, implies_true, Int.toNat_natCast, Int.toNat_zero, Int.toNat_one, Option.isSome_some]) | refine ev_guard rfl rfl rfl ?_ ?_ | ((with_reducible show retQ _ _ _ _); simp only [retQ, retOk, getL, lookup, Option.map_some, fitsL, fits, ND, srcs, Res.list, VE, List.getElem?_cons_zero, List.getElem?_cons_succ, Value.bool.injEq, Value.int.injEq, Nat.reduceEqDiff, ↓reduceIte, and_true, true_and]) | (with_reducible refine hK _ ?_; clear hK K) | (with_reducible refine And.intro ?_ ?_) | (with_reducible intro hc; try simp only [decide_eq_true_eq, decide_eq_false_iff_not, beq_iff_eq, beq_eq_false_iff_ne, bne_iff_ne, bne_eq_false_iff_eq, Bool.not_eq_true', Bool.not_eq_false', Bool.not_true, Bool.not_false, Int.not_lt, Int.not_le, gt_iff_lt, ge_iff_le, ne_eq, Decidable.not_not, reduceCtorEq, inB_true, inB_false, finB_true, finB_false, not_true_eq_false, eqB_refl, Bool.true_eq_false] at hc) | omega)
    any_goals first
      | (simp [bstrs]; done)
      | (exfalso; simp_all; done)
  have e : (inB w 1 16 && inB h 1 16) = true := by rw [inB_true.2 hsz.1, inB_true.2 hsz.2]; rfl
  rw [e] at hdr
  have ew := hsz.1
  have eh := hsz.2
  refine Fn.of_body Tryd.call7 Tryd.func7 rfl Tryd.ntmps7 (ts := [10, 11]) rfl (by simp) rfl (fun N => ?_)
  repeat' (first | (with_reducible first | refine then_normal ?_ | refine then_ret ?_ | refine then_exit ?_ | refine block_normal ?_ | refine block_ret ?_) | ((with_reducible show blockQ _ _ _ _); first | refine block_exit ?_ | refine block_exit_ne rfl ?_) | ((with_reducible show AWP _ _ _ _ _); first | (with_reducible first | refine AWP.seq ?_ | refine AWP.block ?_ | refine AWP.region ?_ | refine AWP.ret ?_ | refine AWP.exit ?_ | refine AWP.skip ?_) | refine AWP.drawn rfl (by kernel_rfl) ?_ | refine AWP.cond rfl ?_ ?_) | with_reducible refine ev_nil ?_ | ((first | ((with_reducible show evOps _ _ _ _ _ _); (first | refine ev_step rfl ?_ | refine ev_undef rfl rfl rfl ?_); intro K hK) | ((with_reducible show EvOpen _ _ _ _ _ _ _); refine ev_open ?_; intro K hK) | ((with_reducible show SkOpen _ _ _ _ _ _ _); refine sk_open ?_; intro K hK) | ((with_reducible show callK _ _ _ _ _ _ _ _); first  | (refine call_scalar (plGood_fn l hl) (Nat.le_of_ble_eq_true rfl) rfl ?_) | (refine call_scalar (hdr) (Nat.le_of_ble_eq_true rfl) rfl ?_) | (refine call_scalar (l1In_fn _ _ _) (Nat.le_of_ble_eq_true rfl) rfl ?_))); simp only [evOp, oldZ, evQ, evB, capsK, dynK, tabV, bytesK, eqStK, vInt, binK, withS, opd, kput, putS, upd, lookup, skipOp, argsK, loadOwn, bringIn, bring, Res.list, Res.slot, slotsOf, InK_i64, appendK, srcK, growK, storeK, frz, storeV, setBlk, makeK, newBlk, boxV, allocK, buildK, partsK, buildSliceK, plSlice, cutK, boundK, V.one, Value.oneCell', List.set_cons_zero, List.set_cons_succ, sz_ints, c_int, ei_ints, ea_ints, u_bool, bints, u_int, sz_strs, c_string, ei_strs, ea_strs, u_string, c_ints, sz_terms, ei_terms, ea_terms, c_term, fi0, fi1, fi2, z_term, pl_term, is_term, bs_bytes, ei_bytes, ea_bytes, sz_bytes, c_u8, u_u8, bstrs, brows, tf_0, tf_1, tf_2, tf_00, tf_01, tf_02, t3_0, t3_1, t3_2, bterms, retCell, retCell.cellOk, Nat.zero_le, lenB_is, byteI_is, InK_u8, List.getElem?_cons_zero, List.getElem?_cons_succ, Option.bind_some, List.reverse_cons, List.reverse_nil, List.nil_append, List.cons_append, List.length_cons, List.length_nil, Nat.reduceEqDiff, Nat.reduceAdd, Nat.reduceLT, Nat.reduceLeDiff, Nat.reduceMul, Nat.mul_one, Nat.one_mul, Nat.zero_mul, Nat.add_zero, Nat.zero_add, Nat.sub_zero, Nat.mod_one, Nat.not_lt_zero, List.getD_cons_zero, ↓reduceIte, if_true, if_false, eq_self, true_and, and_true, Bool.not_true, Bool.not_false, Bool.true_eq_false, Bool.false_eq_true, false_implies, forall_const, implies_true, Int.toNat_natCast, Int.toNat_zero, Int.toNat_one, Option.isSome_some]) | refine ev_guard rfl rfl rfl ?_ ?_ | ((with_reducible show retQ _ _ _ _); simp only [retQ, retOk, getL, lookup, Option.map_some, fitsL, fits, ND, srcs, Res.list, VE, List.getElem?_cons_zero, List.getElem?_cons_succ, Value.bool.injEq, Value.int.injEq, Nat.reduceEqDiff, ↓reduceIte, and_true, true_and]) | (with_reducible refine hK _ ?_; clear hK K) | (with_reducible refine And.intro ?_ ?_) | (with_reducible intro hc; try simp only [decide_eq_true_eq, decide_eq_false_iff_not, beq_iff_eq, beq_eq_false_iff_ne, bne_iff_ne, bne_eq_false_iff_eq, Bool.not_eq_true', Bool.not_eq_false', Bool.not_true, Bool.not_false, Int.not_lt, Int.not_le, gt_iff_lt, ge_iff_le, ne_eq, Decidable.not_not, reduceCtorEq, inB_true, inB_false, finB_true, finB_false, not_true_eq_false, eqB_refl, Bool.true_eq_false] at hc) | omega)
  any_goals first
    | (simp [poR_no (pokB_noP (x := x) (y := y) (w := w) (h := h) ‹planeB l = false›), bstrs]; done)
    | (simp [poR_no (pokB_no (l := l) (x := x) (y := y) (w := w) (h := h) (by omega)), bstrs]; done)
    | (exfalso; simp_all; done)
  have hok : pokB l x y w h = true := pokB_yes ‹planeB l = true› ⟨by omega, by omega, by omega, by omega⟩
  refine AWP.virtual 12 9 1 rfl ?_
  refine AWP.loop_entR [0] (fun i : Nat => ⟨[(0, .one (.pv (terms l))), (1, sc (.int .i64 x)), (2, sc (.int .i64 y)), (3, sc (.int .i64 w)), (12, .one (.own 0 1 0 i)), (13, sc (.int .i64 (y + (h.toNat : Int) - 1 - (i : Int))))], [some ⟨9, i, fun k => vs (stAt (poL l x y w.toNat h.toNat) k)⟩], 68⟩)
    (fun i => i ≤ h.toNat ∧ ∀ k, k < i → arow l x (y + (h.toNat : Int) - 1 - (k : Int)) w.toNat = true) (fun i => h.toNat - i) 0 ⟨by omega, by simp⟩ (by simp [EntR, EntSR, EntHR, SlR, VE, VE.rfl', lookup, BE, upd, sc]; omega) ?_
  rintro i ⟨hi, hall⟩
  repeat' (first | (with_reducible first | refine then_normal ?_ | refine then_ret ?_ | refine then_exit ?_ | refine block_normal ?_ | refine block_ret ?_) | ((with_reducible show blockQ _ _ _ _); first | refine block_exit ?_ | refine block_exit_ne rfl ?_) | ((with_reducible show AWP _ _ _ _ _); first | (with_reducible first | refine AWP.seq ?_ | refine AWP.block ?_ | refine AWP.region ?_ | refine AWP.ret ?_ | refine AWP.exit ?_ | refine AWP.skip ?_) | refine AWP.drawn rfl (by kernel_rfl) ?_ | refine AWP.cond rfl ?_ ?_) | with_reducible refine ev_nil ?_ | ((first | ((with_reducible show evOps _ _ _ _ _ _); (first | refine ev_step rfl ?_ | refine ev_undef rfl rfl rfl ?_); intro K hK) | ((with_reducible show EvOpen _ _ _ _ _ _ _); refine ev_open ?_; intro K hK) | ((with_reducible show SkOpen _ _ _ _ _ _ _); refine sk_open ?_; intro K hK) | ((with_reducible show callK _ _ _ _ _ _ _ _); first | fail)); simp only [evOp, oldZ, evQ, evB, capsK, dynK, tabV, bytesK, eqStK, vInt, binK, withS, opd, kput, putS, upd, lookup, skipOp, argsK, loadOwn, bringIn, bring, Res.list, Res.slot, slotsOf, InK_i64, appendK, srcK, growK, storeK, frz, storeV, setBlk, makeK, newBlk, boxV, allocK, buildK, partsK, buildSliceK, plSlice, cutK, boundK, V.one, Value.oneCell', List.set_cons_zero, List.set_cons_succ, sz_ints, c_int, ei_ints, ea_ints, u_bool, bints, u_int, sz_strs, c_string, ei_strs, ea_strs, u_string, c_ints, sz_terms, ei_terms, ea_terms, c_term, fi0, fi1, fi2, z_term, pl_term, is_term, bs_bytes, ei_bytes, ea_bytes, sz_bytes, c_u8, u_u8, bstrs, brows, tf_0, tf_1, tf_2, tf_00, tf_01, tf_02, t3_0, t3_1, t3_2, bterms, retCell, retCell.cellOk, Nat.zero_le, lenB_is, byteI_is, InK_u8, List.getElem?_cons_zero, List.getElem?_cons_succ, Option.bind_some, List.reverse_cons, List.reverse_nil, List.nil_append, List.cons_append, List.length_cons, List.length_nil, Nat.reduceEqDiff, Nat.reduceAdd, Nat.reduceLT, Nat.reduceLeDiff, Nat.reduceMul, Nat.mul_one, Nat.one_mul, Nat.zero_mul, Nat.add_zero, Nat.zero_add, Nat.sub_zero, Nat.mod_one, Nat.not_lt_zero, List.getD_cons_zero, ↓reduceIte, if_true, if_false, eq_self, true_and, and_true, Bool.not_true, Bool.not_false, Bool.true_eq_false, Bool.false_eq_true, false_implies, forall_const, implies_true, Int.toNat_natCast, Int.toNat_zero, Int.toNat_one, Option.isSome_some]) | refine ev_guard rfl rfl rfl ?_ ?_ | ((with_reducible show retQ _ _ _ _); simp only [retQ, retOk, getL, lookup, Option.map_some, fitsL, fits, ND, srcs, Res.list, VE, List.getElem?_cons_zero, List.getElem?_cons_succ, Value.bool.injEq, Value.int.injEq, Nat.reduceEqDiff, ↓reduceIte, and_true, true_and]) | (with_reducible refine hK _ ?_; clear hK K) | (with_reducible refine And.intro ?_ ?_) | (with_reducible intro hc; try simp only [decide_eq_true_eq, decide_eq_false_iff_not, beq_iff_eq, beq_eq_false_iff_ne, bne_iff_ne, bne_eq_false_iff_eq, Bool.not_eq_true', Bool.not_eq_false', Bool.not_true, Bool.not_false, Int.not_lt, Int.not_le, gt_iff_lt, ge_iff_le, ne_eq, Decidable.not_not, reduceCtorEq, inB_true, inB_false, finB_true, finB_false, not_true_eq_false, eqB_refl, Bool.true_eq_false] at hc) | omega)
  · refine AWP.loop_ent (fun j : Nat => ⟨[(0, .one (.pv (terms l))), (1, sc (.int .i64 x)), (2, sc (.int .i64 y)), (3, sc (.int .i64 w)), (12, .one (.own 0 1 0 i)), (13, sc (.int .i64 (y + (h.toNat : Int) - 1 - (i : Int)))), (14, .one (.pv (vs (rowS l x (y + (h.toNat : Int) - 1 - (i : Int)) j)))), (15, sc (.int .i64 (x + (j : Int))))], [some ⟨9, i, fun k => vs (stAt (poL l x y w.toNat h.toNat) k)⟩], 68⟩)
      (fun j => j ≤ w.toNat ∧ ∀ q, q < j → askP l (x + ((q : Nat) : Int)) (y + (h.toNat : Int) - 1 - (i : Int)) = true) (fun j => w.toNat - j) 0 ⟨by omega, by simp⟩ (by simp [Ent, EntS, EntH, SlE, VE, VE.rfl', lookup, BE, rowS_zero]) ?_
    rintro j ⟨hj, hrow⟩
    repeat' (first | (with_reducible first | refine then_normal ?_ | refine then_ret ?_ | refine then_exit ?_ | refine block_normal ?_ | refine block_ret ?_) | ((with_reducible show blockQ _ _ _ _); first | refine block_exit ?_ | refine block_exit_ne rfl ?_) | ((with_reducible show AWP _ _ _ _ _); first | (with_reducible first | refine AWP.seq ?_ | refine AWP.block ?_ | refine AWP.region ?_ | refine AWP.ret ?_ | refine AWP.exit ?_ | refine AWP.skip ?_) | refine AWP.drawn rfl (by kernel_rfl) ?_ | refine AWP.cond rfl ?_ ?_) | with_reducible refine ev_nil ?_ | ((first | ((with_reducible show evOps _ _ _ _ _ _); (first | refine ev_step rfl ?_ | refine ev_undef rfl rfl rfl ?_); intro K hK) | ((with_reducible show EvOpen _ _ _ _ _ _ _); refine ev_open ?_; intro K hK) | ((with_reducible show SkOpen _ _ _ _ _ _ _); refine sk_open ?_; intro K hK) | ((with_reducible show callK _ _ _ _ _ _ _ _); first  | (refine call_scalar (plAsked_fn l _ _ hl) (Nat.le_of_ble_eq_true rfl) rfl ?_) | (refine call_scalar (drLetter_fn l _ _ (askP_good ‹askP l (x + (j : Int)) (y + (h.toNat : Int) - 1 - (i : Int)) = true›) hl) (Nat.le_of_ble_eq_true rfl) rfl ?_))); simp only [evOp, oldZ, evQ, evB, capsK, dynK, tabV, bytesK, eqStK, vInt, binK, withS, opd, kput, putS, upd, lookup, skipOp, argsK, loadOwn, bringIn, bring, Res.list, Res.slot, slotsOf, InK_i64, appendK, srcK, growK, storeK, frz, storeV, setBlk, makeK, newBlk, boxV, allocK, buildK, partsK, buildSliceK, plSlice, cutK, boundK, V.one, Value.oneCell', List.set_cons_zero, List.set_cons_succ, sz_ints, c_int, ei_ints, ea_ints, u_bool, bints, u_int, sz_strs, c_string, ei_strs, ea_strs, u_string, c_ints, sz_terms, ei_terms, ea_terms, c_term, fi0, fi1, fi2, z_term, pl_term, is_term, bs_bytes, ei_bytes, ea_bytes, sz_bytes, c_u8, u_u8, bstrs, brows, tf_0, tf_1, tf_2, tf_00, tf_01, tf_02, t3_0, t3_1, t3_2, bterms, retCell, retCell.cellOk, Nat.zero_le, lenB_is, byteI_is, InK_u8, List.getElem?_cons_zero, List.getElem?_cons_succ, Option.bind_some, List.reverse_cons, List.reverse_nil, List.nil_append, List.cons_append, List.length_cons, List.length_nil, Nat.reduceEqDiff, Nat.reduceAdd, Nat.reduceLT, Nat.reduceLeDiff, Nat.reduceMul, Nat.mul_one, Nat.one_mul, Nat.zero_mul, Nat.add_zero, Nat.zero_add, Nat.sub_zero, Nat.mod_one, Nat.not_lt_zero, List.getD_cons_zero, ↓reduceIte, if_true, if_false, eq_self, true_and, and_true, Bool.not_true, Bool.not_false, Bool.true_eq_false, Bool.false_eq_true, false_implies, forall_const, implies_true, Int.toNat_natCast, Int.toNat_zero, Int.toNat_one, Option.isSome_some]) | refine ev_guard rfl rfl rfl ?_ ?_ | ((with_reducible show retQ _ _ _ _); simp only [retQ, retOk, getL, lookup, Option.map_some, fitsL, fits, ND, srcs, Res.list, VE, List.getElem?_cons_zero, List.getElem?_cons_succ, Value.bool.injEq, Value.int.injEq, Nat.reduceEqDiff, ↓reduceIte, and_true, true_and]) | (with_reducible refine hK _ ?_; clear hK K) | (with_reducible refine And.intro ?_ ?_) | (with_reducible intro hc; try simp only [decide_eq_true_eq, decide_eq_false_iff_not, beq_iff_eq, beq_eq_false_iff_ne, bne_iff_ne, bne_eq_false_iff_eq, Bool.not_eq_true', Bool.not_eq_false', Bool.not_true, Bool.not_false, Int.not_lt, Int.not_le, gt_iff_lt, ge_iff_le, ne_eq, Decidable.not_not, reduceCtorEq, inB_true, inB_false, finB_true, finB_false, not_true_eq_false, eqB_refl, Bool.true_eq_false] at hc) | omega)
    all_goals first
      | (simp [poR_ask (l := l) (i := i) (j := j) (show i < h.toNat by omega) (show j < w.toNat by omega) ‹askP l (x + (j : Int)) (y + (h.toNat : Int) - 1 - (i : Int)) = false›, bstrs]; done)
      | (rw [rowS_size, letS_size]; omega)
      | exact ⟨j + 1, ⟨by omega, upto_succ hrow ‹askP l (x + (j : Int)) (y + (h.toNat : Int) - 1 - (i : Int)) = true›⟩, by omega, by first | (simp [Ent, EntS, EntH, SlE, VE, VE.rfl', lookup, BE, rowS_succ]; done) | (simp [Ent, EntS, EntH, SlE, VE, VE.rfl', lookup, BE, rowS_succ]; omega)⟩
      | (obtain rfl : j = w.toNat := by omega
         refine ⟨i + 1, ⟨by omega, upto_succ hall (allN_true fun q hq => hrow q (by omega))⟩, by omega, [2], rfl, by decide, ?_, grow_strs2 ?_, trivial⟩
         · first
             | (simp [EntSR, SlR, VE, VE.rfl', lookup, sc]; done)
             | (simp [EntSR, SlR, VE, VE.rfl', lookup, sc]; omega)
         · rw [poL_get (by omega)])
      | (rename_i q; obtain rfl : q = 0 := (by omega); rfl)
      | trace_state
  all_goals first
    | (exfalso; omega)
    | (obtain rfl : i = h.toNat := by omega
       have ha : aall l x y w.toNat h.toNat = true := allN_true fun k hk => hall k hk
       first
         | (simp [poR_yes hok ha]; done)
         | (rw [poR_yes hok ha]; exact ⟨_, rfl, rfl, by simp [bstrs], fun q hq => VE.of_eq rfl⟩))
    | trace_state

end Go.Proofs.YteapdildbfimnaaDoor
namespace Go.Proofs.YteapdildbfimnaaDoor
open Go.RowKit Go.Proofs
set_option linter.unusedSimpArgs false
set_option linter.unusedVariables false

/-- The first j bytes of a string in opposite order. -/
def revK (b : ByteArray) (j : Nat) : ByteArray := strOfNums ((List.range j).map fun i => byteI b (j - 1 - i))
theorem revK_zero (b : ByteArray) : revK b 0 = ByteArray.mk #[] := rfl
theorem revK_size (b : ByteArray) (j : Nat) : (revK b j).size = j := by unfold revK; rw [strOfNums_size]; simp
theorem cut_one {b : ByteArray} {j : Nat} (hj : j < lenB b) : ByteArray.mk (List.toArray (((bytesOf b).drop j).take (((j : Int) + 1).toNat - j))) = strOfNums [byteI b j] := by
  rw [show ((j : Int) + 1).toNat - j = 1 by omega]
  have hj' : j < (bytesOf b).length := hj
  have e : ((bytesOf b).drop j).take 1 = [(bytesOf b).getD j 0] := by
    rw [List.drop_eq_getElem_cons hj', List.take_succ_cons, List.take_zero]
    simp [List.getD, hj']
  rw [e]
  apply ByteArray.ext
  simp [strOfNums, byteI]
theorem revK_succ {b : ByteArray} {j : Nat} (hj : j < lenB b) : ByteArray.mk (List.toArray (((bytesOf b).drop j).take (((j : Int) + 1).toNat - j))) ++ revK b j = revK b (j + 1) := by
  rw [cut_one hj]
  unfold revK
  rw [← strOfNums_app, List.range_succ_eq_map, List.map_cons, List.map_map]
  congr 1
  show byteI b j :: _ = byteI b (j + 1 - 1 - 0) :: _
  congr 1
  apply List.map_congr_left
  intro i _
  show byteI b (j - 1 - i) = byteI b (j + 1 - 1 - (i + 1))
  congr 1; omega
theorem revK_succ' {b : ByteArray} {j : Nat} (hj : j < lenB b) : ByteArray.mk (List.toArray ((((bytesOf b).drop j).take 1))) ++ revK b j = revK b (j + 1) := by
  have h := revK_succ hj
  rwa [show ((j : Int) + 1).toNat - j = 1 by omega] at h
def mirL (l : List ByteArray) : List ByteArray := l.map fun b => revK b (lenB b)
@[simp] theorem mirL_len (l : List ByteArray) : (mirL l).length = l.length := by simp [mirL]
theorem mirL_get {l : List ByteArray} {i : Nat} (hi : i < l.length) : stAt (mirL l) i = revK (stAt l i) (lenB (stAt l i)) := by simp [stAt, mirL, List.getD, hi]
def mirR (l : List ByteArray) : List ByteArray × Bool := if picB l then (mirL l, true) else ([], false)
theorem mirR_no {l : List ByteArray} (hn : picB l = false) : mirR l = ([], false) := by unfold mirR; rw [hn]; rfl
theorem mirR_yes {l : List ByteArray} (hn : picB l = true) : mirR l = (mirL l, true) := by unfold mirR; rw [hn]; rfl

set_option maxHeartbeats 2000000 in
set_option maxRecDepth 20000 in
theorem implMirrorPicture_fn (l : List ByteArray) (hl : l.length ≤ 1099511627776) (hs : ∀ i, lenB (stAt l i) ≤ 1099511627776) : Fn Tryd.prog 14 [strs l]
    (.many [.fr 1 (mirR l).1.length (bstrs (mirR l).1), .pv (vb (mirR l).2)]) := by
  refine Fn.of_body Tryd.call14 Tryd.func14 rfl Tryd.ntmps14 (ts := [2, 3]) rfl (by simp) rfl (fun N => ?_)
  by_cases hp : picB l = true
  · have hpp := picB_parts hp
    rw [mirR_yes hp]
    repeat' (first | (with_reducible first | refine then_normal ?_ | refine then_ret ?_ | refine then_exit ?_ | refine block_normal ?_ | refine block_ret ?_) | ((with_reducible show blockQ _ _ _ _); first | refine block_exit ?_ | refine block_exit_ne rfl ?_) | ((with_reducible show AWP _ _ _ _ _); first | (with_reducible first | refine AWP.seq ?_ | refine AWP.block ?_ | refine AWP.region ?_ | refine AWP.ret ?_ | refine AWP.exit ?_ | refine AWP.skip ?_) | refine AWP.drawn rfl (by kernel_rfl) ?_ | refine AWP.cond rfl ?_ ?_) | with_reducible refine ev_nil ?_ | ((first | ((with_reducible show evOps _ _ _ _ _ _); (first | refine ev_step rfl ?_ | refine ev_undef rfl rfl rfl ?_); intro K hK) | ((with_reducible show EvOpen _ _ _ _ _ _ _); refine ev_open ?_; intro K hK) | ((with_reducible show SkOpen _ _ _ _ _ _ _); refine sk_open ?_; intro K hK) | ((with_reducible show callK _ _ _ _ _ _ _ _); first  | (refine call_scalar (isPicture_fn l hl) (Nat.le_of_ble_eq_true rfl) rfl ?_))); simp only [evOp, oldZ, evQ, evB, capsK, dynK, tabV, bytesK, eqStK, vInt, binK, withS, opd, kput, putS, upd, lookup, skipOp, argsK, loadOwn, bringIn, bring, Res.list, Res.slot, slotsOf, InK_i64, appendK, srcK, growK, storeK, frz, storeV, setBlk, makeK, newBlk, boxV, allocK, buildK, partsK, buildSliceK, plSlice, cutK, boundK, V.one, Value.oneCell', List.set_cons_zero, List.set_cons_succ, sz_ints, c_int, ei_ints, ea_ints, u_bool, bints, u_int, sz_strs, c_string, ei_strs, ea_strs, u_string, c_ints, sz_terms, ei_terms, ea_terms, c_term, fi0, fi1, fi2, z_term, pl_term, is_term, bs_bytes, ei_bytes, ea_bytes, sz_bytes, c_u8, u_u8, bstrs, brows, tf_0, tf_1, tf_2, tf_00, tf_01, tf_02, t3_0, t3_1, t3_2, bterms, retCell, retCell.cellOk, Nat.zero_le, lenB_is, byteI_is, InK_u8, del, List.getElem?_cons_zero, List.getElem?_cons_succ, Option.bind_some, List.reverse_cons, List.reverse_nil, List.nil_append, List.cons_append, List.length_cons, List.length_nil, Nat.reduceEqDiff, Nat.reduceAdd, Nat.reduceLT, Nat.reduceLeDiff, Nat.reduceMul, Nat.mul_one, Nat.one_mul, Nat.zero_mul, Nat.add_zero, Nat.zero_add, Nat.sub_zero, Nat.mod_one, Nat.not_lt_zero, List.getD_cons_zero, ↓reduceIte, if_true, if_false, eq_self, true_and, and_true, Bool.not_true, Bool.not_false, Bool.true_eq_false, Bool.false_eq_true, false_implies, forall_const, implies_true, Int.toNat_natCast, Int.toNat_zero, Int.toNat_one, Option.isSome_some]) | refine ev_guard rfl rfl rfl ?_ ?_ | ((with_reducible show retQ _ _ _ _); simp only [retQ, retOk, getL, lookup, Option.map_some, fitsL, fits, ND, srcs, Res.list, VE, List.getElem?_cons_zero, List.getElem?_cons_succ, Value.bool.injEq, Value.int.injEq, Nat.reduceEqDiff, ↓reduceIte, and_true, true_and]) | (with_reducible refine hK _ ?_; clear hK K) | (with_reducible refine And.intro ?_ ?_) | (with_reducible intro hc; try simp only [decide_eq_true_eq, decide_eq_false_iff_not, beq_iff_eq, beq_eq_false_iff_ne, bne_iff_ne, bne_eq_false_iff_eq, Bool.not_eq_true', Bool.not_eq_false', Bool.not_true, Bool.not_false, Int.not_lt, Int.not_le, gt_iff_lt, ge_iff_le, ne_eq, Decidable.not_not, reduceCtorEq, inB_true, inB_false, finB_true, finB_false, not_true_eq_false, eqB_refl, Bool.true_eq_false] at hc) | omega)
    any_goals first
      | (exfalso; simp_all; done)
    refine AWP.loop_entR [0] (fun k : Nat => ⟨[(4, .one (.own 0 1 0 k)), (12, .one (.pv (strs l))), (13, sc (.int .i64 (l.length : Int))), (14, sc (.int .i64 k))], [some ⟨9, k, fun i => vs (stAt (mirL l) i)⟩], 29⟩)
      (fun k => k ≤ l.length) (fun k => l.length - k) 0 (by omega) (by simp [EntR, EntSR, EntHR, SlR, VE, VE.rfl', lookup, BE, upd, sc]) ?_
    intro k hk
    have hszk : (stAt l k).size ≤ 9223372036854775807 := by have := hs k; rw [lenB_size] at this; omega
    repeat' (first | (with_reducible show seqStrK _ _ _ _ _ _ _ ; refine seqStr_go rfl (Nat.le_of_ble_eq_true rfl) rfl rfl (fun _ _ => rfl) ?_ ; simp only [evOp, oldZ, evQ, evB, capsK, dynK, tabV, bytesK, eqStK, vInt, binK, withS, opd, kput, putS, upd, lookup, skipOp, argsK, loadOwn, bringIn, bring, Res.list, Res.slot, slotsOf, InK_i64, appendK, srcK, growK, storeK, frz, storeV, setBlk, makeK, newBlk, boxV, allocK, buildK, partsK, buildSliceK, plSlice, cutK, boundK, V.one, Value.oneCell', List.set_cons_zero, List.set_cons_succ, sz_ints, c_int, ei_ints, ea_ints, u_bool, bints, u_int, sz_strs, c_string, ei_strs, ea_strs, u_string, c_ints, sz_terms, ei_terms, ea_terms, c_term, fi0, fi1, fi2, z_term, pl_term, is_term, bs_bytes, ei_bytes, ea_bytes, sz_bytes, c_u8, u_u8, bstrs, brows, tf_0, tf_1, tf_2, tf_00, tf_01, tf_02, t3_0, t3_1, t3_2, bterms, retCell, retCell.cellOk, Nat.zero_le, lenB_is, byteI_is, InK_u8, del, List.getElem?_cons_zero, List.getElem?_cons_succ, Option.bind_some, List.reverse_cons, List.reverse_nil, List.nil_append, List.cons_append, List.length_cons, List.length_nil, Nat.reduceEqDiff, Nat.reduceAdd, Nat.reduceLT, Nat.reduceLeDiff, Nat.reduceMul, Nat.mul_one, Nat.one_mul, Nat.zero_mul, Nat.add_zero, Nat.zero_add, Nat.sub_zero, Nat.mod_one, Nat.not_lt_zero, List.getD_cons_zero, ↓reduceIte, if_true, if_false, eq_self, true_and, and_true, Bool.not_true, Bool.not_false, Bool.true_eq_false, Bool.false_eq_true, false_implies, forall_const, implies_true, Int.toNat_natCast, Int.toNat_zero, Int.toNat_one, Option.isSome_some]) | (with_reducible first | refine then_normal ?_ | refine then_ret ?_ | refine then_exit ?_ | refine block_normal ?_ | refine block_ret ?_) | ((with_reducible show blockQ _ _ _ _); first | refine block_exit ?_ | refine block_exit_ne rfl ?_) | ((with_reducible show AWP _ _ _ _ _); first | (refine AWP.mirror (b := stAt l k) rfl hszk (Nat.le_of_ble_eq_true rfl) (Nat.le_of_ble_eq_true rfl) (Nat.le_of_ble_eq_true rfl) (Nat.le_of_ble_eq_true rfl) (by decide) (by decide) ?_ ; simp only [evOp, oldZ, evQ, evB, capsK, dynK, tabV, bytesK, eqStK, vInt, binK, withS, opd, kput, putS, upd, lookup, skipOp, argsK, loadOwn, bringIn, bring, Res.list, Res.slot, slotsOf, InK_i64, appendK, srcK, growK, storeK, frz, storeV, setBlk, makeK, newBlk, boxV, allocK, buildK, partsK, buildSliceK, plSlice, cutK, boundK, V.one, Value.oneCell', List.set_cons_zero, List.set_cons_succ, sz_ints, c_int, ei_ints, ea_ints, u_bool, bints, u_int, sz_strs, c_string, ei_strs, ea_strs, u_string, c_ints, sz_terms, ei_terms, ea_terms, c_term, fi0, fi1, fi2, z_term, pl_term, is_term, bs_bytes, ei_bytes, ea_bytes, sz_bytes, c_u8, u_u8, bstrs, brows, tf_0, tf_1, tf_2, tf_00, tf_01, tf_02, t3_0, t3_1, t3_2, bterms, retCell, retCell.cellOk, Nat.zero_le, lenB_is, byteI_is, InK_u8, del, List.getElem?_cons_zero, List.getElem?_cons_succ, Option.bind_some, List.reverse_cons, List.reverse_nil, List.nil_append, List.cons_append, List.length_cons, List.length_nil, Nat.reduceEqDiff, Nat.reduceAdd, Nat.reduceLT, Nat.reduceLeDiff, Nat.reduceMul, Nat.mul_one, Nat.one_mul, Nat.zero_mul, Nat.add_zero, Nat.zero_add, Nat.sub_zero, Nat.mod_one, Nat.not_lt_zero, List.getD_cons_zero, ↓reduceIte, if_true, if_false, eq_self, true_and, and_true, Bool.not_true, Bool.not_false, Bool.true_eq_false, Bool.false_eq_true, false_implies, forall_const, implies_true, Int.toNat_natCast, Int.toNat_zero, Int.toNat_one, Option.isSome_some]) | (refine AWP.region_seqStr ?_) | (with_reducible first | refine AWP.seq ?_ | refine AWP.block ?_ | refine AWP.region ?_ | refine AWP.ret ?_ | refine AWP.exit ?_ | refine AWP.skip ?_) | refine AWP.drawn rfl (by kernel_rfl) ?_ | refine AWP.cond rfl ?_ ?_) | with_reducible refine ev_nil ?_ | ((first | ((with_reducible show evOps _ _ _ _ _ _); (first | refine ev_step rfl ?_ | refine ev_undef rfl rfl rfl ?_); intro K hK) | ((with_reducible show EvOpen _ _ _ _ _ _ _); refine ev_open ?_; intro K hK) | ((with_reducible show SkOpen _ _ _ _ _ _ _); refine sk_open ?_; intro K hK) | ((with_reducible show callK _ _ _ _ _ _ _ _); first  | fail)); simp only [evOp, oldZ, evQ, evB, capsK, dynK, tabV, bytesK, eqStK, vInt, binK, withS, opd, kput, putS, upd, lookup, skipOp, argsK, loadOwn, bringIn, bring, Res.list, Res.slot, slotsOf, InK_i64, appendK, srcK, growK, storeK, frz, storeV, setBlk, makeK, newBlk, boxV, allocK, buildK, partsK, buildSliceK, plSlice, cutK, boundK, V.one, Value.oneCell', List.set_cons_zero, List.set_cons_succ, sz_ints, c_int, ei_ints, ea_ints, u_bool, bints, u_int, sz_strs, c_string, ei_strs, ea_strs, u_string, c_ints, sz_terms, ei_terms, ea_terms, c_term, fi0, fi1, fi2, z_term, pl_term, is_term, bs_bytes, ei_bytes, ea_bytes, sz_bytes, c_u8, u_u8, bstrs, brows, tf_0, tf_1, tf_2, tf_00, tf_01, tf_02, t3_0, t3_1, t3_2, bterms, retCell, retCell.cellOk, Nat.zero_le, lenB_is, byteI_is, InK_u8, del, List.getElem?_cons_zero, List.getElem?_cons_succ, Option.bind_some, List.reverse_cons, List.reverse_nil, List.nil_append, List.cons_append, List.length_cons, List.length_nil, Nat.reduceEqDiff, Nat.reduceAdd, Nat.reduceLT, Nat.reduceLeDiff, Nat.reduceMul, Nat.mul_one, Nat.one_mul, Nat.zero_mul, Nat.add_zero, Nat.zero_add, Nat.sub_zero, Nat.mod_one, Nat.not_lt_zero, List.getD_cons_zero, ↓reduceIte, if_true, if_false, eq_self, true_and, and_true, Bool.not_true, Bool.not_false, Bool.true_eq_false, Bool.false_eq_true, false_implies, forall_const, implies_true, Int.toNat_natCast, Int.toNat_zero, Int.toNat_one, Option.isSome_some]) | refine ev_guard rfl rfl rfl ?_ ?_ | ((with_reducible show retQ _ _ _ _); simp only [retQ, retOk, getL, lookup, Option.map_some, fitsL, fits, ND, srcs, Res.list, VE, List.getElem?_cons_zero, List.getElem?_cons_succ, Value.bool.injEq, Value.int.injEq, Nat.reduceEqDiff, ↓reduceIte, and_true, true_and]) | (with_reducible refine hK _ ?_; clear hK K) | (with_reducible refine And.intro ?_ ?_) | (with_reducible intro hc; try simp only [decide_eq_true_eq, decide_eq_false_iff_not, beq_iff_eq, beq_eq_false_iff_ne, bne_iff_ne, bne_eq_false_iff_eq, Bool.not_eq_true', Bool.not_eq_false', Bool.not_true, Bool.not_false, Int.not_lt, Int.not_le, gt_iff_lt, ge_iff_le, ne_eq, Decidable.not_not, reduceCtorEq, inB_true, inB_false, finB_true, finB_false, not_true_eq_false, eqB_refl, Bool.true_eq_false] at hc) | omega)
    all_goals first
      | (exfalso; omega)
      | (rename_i q; obtain rfl : q = 0 := (by omega); rfl)
      | (refine ⟨k + 1, by omega, by omega, [2], rfl, by decide, by simp [EntSR, SlR, VE, VE.rfl', lookup, sc], grow_strs2 ?_, trivial⟩
         rw [mirL_get (by omega)]; rfl)
      | (obtain rfl : k = l.length := by omega
         refine ⟨_, rfl, rfl, by simp [bstrs], fun i hi => VE.of_eq rfl⟩)
      | (simp; done)
      | (simp; omega)
      | trace_state
  · have hp' : picB l = false := by simpa using hp
    rw [mirR_no hp']
    repeat' (first | (with_reducible first | refine then_normal ?_ | refine then_ret ?_ | refine then_exit ?_ | refine block_normal ?_ | refine block_ret ?_) | ((with_reducible show blockQ _ _ _ _); first | refine block_exit ?_ | refine block_exit_ne rfl ?_) | ((with_reducible show AWP _ _ _ _ _); first | (with_reducible first | refine AWP.seq ?_ | refine AWP.block ?_ | refine AWP.region ?_ | refine AWP.ret ?_ | refine AWP.exit ?_ | refine AWP.skip ?_) | refine AWP.drawn rfl (by kernel_rfl) ?_ | refine AWP.cond rfl ?_ ?_) | with_reducible refine ev_nil ?_ | ((first | ((with_reducible show evOps _ _ _ _ _ _); (first | refine ev_step rfl ?_ | refine ev_undef rfl rfl rfl ?_); intro K hK) | ((with_reducible show EvOpen _ _ _ _ _ _ _); refine ev_open ?_; intro K hK) | ((with_reducible show SkOpen _ _ _ _ _ _ _); refine sk_open ?_; intro K hK) | ((with_reducible show callK _ _ _ _ _ _ _ _); first  | (refine call_scalar (isPicture_fn l hl) (Nat.le_of_ble_eq_true rfl) rfl ?_))); simp only [evOp, oldZ, evQ, evB, capsK, dynK, tabV, bytesK, eqStK, vInt, binK, withS, opd, kput, putS, upd, lookup, skipOp, argsK, loadOwn, bringIn, bring, Res.list, Res.slot, slotsOf, InK_i64, appendK, srcK, growK, storeK, frz, storeV, setBlk, makeK, newBlk, boxV, allocK, buildK, partsK, buildSliceK, plSlice, cutK, boundK, V.one, Value.oneCell', List.set_cons_zero, List.set_cons_succ, sz_ints, c_int, ei_ints, ea_ints, u_bool, bints, u_int, sz_strs, c_string, ei_strs, ea_strs, u_string, c_ints, sz_terms, ei_terms, ea_terms, c_term, fi0, fi1, fi2, z_term, pl_term, is_term, bs_bytes, ei_bytes, ea_bytes, sz_bytes, c_u8, u_u8, bstrs, brows, tf_0, tf_1, tf_2, tf_00, tf_01, tf_02, t3_0, t3_1, t3_2, bterms, retCell, retCell.cellOk, Nat.zero_le, lenB_is, byteI_is, InK_u8, del, List.getElem?_cons_zero, List.getElem?_cons_succ, Option.bind_some, List.reverse_cons, List.reverse_nil, List.nil_append, List.cons_append, List.length_cons, List.length_nil, Nat.reduceEqDiff, Nat.reduceAdd, Nat.reduceLT, Nat.reduceLeDiff, Nat.reduceMul, Nat.mul_one, Nat.one_mul, Nat.zero_mul, Nat.add_zero, Nat.zero_add, Nat.sub_zero, Nat.mod_one, Nat.not_lt_zero, List.getD_cons_zero, ↓reduceIte, if_true, if_false, eq_self, true_and, and_true, Bool.not_true, Bool.not_false, Bool.true_eq_false, Bool.false_eq_true, false_implies, forall_const, implies_true, Int.toNat_natCast, Int.toNat_zero, Int.toNat_one, Option.isSome_some]) | refine ev_guard rfl rfl rfl ?_ ?_ | ((with_reducible show retQ _ _ _ _); simp only [retQ, retOk, getL, lookup, Option.map_some, fitsL, fits, ND, srcs, Res.list, VE, List.getElem?_cons_zero, List.getElem?_cons_succ, Value.bool.injEq, Value.int.injEq, Nat.reduceEqDiff, ↓reduceIte, and_true, true_and]) | (with_reducible refine hK _ ?_; clear hK K) | (with_reducible refine And.intro ?_ ?_) | (with_reducible intro hc; try simp only [decide_eq_true_eq, decide_eq_false_iff_not, beq_iff_eq, beq_eq_false_iff_ne, bne_iff_ne, bne_eq_false_iff_eq, Bool.not_eq_true', Bool.not_eq_false', Bool.not_true, Bool.not_false, Int.not_lt, Int.not_le, gt_iff_lt, ge_iff_le, ne_eq, Decidable.not_not, reduceCtorEq, inB_true, inB_false, finB_true, finB_false, not_true_eq_false, eqB_refl, Bool.true_eq_false] at hc) | omega)
    all_goals first
      | (exfalso; simp_all; done)
      | (simp [bstrs]; done)
      | trace_state

set_option maxHeartbeats 2000000 in
set_option maxRecDepth 20000 in
theorem specMirrorPicture_fn (l : List ByteArray) (hl : l.length ≤ 1099511627776) (hs : ∀ i, lenB (stAt l i) ≤ 1099511627776) : Fn Tryd.prog 15 [strs l]
    (.many [.fr 1 (mirR l).1.length (bstrs (mirR l).1), .pv (vb (mirR l).2)]) := by
  refine Fn.of_body Tryd.call15 Tryd.func15 rfl Tryd.ntmps15 (ts := [2, 3]) rfl (by simp) rfl (fun N => ?_)
  by_cases hp : picB l = true
  · have hpp := picB_parts hp
    rw [mirR_yes hp]
    repeat' (first | (with_reducible first | refine then_normal ?_ | refine then_ret ?_ | refine then_exit ?_ | refine block_normal ?_ | refine block_ret ?_) | ((with_reducible show blockQ _ _ _ _); first | refine block_exit ?_ | refine block_exit_ne rfl ?_) | ((with_reducible show AWP _ _ _ _ _); first | (with_reducible first | refine AWP.seq ?_ | refine AWP.block ?_ | refine AWP.region ?_ | refine AWP.ret ?_ | refine AWP.exit ?_ | refine AWP.skip ?_) | refine AWP.drawn rfl (by kernel_rfl) ?_ | refine AWP.cond rfl ?_ ?_) | with_reducible refine ev_nil ?_ | ((first | ((with_reducible show evOps _ _ _ _ _ _); (first | refine ev_step rfl ?_ | refine ev_undef rfl rfl rfl ?_); intro K hK) | ((with_reducible show EvOpen _ _ _ _ _ _ _); refine ev_open ?_; intro K hK) | ((with_reducible show SkOpen _ _ _ _ _ _ _); refine sk_open ?_; intro K hK) | ((with_reducible show callK _ _ _ _ _ _ _ _); first  | (refine call_scalar (drGood_fn l hl hs) (Nat.le_of_ble_eq_true rfl) rfl ?_))); simp only [evOp, oldZ, evQ, evB, capsK, dynK, tabV, bytesK, eqStK, vInt, binK, withS, opd, kput, putS, upd, lookup, skipOp, argsK, loadOwn, bringIn, bring, Res.list, Res.slot, slotsOf, InK_i64, appendK, srcK, growK, storeK, frz, storeV, setBlk, makeK, newBlk, boxV, allocK, buildK, partsK, buildSliceK, plSlice, cutK, boundK, V.one, Value.oneCell', List.set_cons_zero, List.set_cons_succ, sz_ints, c_int, ei_ints, ea_ints, u_bool, bints, u_int, sz_strs, c_string, ei_strs, ea_strs, u_string, c_ints, sz_terms, ei_terms, ea_terms, c_term, fi0, fi1, fi2, z_term, pl_term, is_term, bs_bytes, ei_bytes, ea_bytes, sz_bytes, c_u8, u_u8, bstrs, brows, tf_0, tf_1, tf_2, tf_00, tf_01, tf_02, t3_0, t3_1, t3_2, bterms, retCell, retCell.cellOk, Nat.zero_le, lenB_is, byteI_is, InK_u8, del, List.getElem?_cons_zero, List.getElem?_cons_succ, Option.bind_some, List.reverse_cons, List.reverse_nil, List.nil_append, List.cons_append, List.length_cons, List.length_nil, Nat.reduceEqDiff, Nat.reduceAdd, Nat.reduceLT, Nat.reduceLeDiff, Nat.reduceMul, Nat.mul_one, Nat.one_mul, Nat.zero_mul, Nat.add_zero, Nat.zero_add, Nat.sub_zero, Nat.mod_one, Nat.not_lt_zero, List.getD_cons_zero, ↓reduceIte, if_true, if_false, eq_self, true_and, and_true, Bool.not_true, Bool.not_false, Bool.true_eq_false, Bool.false_eq_true, false_implies, forall_const, implies_true, Int.toNat_natCast, Int.toNat_zero, Int.toNat_one, Option.isSome_some]) | refine ev_guard rfl rfl rfl ?_ ?_ | ((with_reducible show retQ _ _ _ _); simp only [retQ, retOk, getL, lookup, Option.map_some, fitsL, fits, ND, srcs, Res.list, VE, List.getElem?_cons_zero, List.getElem?_cons_succ, Value.bool.injEq, Value.int.injEq, Nat.reduceEqDiff, ↓reduceIte, and_true, true_and]) | (with_reducible refine hK _ ?_; clear hK K) | (with_reducible refine And.intro ?_ ?_) | (with_reducible intro hc; try simp only [decide_eq_true_eq, decide_eq_false_iff_not, beq_iff_eq, beq_eq_false_iff_ne, bne_iff_ne, bne_eq_false_iff_eq, Bool.not_eq_true', Bool.not_eq_false', Bool.not_true, Bool.not_false, Int.not_lt, Int.not_le, gt_iff_lt, ge_iff_le, ne_eq, Decidable.not_not, reduceCtorEq, inB_true, inB_false, finB_true, finB_false, not_true_eq_false, eqB_refl, Bool.true_eq_false] at hc) | omega)
    any_goals first
      | (exfalso; simp_all; done)
    refine AWP.virtual 4 9 1 rfl ?_
    refine AWP.loop_entR [0] (fun k : Nat => ⟨[(4, .one (.own 0 1 0 k)), (12, .one (.pv (strs l))), (13, sc (.int .i64 (l.length : Int))), (14, sc (.int .i64 k))], [some ⟨9, k, fun i => vs (stAt (mirL l) i)⟩], 37⟩)
      (fun k => k ≤ l.length) (fun k => l.length - k) 0 (by omega) (by simp [EntR, EntSR, EntHR, SlR, VE, VE.rfl', lookup, BE, upd, sc]) ?_
    intro k hk
    have hsk : lenB (stAt l k) ≤ 1099511627776 := hs k
    repeat' (first | (with_reducible first | refine then_normal ?_ | refine then_ret ?_ | refine then_exit ?_ | refine block_normal ?_ | refine block_ret ?_) | ((with_reducible show blockQ _ _ _ _); first | refine block_exit ?_ | refine block_exit_ne rfl ?_) | ((with_reducible show AWP _ _ _ _ _); first | (with_reducible first | refine AWP.seq ?_ | refine AWP.block ?_ | refine AWP.region ?_ | refine AWP.ret ?_ | refine AWP.exit ?_ | refine AWP.skip ?_) | refine AWP.drawn rfl (by kernel_rfl) ?_ | refine AWP.cond rfl ?_ ?_) | with_reducible refine ev_nil ?_ | ((first | ((with_reducible show evOps _ _ _ _ _ _); (first | refine ev_step rfl ?_ | refine ev_undef rfl rfl rfl ?_); intro K hK) | ((with_reducible show EvOpen _ _ _ _ _ _ _); refine ev_open ?_; intro K hK) | ((with_reducible show SkOpen _ _ _ _ _ _ _); refine sk_open ?_; intro K hK) | ((with_reducible show callK _ _ _ _ _ _ _ _); first | fail)); simp only [evOp, oldZ, evQ, evB, capsK, dynK, tabV, bytesK, eqStK, vInt, binK, withS, opd, kput, putS, upd, lookup, skipOp, argsK, loadOwn, bringIn, bring, Res.list, Res.slot, slotsOf, InK_i64, appendK, srcK, growK, storeK, frz, storeV, setBlk, makeK, newBlk, boxV, allocK, buildK, partsK, buildSliceK, plSlice, cutK, boundK, V.one, Value.oneCell', List.set_cons_zero, List.set_cons_succ, sz_ints, c_int, ei_ints, ea_ints, u_bool, bints, u_int, sz_strs, c_string, ei_strs, ea_strs, u_string, c_ints, sz_terms, ei_terms, ea_terms, c_term, fi0, fi1, fi2, z_term, pl_term, is_term, bs_bytes, ei_bytes, ea_bytes, sz_bytes, c_u8, u_u8, bstrs, brows, tf_0, tf_1, tf_2, tf_00, tf_01, tf_02, t3_0, t3_1, t3_2, bterms, retCell, retCell.cellOk, Nat.zero_le, lenB_is, byteI_is, InK_u8, del, List.getElem?_cons_zero, List.getElem?_cons_succ, Option.bind_some, List.reverse_cons, List.reverse_nil, List.nil_append, List.cons_append, List.length_cons, List.length_nil, Nat.reduceEqDiff, Nat.reduceAdd, Nat.reduceLT, Nat.reduceLeDiff, Nat.reduceMul, Nat.mul_one, Nat.one_mul, Nat.zero_mul, Nat.add_zero, Nat.zero_add, Nat.sub_zero, Nat.mod_one, Nat.not_lt_zero, List.getD_cons_zero, ↓reduceIte, if_true, if_false, eq_self, true_and, and_true, Bool.not_true, Bool.not_false, Bool.true_eq_false, Bool.false_eq_true, false_implies, forall_const, implies_true, Int.toNat_natCast, Int.toNat_zero, Int.toNat_one, Option.isSome_some]) | refine ev_guard rfl rfl rfl ?_ ?_ | ((with_reducible show retQ _ _ _ _); simp only [retQ, retOk, getL, lookup, Option.map_some, fitsL, fits, ND, srcs, Res.list, VE, List.getElem?_cons_zero, List.getElem?_cons_succ, Value.bool.injEq, Value.int.injEq, Nat.reduceEqDiff, ↓reduceIte, and_true, true_and]) | (with_reducible refine hK _ ?_; clear hK K) | (with_reducible refine And.intro ?_ ?_) | (with_reducible intro hc; try simp only [decide_eq_true_eq, decide_eq_false_iff_not, beq_iff_eq, beq_eq_false_iff_ne, bne_iff_ne, bne_eq_false_iff_eq, Bool.not_eq_true', Bool.not_eq_false', Bool.not_true, Bool.not_false, Int.not_lt, Int.not_le, gt_iff_lt, ge_iff_le, ne_eq, Decidable.not_not, reduceCtorEq, inB_true, inB_false, finB_true, finB_false, not_true_eq_false, eqB_refl, Bool.true_eq_false] at hc) | omega)
    · have hget := mirL_get (l := l) (i := k) (by omega)
      generalize stAt l k = b at *
      refine AWP.loop_ent (fun j : Nat => ⟨[(4, .one (.own 0 1 0 k)), (12, .one (.pv (strs l))), (13, sc (.int .i64 (l.length : Int))), (14, sc (.int .i64 k)), (6, .one (.pv (vs b))), (7, .one (.pv (vs (revK b j)))), (8, sc (.int .i64 (j : Int)))], [some ⟨9, k, fun i => vs (stAt (mirL l) i)⟩], 37⟩)
        (fun j => j ≤ lenB b) (fun j => lenB b - j) 0 (by omega) (by simp [Ent, EntS, EntH, SlE, VE, VE.rfl', lookup, BE, revK_zero]) ?_
      intro j hj
      repeat' (first | (with_reducible first | refine then_normal ?_ | refine then_ret ?_ | refine then_exit ?_ | refine block_normal ?_ | refine block_ret ?_) | ((with_reducible show blockQ _ _ _ _); first | refine block_exit ?_ | refine block_exit_ne rfl ?_) | ((with_reducible show AWP _ _ _ _ _); first | (with_reducible first | refine AWP.seq ?_ | refine AWP.block ?_ | refine AWP.region ?_ | refine AWP.ret ?_ | refine AWP.exit ?_ | refine AWP.skip ?_) | refine AWP.drawn rfl (by kernel_rfl) ?_ | refine AWP.cond rfl ?_ ?_) | with_reducible refine ev_nil ?_ | ((first | ((with_reducible show evOps _ _ _ _ _ _); (first | refine ev_step rfl ?_ | refine ev_undef rfl rfl rfl ?_); intro K hK) | ((with_reducible show EvOpen _ _ _ _ _ _ _); refine ev_open ?_; intro K hK) | ((with_reducible show SkOpen _ _ _ _ _ _ _); refine sk_open ?_; intro K hK) | ((with_reducible show callK _ _ _ _ _ _ _ _); first | fail)); simp only [evOp, oldZ, evQ, evB, capsK, dynK, tabV, bytesK, eqStK, vInt, binK, withS, opd, kput, putS, upd, lookup, skipOp, argsK, loadOwn, bringIn, bring, Res.list, Res.slot, slotsOf, InK_i64, appendK, srcK, growK, storeK, frz, storeV, setBlk, makeK, newBlk, boxV, allocK, buildK, partsK, buildSliceK, plSlice, cutK, boundK, V.one, Value.oneCell', List.set_cons_zero, List.set_cons_succ, sz_ints, c_int, ei_ints, ea_ints, u_bool, bints, u_int, sz_strs, c_string, ei_strs, ea_strs, u_string, c_ints, sz_terms, ei_terms, ea_terms, c_term, fi0, fi1, fi2, z_term, pl_term, is_term, bs_bytes, ei_bytes, ea_bytes, sz_bytes, c_u8, u_u8, bstrs, brows, tf_0, tf_1, tf_2, tf_00, tf_01, tf_02, t3_0, t3_1, t3_2, bterms, retCell, retCell.cellOk, Nat.zero_le, lenB_is, byteI_is, InK_u8, del, List.getElem?_cons_zero, List.getElem?_cons_succ, Option.bind_some, List.reverse_cons, List.reverse_nil, List.nil_append, List.cons_append, List.length_cons, List.length_nil, Nat.reduceEqDiff, Nat.reduceAdd, Nat.reduceLT, Nat.reduceLeDiff, Nat.reduceMul, Nat.mul_one, Nat.one_mul, Nat.zero_mul, Nat.add_zero, Nat.zero_add, Nat.sub_zero, Nat.mod_one, Nat.not_lt_zero, List.getD_cons_zero, ↓reduceIte, if_true, if_false, eq_self, true_and, and_true, Bool.not_true, Bool.not_false, Bool.true_eq_false, Bool.false_eq_true, false_implies, forall_const, implies_true, Int.toNat_natCast, Int.toNat_zero, Int.toNat_one, Option.isSome_some]) | refine ev_guard rfl rfl rfl ?_ ?_ | ((with_reducible show retQ _ _ _ _); simp only [retQ, retOk, getL, lookup, Option.map_some, fitsL, fits, ND, srcs, Res.list, VE, List.getElem?_cons_zero, List.getElem?_cons_succ, Value.bool.injEq, Value.int.injEq, Nat.reduceEqDiff, ↓reduceIte, and_true, true_and]) | (with_reducible refine hK _ ?_; clear hK K) | (with_reducible refine And.intro ?_ ?_) | (with_reducible intro hc; try simp only [decide_eq_true_eq, decide_eq_false_iff_not, beq_iff_eq, beq_eq_false_iff_ne, bne_iff_ne, bne_eq_false_iff_eq, Bool.not_eq_true', Bool.not_eq_false', Bool.not_true, Bool.not_false, Int.not_lt, Int.not_le, gt_iff_lt, ge_iff_le, ne_eq, Decidable.not_not, reduceCtorEq, inB_true, inB_false, finB_true, finB_false, not_true_eq_false, eqB_refl, Bool.true_eq_false] at hc) | omega)
      all_goals first
        | (exfalso; omega)
        | (rename_i q; obtain rfl : q = 0 := (by omega); rfl)
        | (refine ⟨j + 1, by omega, by omega, by simp [Ent, EntS, EntH, SlE, VE, VE.rfl', lookup, BE, revK_succ' (show j < lenB b by omega)]⟩)
        | (obtain rfl : j = lenB b := by omega
           refine ⟨k + 1, by omega, by omega, [2], rfl, by decide, by simp [EntSR, SlR, VE, VE.rfl', lookup, sc], grow_strs2 ?_, trivial⟩
           rw [hget])
        | (rw [revK_size, cut_one (by omega), strOfNums_size]; simp; omega)
        | trace_state
    all_goals first
      | (exfalso; omega)
      | (obtain rfl : k = l.length := by omega
         refine ⟨_, rfl, rfl, by simp [bstrs], fun i hi => VE.of_eq rfl⟩)
      | (simp; done)
      | (simp; omega)
      | trace_state
  · have hp' : picB l = false := by simpa using hp
    rw [mirR_no hp']
    repeat' (first | (with_reducible first | refine then_normal ?_ | refine then_ret ?_ | refine then_exit ?_ | refine block_normal ?_ | refine block_ret ?_) | ((with_reducible show blockQ _ _ _ _); first | refine block_exit ?_ | refine block_exit_ne rfl ?_) | ((with_reducible show AWP _ _ _ _ _); first | (with_reducible first | refine AWP.seq ?_ | refine AWP.block ?_ | refine AWP.region ?_ | refine AWP.ret ?_ | refine AWP.exit ?_ | refine AWP.skip ?_) | refine AWP.drawn rfl (by kernel_rfl) ?_ | refine AWP.cond rfl ?_ ?_) | with_reducible refine ev_nil ?_ | ((first | ((with_reducible show evOps _ _ _ _ _ _); (first | refine ev_step rfl ?_ | refine ev_undef rfl rfl rfl ?_); intro K hK) | ((with_reducible show EvOpen _ _ _ _ _ _ _); refine ev_open ?_; intro K hK) | ((with_reducible show SkOpen _ _ _ _ _ _ _); refine sk_open ?_; intro K hK) | ((with_reducible show callK _ _ _ _ _ _ _ _); first  | (refine call_scalar (drGood_fn l hl hs) (Nat.le_of_ble_eq_true rfl) rfl ?_))); simp only [evOp, oldZ, evQ, evB, capsK, dynK, tabV, bytesK, eqStK, vInt, binK, withS, opd, kput, putS, upd, lookup, skipOp, argsK, loadOwn, bringIn, bring, Res.list, Res.slot, slotsOf, InK_i64, appendK, srcK, growK, storeK, frz, storeV, setBlk, makeK, newBlk, boxV, allocK, buildK, partsK, buildSliceK, plSlice, cutK, boundK, V.one, Value.oneCell', List.set_cons_zero, List.set_cons_succ, sz_ints, c_int, ei_ints, ea_ints, u_bool, bints, u_int, sz_strs, c_string, ei_strs, ea_strs, u_string, c_ints, sz_terms, ei_terms, ea_terms, c_term, fi0, fi1, fi2, z_term, pl_term, is_term, bs_bytes, ei_bytes, ea_bytes, sz_bytes, c_u8, u_u8, bstrs, brows, tf_0, tf_1, tf_2, tf_00, tf_01, tf_02, t3_0, t3_1, t3_2, bterms, retCell, retCell.cellOk, Nat.zero_le, lenB_is, byteI_is, InK_u8, del, List.getElem?_cons_zero, List.getElem?_cons_succ, Option.bind_some, List.reverse_cons, List.reverse_nil, List.nil_append, List.cons_append, List.length_cons, List.length_nil, Nat.reduceEqDiff, Nat.reduceAdd, Nat.reduceLT, Nat.reduceLeDiff, Nat.reduceMul, Nat.mul_one, Nat.one_mul, Nat.zero_mul, Nat.add_zero, Nat.zero_add, Nat.sub_zero, Nat.mod_one, Nat.not_lt_zero, List.getD_cons_zero, ↓reduceIte, if_true, if_false, eq_self, true_and, and_true, Bool.not_true, Bool.not_false, Bool.true_eq_false, Bool.false_eq_true, false_implies, forall_const, implies_true, Int.toNat_natCast, Int.toNat_zero, Int.toNat_one, Option.isSome_some]) | refine ev_guard rfl rfl rfl ?_ ?_ | ((with_reducible show retQ _ _ _ _); simp only [retQ, retOk, getL, lookup, Option.map_some, fitsL, fits, ND, srcs, Res.list, VE, List.getElem?_cons_zero, List.getElem?_cons_succ, Value.bool.injEq, Value.int.injEq, Nat.reduceEqDiff, ↓reduceIte, and_true, true_and]) | (with_reducible refine hK _ ?_; clear hK K) | (with_reducible refine And.intro ?_ ?_) | (with_reducible intro hc; try simp only [decide_eq_true_eq, decide_eq_false_iff_not, beq_iff_eq, beq_eq_false_iff_ne, bne_iff_ne, bne_eq_false_iff_eq, Bool.not_eq_true', Bool.not_eq_false', Bool.not_true, Bool.not_false, Int.not_lt, Int.not_le, gt_iff_lt, ge_iff_le, ne_eq, Decidable.not_not, reduceCtorEq, inB_true, inB_false, finB_true, finB_false, not_true_eq_false, eqB_refl, Bool.true_eq_false] at hc) | omega)
    all_goals first
      | (exfalso; simp_all; done)
      | (simp [bstrs]; done)
      | trace_state

end Go.Proofs.YteapdildbfimnaaDoor
namespace Go.Proofs.YteapdildbfimnaaDoor
open Go.RowKit Go.Proofs
set_option linter.unusedSimpArgs false
set_option linter.unusedVariables false

/-- Columns x to x + w of a string. -/
def cutS (b : ByteArray) (x w : Nat) : ByteArray := ⟨(((bytesOf b).drop x).take w).toArray⟩
def cutL (l : List ByteArray) (x y w h : Nat) : List ByteArray := (List.range h).map fun i => cutS (stAt l (y + i)) x w
@[simp] theorem cutL_len (l : List ByteArray) (x y w h : Nat) : (cutL l x y w h).length = h := by simp [cutL]
theorem cutL_get {l : List ByteArray} {x y w h i : Nat} (hi : i < h) : stAt (cutL l x y w h) i = cutS (stAt l (y + i)) x w := by simp [stAt, cutL, List.getD, hi]
def cutB (l : List ByteArray) (x y w h : Int) : Bool := picB l && (decide (0 ≤ x) && decide (0 ≤ y) && decide (1 ≤ w) && decide (1 ≤ h) && decide (x + w ≤ lenB (stAt l 0)) && decide (y + h ≤ l.length))
theorem cutB_iff {l : List ByteArray} {x y w h : Int} : cutB l x y w h = true ↔ picB l = true ∧ 0 ≤ x ∧ 0 ≤ y ∧ 1 ≤ w ∧ 1 ≤ h ∧ x + w ≤ lenB (stAt l 0) ∧ y + h ≤ l.length := by
  simp [cutB, and_assoc]
theorem cutB_no {l : List ByteArray} {x y w h : Int} (hn : ¬ (picB l = true ∧ 0 ≤ x ∧ 0 ≤ y ∧ 1 ≤ w ∧ 1 ≤ h ∧ x + w ≤ lenB (stAt l 0) ∧ y + h ≤ l.length)) : cutB l x y w h = false := by
  cases e : cutB l x y w h with
  | false => rfl
  | true => exact absurd (cutB_iff.1 e) hn
theorem cutB_noA {l : List ByteArray} {x y w h : Int} (hn : ¬ (0 ≤ x ∧ 0 ≤ y ∧ 1 ≤ w ∧ 1 ≤ h ∧ x + w ≤ lenB (stAt l 0) ∧ y + h ≤ l.length)) : cutB l x y w h = false := cutB_no fun hh => hn hh.2
theorem cutB_noP {l : List ByteArray} {x y w h : Int} (hn : ¬ picB l = true) : cutB l x y w h = false := cutB_no fun hh => hn hh.1
def cutR (l : List ByteArray) (x y w h : Int) : List ByteArray × Bool := if cutB l x y w h then (cutL l x.toNat y.toNat w.toNat h.toNat, true) else ([], false)
theorem cutR_no {l : List ByteArray} {x y w h : Int} (hn : cutB l x y w h = false) : cutR l x y w h = ([], false) := by unfold cutR; rw [hn]; rfl
theorem cutR_yes {l : List ByteArray} {x y w h : Int} (hn : cutB l x y w h = true) : cutR l x y w h = (cutL l x.toNat y.toNat w.toNat h.toNat, true) := by unfold cutR; rw [hn]; rfl

theorem grow_strs {e : TypeId} {k : Nat} {L : List ByteArray} {v z : V} (h : v = vs (stAt L k)) : BE ⟨e, k + 1, fun i => if i < k then vs (stAt L i) else if i - k = 0 then v else z⟩ ⟨e, k + 1, fun i => vs (stAt L i)⟩ := grow_be (VE.of_eq h)

set_option maxHeartbeats 2000000 in
theorem implCutPicture_fn (l : List ByteArray) (x y w h : Int) (hl : l.length ≤ 1099511627776) : Fn Tryd.prog 21 [strs l, vi x, vi y, vi w, vi h]
    (.many [.fr 1 (cutR l x y w h).1.length (bstrs (cutR l x y w h).1), .pv (vb (cutR l x y w h).2)]) := by
  refine Fn.of_body Tryd.call21 Tryd.func21 rfl Tryd.ntmps21 (ts := [10, 11]) rfl (by simp) rfl (fun N => ?_)
  by_cases hp : picB l = true
  · have hpp := picB_parts hp
    repeat' (first | (with_reducible first | refine then_normal ?_ | refine then_ret ?_ | refine then_exit ?_ | refine block_normal ?_ | refine block_ret ?_) | ((with_reducible show blockQ _ _ _ _); first | refine block_exit ?_ | refine block_exit_ne rfl ?_) | ((with_reducible show AWP _ _ _ _ _); first | (with_reducible first | refine AWP.seq ?_ | refine AWP.block ?_ | refine AWP.region ?_ | refine AWP.ret ?_ | refine AWP.exit ?_ | refine AWP.skip ?_) | refine AWP.drawn rfl (by kernel_rfl) ?_ | refine AWP.cond rfl ?_ ?_) | with_reducible refine ev_nil ?_ | ((first | ((with_reducible show evOps _ _ _ _ _ _); (first | refine ev_step rfl ?_ | refine ev_undef rfl rfl rfl ?_); intro K hK) | ((with_reducible show EvOpen _ _ _ _ _ _ _); refine ev_open ?_; intro K hK) | ((with_reducible show SkOpen _ _ _ _ _ _ _); refine sk_open ?_; intro K hK) | ((with_reducible show callK _ _ _ _ _ _ _ _); first  | (refine call_scalar (isPicture_fn l hl) (Nat.le_of_ble_eq_true rfl) rfl ?_) | (refine call_scalar (within_fn _ _ _) (Nat.le_of_ble_eq_true rfl) rfl ?_))); simp only [evOp, oldZ, evQ, evB, capsK, dynK, tabV, bytesK, eqStK, vInt, binK, withS, opd, kput, putS, upd, lookup, skipOp, argsK, loadOwn, bringIn, bring, Res.list, Res.slot, slotsOf, InK_i64, appendK, srcK, growK, storeK, frz, storeV, setBlk, makeK, newBlk, boxV, allocK, buildK, partsK, buildSliceK, plSlice, cutK, boundK, V.one, Value.oneCell', List.set_cons_zero, List.set_cons_succ, sz_ints, c_int, ei_ints, ea_ints, u_bool, bints, u_int, sz_strs, c_string, ei_strs, ea_strs, u_string, c_ints, sz_terms, ei_terms, ea_terms, c_term, fi0, fi1, fi2, z_term, pl_term, is_term, bs_bytes, ei_bytes, ea_bytes, sz_bytes, c_u8, u_u8, bstrs, brows, tf_0, tf_1, tf_2, tf_00, tf_01, tf_02, t3_0, t3_1, t3_2, bterms, retCell, retCell.cellOk, Nat.zero_le, lenB_is, byteI_is, InK_u8, List.getElem?_cons_zero, List.getElem?_cons_succ, Option.bind_some, List.reverse_cons, List.reverse_nil, List.nil_append, List.cons_append, List.length_cons, List.length_nil, Nat.reduceEqDiff, Nat.reduceAdd, Nat.reduceLT, Nat.reduceLeDiff, Nat.reduceMul, Nat.mul_one, Nat.one_mul, Nat.zero_mul, Nat.add_zero, Nat.zero_add, Nat.sub_zero, Nat.mod_one, Nat.not_lt_zero, List.getD_cons_zero, ↓reduceIte, if_true, if_false, eq_self, true_and, and_true, Bool.not_true, Bool.not_false, Bool.true_eq_false, Bool.false_eq_true, false_implies, forall_const, implies_true, Int.toNat_natCast, Int.toNat_zero, Int.toNat_one, Option.isSome_some]) | refine ev_guard rfl rfl rfl ?_ ?_ | ((with_reducible show retQ _ _ _ _); simp only [retQ, retOk, getL, lookup, Option.map_some, fitsL, fits, ND, srcs, Res.list, VE, List.getElem?_cons_zero, List.getElem?_cons_succ, Value.bool.injEq, Value.int.injEq, Nat.reduceEqDiff, ↓reduceIte, and_true, true_and]) | (with_reducible refine hK _ ?_; clear hK K) | (with_reducible refine And.intro ?_ ?_) | (with_reducible intro hc; try simp only [decide_eq_true_eq, decide_eq_false_iff_not, beq_iff_eq, beq_eq_false_iff_ne, bne_iff_ne, bne_eq_false_iff_eq, Bool.not_eq_true', Bool.not_eq_false', Bool.not_true, Bool.not_false, Int.not_lt, Int.not_le, gt_iff_lt, ge_iff_le, ne_eq, Decidable.not_not, reduceCtorEq, inB_true, inB_false, finB_true, finB_false, not_true_eq_false, eqB_refl, Bool.true_eq_false] at hc) | omega)
    any_goals first
      | (simp [cutR_no (cutB_noA (l := l) (x := x) (y := y) (w := w) (h := h) (by omega)), bstrs]; done)
      | (exfalso; simp_all; done)
    have hok : cutB l x y w h = true := cutB_iff.2 ⟨hp, by omega, by omega, by omega, by omega, by omega, by omega⟩
    have hyh : (y + h).toNat - y.toNat = h.toNat := by omega
    have hxw : (x + w).toNat - x.toNat = w.toNat := by omega
    rw [cutR_yes hok]
    refine AWP.loop_entR [0] (fun k : Nat => ⟨[(1, sc (.int .i64 x)), (3, sc (.int .i64 w)), (12, .one (.own 0 1 0 k)), (62, .one (.pv (.seq 1 h.toNat fun i => vs (stAt l (y.toNat + i))))), (63, sc (.int .i64 (h.toNat : Int))), (64, sc (.int .i64 k))], [some ⟨9, k, fun i => vs (stAt (cutL l x.toNat y.toNat w.toNat h.toNat) i)⟩], 79⟩)
      (fun k => k ≤ h.toNat) (fun k => h.toNat - k) 0 (by omega) (by simp [EntR, EntSR, EntHR, SlR, VE, VE.rfl', lookup, BE, upd, sc, hyh]) ?_
    intro k hk
    by_cases hkl : k < h.toNat
    · have hlk := hpp.2.2 (y.toNat + k) (by omega)
      have hlk' : (bytesOf (stAt l (y.toNat + k))).length = lenB (stAt l 0) := hlk
      repeat' (first | (with_reducible first | refine then_normal ?_ | refine then_ret ?_ | refine then_exit ?_ | refine block_normal ?_ | refine block_ret ?_) | ((with_reducible show blockQ _ _ _ _); first | refine block_exit ?_ | refine block_exit_ne rfl ?_) | ((with_reducible show AWP _ _ _ _ _); first | (with_reducible first | refine AWP.seq ?_ | refine AWP.block ?_ | refine AWP.region ?_ | refine AWP.ret ?_ | refine AWP.exit ?_ | refine AWP.skip ?_) | refine AWP.drawn rfl (by kernel_rfl) ?_ | refine AWP.cond rfl ?_ ?_) | with_reducible refine ev_nil ?_ | ((first | ((with_reducible show evOps _ _ _ _ _ _); (first | refine ev_step rfl ?_ | refine ev_undef rfl rfl rfl ?_); intro K hK) | ((with_reducible show EvOpen _ _ _ _ _ _ _); refine ev_open ?_; intro K hK) | ((with_reducible show SkOpen _ _ _ _ _ _ _); refine sk_open ?_; intro K hK) | ((with_reducible show callK _ _ _ _ _ _ _ _); first | fail)); simp only [evOp, oldZ, evQ, evB, capsK, dynK, tabV, bytesK, eqStK, vInt, binK, withS, opd, kput, putS, upd, lookup, skipOp, argsK, loadOwn, bringIn, bring, Res.list, Res.slot, slotsOf, InK_i64, appendK, srcK, growK, storeK, frz, storeV, setBlk, makeK, newBlk, boxV, allocK, buildK, partsK, buildSliceK, plSlice, cutK, boundK, V.one, Value.oneCell', List.set_cons_zero, List.set_cons_succ, sz_ints, c_int, ei_ints, ea_ints, u_bool, bints, u_int, sz_strs, c_string, ei_strs, ea_strs, u_string, c_ints, sz_terms, ei_terms, ea_terms, c_term, fi0, fi1, fi2, z_term, pl_term, is_term, bs_bytes, ei_bytes, ea_bytes, sz_bytes, c_u8, u_u8, bstrs, brows, tf_0, tf_1, tf_2, tf_00, tf_01, tf_02, t3_0, t3_1, t3_2, bterms, retCell, retCell.cellOk, Nat.zero_le, lenB_is, byteI_is, InK_u8, List.getElem?_cons_zero, List.getElem?_cons_succ, Option.bind_some, List.reverse_cons, List.reverse_nil, List.nil_append, List.cons_append, List.length_cons, List.length_nil, Nat.reduceEqDiff, Nat.reduceAdd, Nat.reduceLT, Nat.reduceLeDiff, Nat.reduceMul, Nat.mul_one, Nat.one_mul, Nat.zero_mul, Nat.add_zero, Nat.zero_add, Nat.sub_zero, Nat.mod_one, Nat.not_lt_zero, List.getD_cons_zero, ↓reduceIte, if_true, if_false, eq_self, true_and, and_true, Bool.not_true, Bool.not_false, Bool.true_eq_false, Bool.false_eq_true, false_implies, forall_const, implies_true, Int.toNat_natCast, Int.toNat_zero, Int.toNat_one, Option.isSome_some]) | refine ev_guard rfl rfl rfl ?_ ?_ | ((with_reducible show retQ _ _ _ _); simp only [retQ, retOk, getL, lookup, Option.map_some, fitsL, fits, ND, srcs, Res.list, VE, List.getElem?_cons_zero, List.getElem?_cons_succ, Value.bool.injEq, Value.int.injEq, Nat.reduceEqDiff, ↓reduceIte, and_true, true_and]) | (with_reducible refine hK _ ?_; clear hK K) | (with_reducible refine And.intro ?_ ?_) | (with_reducible intro hc; try simp only [decide_eq_true_eq, decide_eq_false_iff_not, beq_iff_eq, beq_eq_false_iff_ne, bne_iff_ne, bne_eq_false_iff_eq, Bool.not_eq_true', Bool.not_eq_false', Bool.not_true, Bool.not_false, Int.not_lt, Int.not_le, gt_iff_lt, ge_iff_le, ne_eq, Decidable.not_not, reduceCtorEq, inB_true, inB_false, finB_true, finB_false, not_true_eq_false, eqB_refl, Bool.true_eq_false] at hc) | omega)
      all_goals first
        | (rename_i i; obtain rfl : i = 0 := (by omega); rfl)
        | (refine ⟨k + 1, by omega, by omega, [2], rfl, by decide, by simp [EntSR, SlR, VE, VE.rfl', lookup, sc], grow_strs ?_, trivial⟩
           rw [cutL_get hkl]
           show vs _ = vs (cutS (stAt l (y.toNat + k)) x.toNat w.toNat)
           unfold cutS
           rw [hxw])
        | (rw [hlk']; omega)
        | trace_state
    · obtain rfl : k = h.toNat := by omega
      repeat' (first | (with_reducible first | refine then_normal ?_ | refine then_ret ?_ | refine then_exit ?_ | refine block_normal ?_ | refine block_ret ?_) | ((with_reducible show blockQ _ _ _ _); first | refine block_exit ?_ | refine block_exit_ne rfl ?_) | ((with_reducible show AWP _ _ _ _ _); first | (with_reducible first | refine AWP.seq ?_ | refine AWP.block ?_ | refine AWP.region ?_ | refine AWP.ret ?_ | refine AWP.exit ?_ | refine AWP.skip ?_) | refine AWP.drawn rfl (by kernel_rfl) ?_ | refine AWP.cond rfl ?_ ?_) | with_reducible refine ev_nil ?_ | ((first | ((with_reducible show evOps _ _ _ _ _ _); (first | refine ev_step rfl ?_ | refine ev_undef rfl rfl rfl ?_); intro K hK) | ((with_reducible show EvOpen _ _ _ _ _ _ _); refine ev_open ?_; intro K hK) | ((with_reducible show SkOpen _ _ _ _ _ _ _); refine sk_open ?_; intro K hK) | ((with_reducible show callK _ _ _ _ _ _ _ _); first | fail)); simp only [evOp, oldZ, evQ, evB, capsK, dynK, tabV, bytesK, eqStK, vInt, binK, withS, opd, kput, putS, upd, lookup, skipOp, argsK, loadOwn, bringIn, bring, Res.list, Res.slot, slotsOf, InK_i64, appendK, srcK, growK, storeK, frz, storeV, setBlk, makeK, newBlk, boxV, allocK, buildK, partsK, buildSliceK, plSlice, cutK, boundK, V.one, Value.oneCell', List.set_cons_zero, List.set_cons_succ, sz_ints, c_int, ei_ints, ea_ints, u_bool, bints, u_int, sz_strs, c_string, ei_strs, ea_strs, u_string, c_ints, sz_terms, ei_terms, ea_terms, c_term, fi0, fi1, fi2, z_term, pl_term, is_term, bs_bytes, ei_bytes, ea_bytes, sz_bytes, c_u8, u_u8, bstrs, brows, tf_0, tf_1, tf_2, tf_00, tf_01, tf_02, t3_0, t3_1, t3_2, bterms, retCell, retCell.cellOk, Nat.zero_le, lenB_is, byteI_is, InK_u8, List.getElem?_cons_zero, List.getElem?_cons_succ, Option.bind_some, List.reverse_cons, List.reverse_nil, List.nil_append, List.cons_append, List.length_cons, List.length_nil, Nat.reduceEqDiff, Nat.reduceAdd, Nat.reduceLT, Nat.reduceLeDiff, Nat.reduceMul, Nat.mul_one, Nat.one_mul, Nat.zero_mul, Nat.add_zero, Nat.zero_add, Nat.sub_zero, Nat.mod_one, Nat.not_lt_zero, List.getD_cons_zero, ↓reduceIte, if_true, if_false, eq_self, true_and, and_true, Bool.not_true, Bool.not_false, Bool.true_eq_false, Bool.false_eq_true, false_implies, forall_const, implies_true, Int.toNat_natCast, Int.toNat_zero, Int.toNat_one, Option.isSome_some]) | refine ev_guard rfl rfl rfl ?_ ?_ | ((with_reducible show retQ _ _ _ _); simp only [retQ, retOk, getL, lookup, Option.map_some, fitsL, fits, ND, srcs, Res.list, VE, List.getElem?_cons_zero, List.getElem?_cons_succ, Value.bool.injEq, Value.int.injEq, Nat.reduceEqDiff, ↓reduceIte, and_true, true_and]) | (with_reducible refine hK _ ?_; clear hK K) | (with_reducible refine And.intro ?_ ?_) | (with_reducible intro hc; try simp only [decide_eq_true_eq, decide_eq_false_iff_not, beq_iff_eq, beq_eq_false_iff_ne, bne_iff_ne, bne_eq_false_iff_eq, Bool.not_eq_true', Bool.not_eq_false', Bool.not_true, Bool.not_false, Int.not_lt, Int.not_le, gt_iff_lt, ge_iff_le, ne_eq, Decidable.not_not, reduceCtorEq, inB_true, inB_false, finB_true, finB_false, not_true_eq_false, eqB_refl, Bool.true_eq_false] at hc) | omega)
      all_goals first
        | (exfalso; omega)
        | (simp; done)
        | (refine ⟨_, rfl, rfl, by simp [bstrs], fun i hi => VE.of_eq rfl⟩)
        | trace_state
  · repeat' (first | (with_reducible first | refine then_normal ?_ | refine then_ret ?_ | refine then_exit ?_ | refine block_normal ?_ | refine block_ret ?_) | ((with_reducible show blockQ _ _ _ _); first | refine block_exit ?_ | refine block_exit_ne rfl ?_) | ((with_reducible show AWP _ _ _ _ _); first | (with_reducible first | refine AWP.seq ?_ | refine AWP.block ?_ | refine AWP.region ?_ | refine AWP.ret ?_ | refine AWP.exit ?_ | refine AWP.skip ?_) | refine AWP.drawn rfl (by kernel_rfl) ?_ | refine AWP.cond rfl ?_ ?_) | with_reducible refine ev_nil ?_ | ((first | ((with_reducible show evOps _ _ _ _ _ _); (first | refine ev_step rfl ?_ | refine ev_undef rfl rfl rfl ?_); intro K hK) | ((with_reducible show EvOpen _ _ _ _ _ _ _); refine ev_open ?_; intro K hK) | ((with_reducible show SkOpen _ _ _ _ _ _ _); refine sk_open ?_; intro K hK) | ((with_reducible show callK _ _ _ _ _ _ _ _); first  | (refine call_scalar (isPicture_fn l hl) (Nat.le_of_ble_eq_true rfl) rfl ?_) | (refine call_scalar (within_fn _ _ _) (Nat.le_of_ble_eq_true rfl) rfl ?_))); simp only [evOp, oldZ, evQ, evB, capsK, dynK, tabV, bytesK, eqStK, vInt, binK, withS, opd, kput, putS, upd, lookup, skipOp, argsK, loadOwn, bringIn, bring, Res.list, Res.slot, slotsOf, InK_i64, appendK, srcK, growK, storeK, frz, storeV, setBlk, makeK, newBlk, boxV, allocK, buildK, partsK, buildSliceK, plSlice, cutK, boundK, V.one, Value.oneCell', List.set_cons_zero, List.set_cons_succ, sz_ints, c_int, ei_ints, ea_ints, u_bool, bints, u_int, sz_strs, c_string, ei_strs, ea_strs, u_string, c_ints, sz_terms, ei_terms, ea_terms, c_term, fi0, fi1, fi2, z_term, pl_term, is_term, bs_bytes, ei_bytes, ea_bytes, sz_bytes, c_u8, u_u8, bstrs, brows, tf_0, tf_1, tf_2, tf_00, tf_01, tf_02, t3_0, t3_1, t3_2, bterms, retCell, retCell.cellOk, Nat.zero_le, lenB_is, byteI_is, InK_u8, List.getElem?_cons_zero, List.getElem?_cons_succ, Option.bind_some, List.reverse_cons, List.reverse_nil, List.nil_append, List.cons_append, List.length_cons, List.length_nil, Nat.reduceEqDiff, Nat.reduceAdd, Nat.reduceLT, Nat.reduceLeDiff, Nat.reduceMul, Nat.mul_one, Nat.one_mul, Nat.zero_mul, Nat.add_zero, Nat.zero_add, Nat.sub_zero, Nat.mod_one, Nat.not_lt_zero, List.getD_cons_zero, ↓reduceIte, if_true, if_false, eq_self, true_and, and_true, Bool.not_true, Bool.not_false, Bool.true_eq_false, Bool.false_eq_true, false_implies, forall_const, implies_true, Int.toNat_natCast, Int.toNat_zero, Int.toNat_one, Option.isSome_some]) | refine ev_guard rfl rfl rfl ?_ ?_ | ((with_reducible show retQ _ _ _ _); simp only [retQ, retOk, getL, lookup, Option.map_some, fitsL, fits, ND, srcs, Res.list, VE, List.getElem?_cons_zero, List.getElem?_cons_succ, Value.bool.injEq, Value.int.injEq, Nat.reduceEqDiff, ↓reduceIte, and_true, true_and]) | (with_reducible refine hK _ ?_; clear hK K) | (with_reducible refine And.intro ?_ ?_) | (with_reducible intro hc; try simp only [decide_eq_true_eq, decide_eq_false_iff_not, beq_iff_eq, beq_eq_false_iff_ne, bne_iff_ne, bne_eq_false_iff_eq, Bool.not_eq_true', Bool.not_eq_false', Bool.not_true, Bool.not_false, Int.not_lt, Int.not_le, gt_iff_lt, ge_iff_le, ne_eq, Decidable.not_not, reduceCtorEq, inB_true, inB_false, finB_true, finB_false, not_true_eq_false, eqB_refl, Bool.true_eq_false] at hc) | omega)
    all_goals first
      | (exfalso; simp_all; done)
      | (simp [cutR_no (cutB_noP (l := l) (x := x) (y := y) (w := w) (h := h) hp), bstrs]; done)
      | trace_state

end Go.Proofs.YteapdildbfimnaaDoor
namespace Go.Proofs.YteapdildbfimnaaDoor
set_option linter.unusedSimpArgs false
set_option linter.unusedVariables false
open Go

/-- The pieces between newlines. -/
def splitL : List UInt8 → List (List UInt8)
  | [] => [[]]
  | c :: r => if c = 10 then [] :: splitL r else match splitL r with | h :: t => (c :: h) :: t | [] => [[c]]
theorem splitL_cons (l : List UInt8) : ∃ h t, splitL l = h :: t := by
  cases l with
  | nil => exact ⟨_, _, rfl⟩
  | cons c r =>
    unfold splitL
    split
    · exact ⟨_, _, rfl⟩
    · cases splitL r with
      | nil => exact ⟨_, _, rfl⟩
      | cons h t => exact ⟨_, _, rfl⟩
/-- What has been read of a piece ahead of what is left. -/
def splitA (p l : List UInt8) : List (List UInt8) := match splitL l with | h :: t => (p ++ h) :: t | [] => [p]
theorem splitA_nil (l : List UInt8) : splitA [] l = splitL l := by
  obtain ⟨h, t, e⟩ := splitL_cons l
  unfold splitA; rw [e]; rfl
theorem splitA_end (p : List UInt8) : splitA p [] = [p] := by simp [splitA, splitL]
theorem splitA_nl (p r : List UInt8) : splitA p (10 :: r) = p :: splitL r := by simp [splitA, splitL]
theorem splitA_step {c : UInt8} (hc : c ≠ 10) (p r : List UInt8) : splitA p (c :: r) = splitA (p ++ [c]) r := by
  obtain ⟨h, t, e⟩ := splitL_cons r
  simp [splitA, splitL, hc, e]
theorem splitL_len (l : List UInt8) : (splitL l).length = l.count 10 + 1 := by
  induction l with
  | nil => rfl
  | cons c r ih =>
    obtain ⟨h, t, e⟩ := splitL_cons r
    rw [e, List.length_cons] at ih
    by_cases hc : c = 10
    · subst hc; simp [splitL, e]; omega
    · simp [splitL, hc, e]; omega
/-- The last piece is empty where the text is, or ends in a newline. -/
theorem splitL_last (l : List UInt8) : (splitL l).getD (l.count 10) [] = [] ↔ l = [] ∨ l.getD (l.length - 1) 0 = 10 := by
  induction l with
  | nil => simp [splitL]
  | cons c r ih =>
    obtain ⟨h, t, e⟩ := splitL_cons r
    have hl := splitL_len r
    rw [e, List.length_cons] at hl
    rw [e] at ih
    by_cases hc : c = 10
    · subst hc
      have e1 : (splitL (10 :: r)).getD ((10 :: r).count 10) [] = (h :: t).getD (r.count 10) [] := by
        rw [show splitL (10 :: r) = [] :: (h :: t) by simp [splitL, e], List.count_cons_self]; rfl
      rw [e1, ih]
      cases r with
      | nil => simp
      | cons d r => simp
    · have e1 : (10 :: [] : List UInt8) ≠ [] := by simp
      have ec : (c :: r).count 10 = r.count 10 := List.count_cons_of_ne (fun e => hc e)
      have e2 : splitL (c :: r) = (c :: h) :: t := by simp [splitL, hc, e]
      rw [ec, e2]
      cases hk : r.count 10 with
      | zero =>
        have h0 : ¬ (r.getD (r.length - 1) 0 = 10 ∧ r ≠ []) := fun ⟨h1, h2⟩ => by
          have hp : 0 < r.length := List.length_pos_iff.2 h2
          have : 10 ∈ r := by
            rw [List.getD, List.getElem?_eq_getElem (by omega)] at h1
            exact h1 ▸ List.getElem_mem _
          have := List.count_pos_iff.2 this
          omega
        cases r with
        | nil => simp [hc]
        | cons d r =>
          simp only [List.getD_cons_zero, reduceCtorEq, false_or]
          constructor
          · intro h; cases h
          · intro h; exact absurd ⟨by simpa using h, by simp⟩ h0
      | succ k =>
        rw [hk] at ih
        have hr : r ≠ [] := fun e => by subst e; cases hk
        have e3 : ((c :: h) :: t).getD (k + 1) [] = (h :: t).getD (k + 1) [] := rfl
        rw [e3, ih]
        cases r with
        | nil => exact absurd rfl hr
        | cons d r => simp

theorem splitL_index (s : List UInt8) : splitL s = if Lib.indexByte s 10 = -1 then [s] else s.take (Lib.indexByte s 10).toNat :: splitL (s.drop ((Lib.indexByte s 10).toNat + 1)) := by
  induction s with
  | nil => rfl
  | cons b l ih =>
    by_cases hb : b = 10
    · subst hb; simp [splitL, Lib.indexByte]
    · have hbb : (b == 10) = false := beq_eq_false_iff_ne.2 hb
      by_cases hi : Lib.indexByte l 10 = -1
      · rw [if_pos hi] at ih
        have hi2 : Lib.indexByte (b :: l) 10 = -1 := by simp [Lib.indexByte, hbb, hi]
        rw [if_pos hi2]
        simp [splitL, hb, ih]
      · rw [if_neg hi] at ih
        have hge := Lib.indexByte_ge l 10
        have hi2 : Lib.indexByte (b :: l) 10 = Lib.indexByte l 10 + 1 := by simp [Lib.indexByte, hbb, hi]
        rw [if_neg (by rw [hi2]; omega), hi2]
        have e1 : (Lib.indexByte l 10 + 1).toNat = (Lib.indexByte l 10).toNat + 1 := by omega
        rw [e1, List.take_succ_cons, List.drop_succ_cons]
        simp only [splitL, if_neg hb]
        rw [ih]

theorem splitK_nl : ∀ (k : Nat) (s : List UInt8), s.count 10 ≤ k → Lib.splitK [10] 0 k s = splitL s
  | 0, s, h => by
    rw [splitL_index, if_pos]
    · rfl
    · rcases Int.lt_or_le (Lib.indexByte s 10) 0 with h0 | h0
      · have := Lib.indexByte_ge s 10; omega
      · obtain ⟨h1, _⟩ := Lib.indexByte_some (l := s) (c := 10) (o := (Lib.indexByte s 10).toNat) (by omega)
        have : 10 ∈ s := List.mem_of_getElem? h1
        have := List.count_pos_iff.2 this
        omega
  | k + 1, s, h => by
    rw [splitL_index]
    unfold Lib.splitK
    rw [Lib.index_one]
    by_cases hi : Lib.indexByte s 10 = -1
    · rw [if_pos hi, if_pos (beq_iff_eq.2 hi)]
    · rw [if_neg hi, if_neg (fun e => hi (beq_iff_eq.1 e)), Nat.add_zero]
      congr 1
      have hge := Lib.indexByte_ge s 10
      obtain ⟨h1, _⟩ := Lib.indexByte_some (l := s) (c := 10) (o := (Lib.indexByte s 10).toNat) (by omega)
      refine splitK_nl k _ ?_
      obtain ⟨hlt, he⟩ := List.getElem?_eq_some_iff.1 h1
      have e : s = s.take (Lib.indexByte s 10).toNat ++ 10 :: s.drop ((Lib.indexByte s 10).toNat + 1) := by
        generalize (Lib.indexByte s 10).toNat = i at hlt he
        rw [← he, ← List.drop_eq_getElem_cons hlt, List.take_append_drop]
      have hc := congrArg (List.count 10) e
      rw [List.count_append, List.count_cons_self] at hc
      show List.count 10 (s.drop ((Lib.indexByte s 10).toNat + 1)) ≤ k
      omega

def nlB : ByteArray := ⟨#[10]⟩
/-- The pieces of a string. -/
def nlS (s : ByteArray) : List ByteArray := (splitL s.data.toList).map fun x => ⟨x.toArray⟩
theorem nlS_len (s : ByteArray) : (nlS s).length = s.data.toList.count 10 + 1 := by simp [nlS, splitL_len]
theorem splitB_nl (s : ByteArray) : Lib.splitB nlB 0 (Lib.countB s nlB) s = nlS s := by
  have h := Lib.splitB_data nlB 0 (Lib.countB s nlB) s
  have e : nlB.data.toList = [10] := rfl
  rw [e, splitK_nl _ _ (by show _ ≤ Lib.count s.data.toList [10]; rw [Lib.count_one]; exact Nat.le_refl _)] at h
  unfold nlS
  rw [← h, List.map_map]
  conv => lhs; rw [← List.map_id (Lib.splitB nlB 0 (Lib.countB s nlB) s)]
  apply List.map_congr_left
  intro x _
  cases x; rfl
end Go.Proofs.YteapdildbfimnaaDoor
namespace Go.Proofs.YteapdildbfimnaaDoor
open Go.RowKit Go.Proofs
set_option linter.unusedSimpArgs false
set_option linter.unusedVariables false

theorem genSplit_run (s : ByteArray) (hs : s.size ≤ 2147483648) (w : World) :
    Calls Tryd.prog 67 #[.string s, .string nlB, .int .i64 (0 : Int), .int .i64 (-1)] w fun e w' => e = .returned (.slice (some ⟨w.heap.size, 0, none⟩) (nlS s).length (nlS s).length) ∧ w' = w.alloc (.cells ((nlS s).map Value.string).toArray 9) := by
  have h1 : 1 ≤ nlB.size := Nat.le_refl _
  have hle := Lib.countB_le nlB h1 s.size s (Nat.le_refl _)
  have hlen := Lib.splitB_all nlB h1 0 _ s rfl
  have c := Any.strings_genSplit_core (P := Tryd.prog) (ρ := Tryd.lays146_ren) { Tryd.lays146 with } (by kernel_rfl) s nlB 0 (-1) (Lib.countB s nlB + 1) w (by omega) h1 (Nat.zero_le _)
    (fun x c hx => (Tryd.strings_Index_one x 10 _).mono fun e w' ⟨he, hw⟩ => ⟨by rw [he]; show _ = Ending.returned (Value.int .i64 (Lib.index x.data.toList [10])); rw [Lib.index_one], hw⟩)
    ((Tryd.strings_Count_one s 10 w).mono fun e w' ⟨he, hw⟩ => ⟨by rw [he]; show _ = Ending.returned (Value.int .i64 ((Lib.count s.data.toList [10] : Nat) : Int)); rw [Lib.count_one]; rfl, hw⟩)
    (by decide) (by decide) (by rw [if_pos (by decide)]; omega)
  rw [Nat.add_sub_cancel, hlen] at c
  have e2 : Lib.cellsOf (Lib.splitB nlB 0 (Lib.countB s nlB) s) (Lib.countB s nlB + 1) = ((Lib.splitB nlB 0 (Lib.countB s nlB) s).map Value.string).toArray := by rw [← hlen]; exact Lib.cellsOf_full _
  rw [e2, splitB_nl] at c
  have hn : Lib.countB s nlB + 1 = (nlS s).length := by rw [← hlen, splitB_nl]
  rw [hn] at c
  exact c

theorem genSplit_fn (s : ByteArray) (hs : s.size ≤ 2147483648) : Fn Tryd.prog 67 [vs s, vs nlB, vi 0, vi (-1)] (.one (.fr 1 (nlS s).length (bstrs (nlS s)))) := by
  refine ⟨Tryd.call67, fun w S0 us hus => ?_⟩
  match us, hus with
  | [u0, u1, u2, u3], ⟨h0, h1, h2, h3, _⟩ =>
    obtain rfl : u0 = .string s := h0
    obtain rfl : u1 = .string nlB := h1
    obtain rfl : u2 = .int .i64 0 := h2
    obtain rfl : u3 = .int .i64 (-1) := h3
    refine (genSplit_run s hs w).mono ?_
    rintro e w' ⟨rfl, rfl⟩
    have hsz : ((nlS s).map Value.string).toArray.size = (nlS s).length := by simp
    have hsm : (nlS s).length ≤ s.size + 1 := by
      rw [nlS_len]
      have := List.count_le_length (a := 10) (l := s.data.toList)
      have e : s.data.toList.length = s.size := Array.length_toList
      omega
    refine ⟨_, [some (w.heap.size, ((nlS s).map Value.string).toArray.size)], rfl, ⟨rfl, (Below.refl _ _).alloc (Nat.le_refl _) _, fun id blk hi => ?_, fun i j bi bj b z z' hi hj hb => ?_⟩, .inr ⟨w.heap.size, (nlS s).length, ((nlS s).map Value.string).toArray.size, rfl, rfl, Nat.le_refl _, by unfold maxLen; omega, by rw [hsz]; omega⟩⟩
    · cases id with
      | zero =>
        cases hi
        refine .inr ⟨w.heap.size, _, rfl, Nat.le_refl _, heap_alloc_new w _, by rw [hsz]; exact Nat.le_refl _, fun i hi => ?_⟩
        have hi : i < (nlS s).length := hi
        refine ⟨.string (stAt (nlS s) i), by simp [stAt, List.getD, hi], rfl⟩
      | succ id => simp [bring, Res.list] at hi
    · cases i with
      | zero =>
        cases j with
        | zero => intro _; rfl
        | succ j => simp [bring, Res.list] at hj
      | succ i => simp [bring, Res.list] at hi

theorem split_fn (s : ByteArray) (hs : s.size ≤ 2147483648) : Fn Tryd.prog 44 [vs s, vs nlB] (.one (.fr 1 (nlS s).length (bstrs (nlS s)))) := by
  refine Fn.of_body Tryd.call44 Tryd.func44 rfl Tryd.ntmps44 (ts := [4]) rfl (by simp) rfl (fun N => ?_)
  repeat' (first | (with_reducible first | refine then_normal ?_ | refine then_ret ?_ | refine then_exit ?_ | refine block_normal ?_ | refine block_ret ?_) | ((with_reducible show blockQ _ _ _ _); first | refine block_exit ?_ | refine block_exit_ne rfl ?_) | ((with_reducible show AWP _ _ _ _ _); first | (with_reducible first | refine AWP.seq ?_ | refine AWP.block ?_ | refine AWP.region ?_ | refine AWP.ret ?_ | refine AWP.exit ?_ | refine AWP.skip ?_) | refine AWP.drawn rfl (by kernel_rfl) ?_ | refine AWP.cond rfl ?_ ?_) | with_reducible refine ev_nil ?_ | ((first | ((with_reducible show evOps _ _ _ _ _ _); (first | refine ev_step rfl ?_ | refine ev_undef rfl rfl rfl ?_); intro K hK) | ((with_reducible show EvOpen _ _ _ _ _ _ _); refine ev_open ?_; intro K hK) | ((with_reducible show SkOpen _ _ _ _ _ _ _); refine sk_open ?_; intro K hK) | ((with_reducible show callK _ _ _ _ _ _ _ _); first  | (refine call_safe ( genSplit_fn s hs) (Nat.le_of_ble_eq_true rfl) (by repeat' (first | exact trivial | refine ⟨fun _ _ => ⟨_, rfl⟩, ?_⟩)) ?_))); simp only [evOp, oldZ, evQ, evB, capsK, dynK, tabV, bytesK, eqStK, vInt, binK, withS, opd, kput, putS, upd, lookup, skipOp, argsK, loadOwn, bringIn, bring, Res.list, Res.slot, slotsOf, InK_i64, appendK, srcK, growK, storeK, frz, storeV, setBlk, makeK, newBlk, boxV, allocK, buildK, partsK, buildSliceK, plSlice, cutK, boundK, V.one, Value.oneCell', List.set_cons_zero, List.set_cons_succ, sz_ints, c_int, ei_ints, ea_ints, u_bool, bints, u_int, sz_strs, c_string, ei_strs, ea_strs, u_string, c_ints, sz_terms, ei_terms, ea_terms, c_term, fi0, fi1, fi2, z_term, pl_term, is_term, bs_bytes, ei_bytes, ea_bytes, sz_bytes, c_u8, u_u8, bstrs, brows, tf_0, tf_1, tf_2, tf_00, tf_01, tf_02, t3_0, t3_1, t3_2, bterms, retCell, retCell.cellOk, Nat.zero_le, lenB_is, byteI_is, InK_u8, del, List.getElem?_cons_zero, List.getElem?_cons_succ, Option.bind_some, List.reverse_cons, List.reverse_nil, List.nil_append, List.cons_append, List.length_cons, List.length_nil, Nat.reduceEqDiff, Nat.reduceAdd, Nat.reduceLT, Nat.reduceLeDiff, Nat.reduceMul, Nat.mul_one, Nat.one_mul, Nat.zero_mul, Nat.add_zero, Nat.zero_add, Nat.sub_zero, Nat.mod_one, Nat.not_lt_zero, List.getD_cons_zero, ↓reduceIte, if_true, if_false, eq_self, true_and, and_true, Bool.not_true, Bool.not_false, Bool.true_eq_false, Bool.false_eq_true, false_implies, forall_const, implies_true, Int.toNat_natCast, Int.toNat_zero, Int.toNat_one, Option.isSome_some]) | refine ev_guard rfl rfl rfl ?_ ?_ | ((with_reducible show retQ _ _ _ _); simp only [retQ, retOk, getL, lookup, Option.map_some, fitsL, fits, ND, srcs, Res.list, VE, List.getElem?_cons_zero, List.getElem?_cons_succ, Value.bool.injEq, Value.int.injEq, Nat.reduceEqDiff, ↓reduceIte, and_true, true_and]) | (with_reducible refine hK _ ?_; clear hK K) | (with_reducible refine And.intro ?_ ?_) | (with_reducible intro hc; try simp only [decide_eq_true_eq, decide_eq_false_iff_not, beq_iff_eq, beq_eq_false_iff_ne, bne_iff_ne, bne_eq_false_iff_eq, Bool.not_eq_true', Bool.not_eq_false', Bool.not_true, Bool.not_false, Int.not_lt, Int.not_le, gt_iff_lt, ge_iff_le, ne_eq, Decidable.not_not, reduceCtorEq, inB_true, inB_false, finB_true, finB_false, not_true_eq_false, eqB_refl, Bool.true_eq_false] at hc) | omega)
  all_goals first
    | (exfalso; omega)
    | exact ⟨_, rfl, BE.rfl' _⟩
    | (simp; done)
    | trace_state

/-- Pieces read so far, with the rest: what l1Split keeps. -/
def nlDone (s : ByteArray) (i o : Nat) (out : List ByteArray) : Prop := o ≤ i ∧ i ≤ lenB s ∧ out.length ≤ i ∧ nlS s = out ++ (splitA (((bytesOf s).drop o).take (i - o)) ((bytesOf s).drop i)).map fun x => ⟨x.toArray⟩
theorem nlDone.zero (s : ByteArray) : nlDone s 0 0 [] := ⟨Nat.le_refl _, Nat.zero_le _, Nat.le_refl _, by
  show nlS s = [] ++ (splitA (((bytesOf s).drop 0).take 0) ((bytesOf s).drop 0)).map _
  rw [List.take_zero, List.drop_zero, splitA_nil]; rfl⟩
theorem drop_at {s : ByteArray} {i : Nat} (hi : i < lenB s) : (bytesOf s).drop i = (bytesOf s).getD i 0 :: (bytesOf s).drop (i + 1) := by
  have hi' : i < (bytesOf s).length := hi
  rw [List.drop_eq_getElem_cons hi', List.getD, List.getElem?_eq_getElem hi']; rfl
theorem nlDone.hit {s : ByteArray} {i o : Nat} {out : List ByteArray} (h : nlDone s i o out) (hi : i < lenB s) (hc : (bytesOf s).getD i 0 = 10) : nlDone s (i + 1) (i + 1) (out ++ [⟨(((bytesOf s).drop o).take (i - o)).toArray⟩]) := by
  obtain ⟨h1, h2, h3, h4⟩ := h
  refine ⟨Nat.le_refl _, hi, by simp; omega, ?_⟩
  rw [h4, drop_at hi, hc, splitA_nl, Nat.sub_self, List.take_zero, splitA_nil]
  simp
theorem nlDone.miss {s : ByteArray} {i o : Nat} {out : List ByteArray} (h : nlDone s i o out) (hi : i < lenB s) (hc : (bytesOf s).getD i 0 ≠ 10) : nlDone s (i + 1) o out := by
  obtain ⟨h1, h2, h3, h4⟩ := h
  refine ⟨by omega, hi, by omega, ?_⟩
  rw [h4, drop_at hi, splitA_step hc]
  have e : ((bytesOf s).drop o).take (i + 1 - o) = ((bytesOf s).drop o).take (i - o) ++ [(bytesOf s).getD i 0] := by
    have hl : i - o < ((bytesOf s).drop o).length := by rw [List.length_drop]; have : i < (bytesOf s).length := hi; omega
    rw [show i + 1 - o = (i - o) + 1 by omega, List.take_add_one, List.getElem?_drop, show o + (i - o) = i by omega, List.getD, List.getElem?_eq_getElem (show i < (bytesOf s).length from hi)]
    rfl
  rw [e]
theorem nlDone.last {s : ByteArray} {o : Nat} {out : List ByteArray} (h : nlDone s (lenB s) o out) : nlS s = out ++ [⟨(((bytesOf s).drop o).take (lenB s - o)).toArray⟩] := by
  obtain ⟨h1, h2, h3, h4⟩ := h
  rw [h4, show (bytesOf s).drop (lenB s) = [] from List.drop_length, splitA_end]; rfl

theorem app_be {e : TypeId} {out : List ByteArray} {p : ByteArray} {z : V} : BE ⟨e, out.length + 1, fun j => if j < out.length then vs (stAt out j) else if j - out.length = 0 then vs p else z⟩ ⟨e, (out ++ [p]).length, fun j => vs (stAt (out ++ [p]) j)⟩ := by
  refine ⟨rfl, by simp, fun j hj => VE.of_eq ?_⟩
  have hj : j < (out ++ [p]).length := hj
  rw [List.length_append, List.length_singleton] at hj
  show (if j < out.length then vs (stAt out j) else if j - out.length = 0 then vs p else z) = vs (stAt (out ++ [p]) j)
  by_cases h : j < out.length
  · rw [if_pos h]
    have : stAt (out ++ [p]) j = stAt out j := by unfold stAt; rw [List.getD, List.getElem?_append_left h]; rfl
    rw [this]
  · obtain rfl : j = out.length := by omega
    have : stAt (out ++ [p]) out.length = p := by unfold stAt; simp [List.getD]
    rw [if_neg h, if_pos (by omega), this]

set_option maxHeartbeats 1000000 in
theorem l1Split_fn (s : ByteArray) (hs : s.size ≤ 2147483648) : Fn Tryd.prog 45 [vs s, vu 10] (.one (.fr 1 (nlS s).length (bstrs (nlS s)))) := by
  have hsz := lenB_size s
  refine Fn.of_body Tryd.call45 Tryd.func45 rfl Tryd.ntmps45 (ts := [4]) rfl (by simp) rfl (fun N => ?_)
  repeat' (first | (with_reducible first | refine then_normal ?_ | refine then_ret ?_ | refine then_exit ?_ | refine block_normal ?_ | refine block_ret ?_) | ((with_reducible show blockQ _ _ _ _); first | refine block_exit ?_ | refine block_exit_ne rfl ?_) | ((with_reducible show AWP _ _ _ _ _); first | (with_reducible first | refine AWP.seq ?_ | refine AWP.block ?_ | refine AWP.region ?_ | refine AWP.ret ?_ | refine AWP.exit ?_ | refine AWP.skip ?_) | refine AWP.drawn rfl (by kernel_rfl) ?_ | refine AWP.cond rfl ?_ ?_) | with_reducible refine ev_nil ?_ | ((first | ((with_reducible show evOps _ _ _ _ _ _); (first | refine ev_step rfl ?_ | refine ev_undef rfl rfl rfl ?_); intro K hK) | ((with_reducible show EvOpen _ _ _ _ _ _ _); refine ev_open ?_; intro K hK) | ((with_reducible show SkOpen _ _ _ _ _ _ _); refine sk_open ?_; intro K hK) | ((with_reducible show callK _ _ _ _ _ _ _ _); first | fail)); simp only [evOp, oldZ, evQ, evB, capsK, dynK, tabV, bytesK, eqStK, vInt, binK, withS, opd, kput, putS, upd, lookup, skipOp, argsK, loadOwn, bringIn, bring, Res.list, Res.slot, slotsOf, InK_i64, appendK, srcK, growK, storeK, frz, storeV, setBlk, makeK, newBlk, boxV, allocK, buildK, partsK, buildSliceK, plSlice, cutK, boundK, V.one, Value.oneCell', List.set_cons_zero, List.set_cons_succ, sz_ints, c_int, ei_ints, ea_ints, u_bool, bints, u_int, sz_strs, c_string, ei_strs, ea_strs, u_string, c_ints, sz_terms, ei_terms, ea_terms, c_term, fi0, fi1, fi2, z_term, pl_term, is_term, bs_bytes, ei_bytes, ea_bytes, sz_bytes, c_u8, u_u8, bstrs, brows, tf_0, tf_1, tf_2, tf_00, tf_01, tf_02, t3_0, t3_1, t3_2, bterms, retCell, retCell.cellOk, Nat.zero_le, lenB_is, byteI_is, InK_u8, del, List.getElem?_cons_zero, List.getElem?_cons_succ, Option.bind_some, List.reverse_cons, List.reverse_nil, List.nil_append, List.cons_append, List.length_cons, List.length_nil, Nat.reduceEqDiff, Nat.reduceAdd, Nat.reduceLT, Nat.reduceLeDiff, Nat.reduceMul, Nat.mul_one, Nat.one_mul, Nat.zero_mul, Nat.add_zero, Nat.zero_add, Nat.sub_zero, Nat.mod_one, Nat.not_lt_zero, List.getD_cons_zero, ↓reduceIte, if_true, if_false, eq_self, true_and, and_true, Bool.not_true, Bool.not_false, Bool.true_eq_false, Bool.false_eq_true, false_implies, forall_const, implies_true, Int.toNat_natCast, Int.toNat_zero, Int.toNat_one, Option.isSome_some]) | refine ev_guard rfl rfl rfl ?_ ?_ | ((with_reducible show retQ _ _ _ _); simp only [retQ, retOk, getL, lookup, Option.map_some, fitsL, fits, ND, srcs, Res.list, VE, List.getElem?_cons_zero, List.getElem?_cons_succ, Value.bool.injEq, Value.int.injEq, Nat.reduceEqDiff, ↓reduceIte, and_true, true_and]) | (with_reducible refine hK _ ?_; clear hK K) | (with_reducible refine And.intro ?_ ?_) | (with_reducible intro hc; try simp only [decide_eq_true_eq, decide_eq_false_iff_not, beq_iff_eq, beq_eq_false_iff_ne, bne_iff_ne, bne_eq_false_iff_eq, Bool.not_eq_true', Bool.not_eq_false', Bool.not_true, Bool.not_false, Int.not_lt, Int.not_le, gt_iff_lt, ge_iff_le, ne_eq, Decidable.not_not, reduceCtorEq, inB_true, inB_false, finB_true, finB_false, not_true_eq_false, eqB_refl, Bool.true_eq_false] at hc) | omega)
  all_goals try (exfalso; omega; done)
  refine AWP.virtual 5 9 1 rfl ?_
  refine AWP.loop_entR [0] (fun x : Nat × Nat × List ByteArray => ⟨[(0, .one (.pv (vs s))), (1, sc (.int .u8 10)), (5, .one (.own 0 1 0 x.2.2.length)), (6, sc (.int .i64 x.2.1)), (7, sc (.int .i64 x.1))], [some ⟨9, x.2.2.length, fun j => vs (stAt x.2.2 j)⟩], 34⟩)
    (fun x => nlDone s x.1 x.2.1 x.2.2) (fun x => lenB s - x.1) (0, 0, []) (nlDone.zero s) (by simp [EntR, EntSR, EntHR, SlR, VE, lookup, BE, upd, sc, VE.rfl']) ?_
  rintro ⟨i, o, out⟩ hD
  have hD : nlDone s i o out := hD
  obtain ⟨d1, d2, d3, d4⟩ := id hD
  by_cases hi : i < lenB s
  · by_cases hC : (bytesOf s).getD i 0 = 10
    · have hb : byteI s i = 10 := by unfold byteI; rw [hC]; rfl
      repeat' (first | (with_reducible first | refine then_normal ?_ | refine then_ret ?_ | refine then_exit ?_ | refine block_normal ?_ | refine block_ret ?_) | ((with_reducible show blockQ _ _ _ _); first | refine block_exit ?_ | refine block_exit_ne rfl ?_) | ((with_reducible show AWP _ _ _ _ _); first | (with_reducible first | refine AWP.seq ?_ | refine AWP.block ?_ | refine AWP.region ?_ | refine AWP.ret ?_ | refine AWP.exit ?_ | refine AWP.skip ?_) | refine AWP.drawn rfl (by kernel_rfl) ?_ | refine AWP.cond rfl ?_ ?_) | with_reducible refine ev_nil ?_ | ((first | ((with_reducible show evOps _ _ _ _ _ _); (first | refine ev_step rfl ?_ | refine ev_undef rfl rfl rfl ?_); intro K hK) | ((with_reducible show EvOpen _ _ _ _ _ _ _); refine ev_open ?_; intro K hK) | ((with_reducible show SkOpen _ _ _ _ _ _ _); refine sk_open ?_; intro K hK) | ((with_reducible show callK _ _ _ _ _ _ _ _); first | fail)); simp only [evOp, oldZ, evQ, evB, capsK, dynK, tabV, bytesK, eqStK, vInt, binK, withS, opd, kput, putS, upd, lookup, skipOp, argsK, loadOwn, bringIn, bring, Res.list, Res.slot, slotsOf, InK_i64, appendK, srcK, growK, storeK, frz, storeV, setBlk, makeK, newBlk, boxV, allocK, buildK, partsK, buildSliceK, plSlice, cutK, boundK, V.one, Value.oneCell', List.set_cons_zero, List.set_cons_succ, sz_ints, c_int, ei_ints, ea_ints, u_bool, bints, u_int, sz_strs, c_string, ei_strs, ea_strs, u_string, c_ints, sz_terms, ei_terms, ea_terms, c_term, fi0, fi1, fi2, z_term, pl_term, is_term, bs_bytes, ei_bytes, ea_bytes, sz_bytes, c_u8, u_u8, bstrs, brows, tf_0, tf_1, tf_2, tf_00, tf_01, tf_02, t3_0, t3_1, t3_2, bterms, retCell, retCell.cellOk, Nat.zero_le, lenB_is, byteI_is, InK_u8, del, List.getElem?_cons_zero, List.getElem?_cons_succ, Option.bind_some, List.reverse_cons, List.reverse_nil, List.nil_append, List.cons_append, List.length_cons, List.length_nil, Nat.reduceEqDiff, Nat.reduceAdd, Nat.reduceLT, Nat.reduceLeDiff, Nat.reduceMul, Nat.mul_one, Nat.one_mul, Nat.zero_mul, Nat.add_zero, Nat.zero_add, Nat.sub_zero, Nat.mod_one, Nat.not_lt_zero, List.getD_cons_zero, ↓reduceIte, if_true, if_false, eq_self, true_and, and_true, Bool.not_true, Bool.not_false, Bool.true_eq_false, Bool.false_eq_true, false_implies, forall_const, implies_true, Int.toNat_natCast, Int.toNat_zero, Int.toNat_one, Option.isSome_some]) | refine ev_guard rfl rfl rfl ?_ ?_ | ((with_reducible show retQ _ _ _ _); simp only [retQ, retOk, getL, lookup, Option.map_some, fitsL, fits, ND, srcs, Res.list, VE, List.getElem?_cons_zero, List.getElem?_cons_succ, Value.bool.injEq, Value.int.injEq, Nat.reduceEqDiff, ↓reduceIte, and_true, true_and]) | (with_reducible refine hK _ ?_; clear hK K) | (with_reducible refine And.intro ?_ ?_) | (with_reducible intro hc; try simp only [decide_eq_true_eq, decide_eq_false_iff_not, beq_iff_eq, beq_eq_false_iff_ne, bne_iff_ne, bne_eq_false_iff_eq, Bool.not_eq_true', Bool.not_eq_false', Bool.not_true, Bool.not_false, Int.not_lt, Int.not_le, gt_iff_lt, ge_iff_le, ne_eq, Decidable.not_not, reduceCtorEq, inB_true, inB_false, finB_true, finB_false, not_true_eq_false, eqB_refl, Bool.true_eq_false] at hc) | omega)
      all_goals first
        | (exfalso; omega)
        | (rename_i q; obtain rfl : q = 0 := (by omega); rfl)
        | skip
      refine ⟨(i + 1, i + 1, out ++ [⟨(((bytesOf s).drop o).take (i - o)).toArray⟩]), hD.hit hi hC, by show lenB s - (i + 1) < lenB s - i; omega, [2], rfl, by decide, ?_, ?_, trivial⟩
      · simp [EntSR, SlR, VE, lookup, sc, VE.rfl']
      · show BE _ _
        exact app_be (z := vs ByteArray.empty)
    · have hb : byteI s i ≠ 10 := fun e => hC (UInt8.toNat_inj.1 (by unfold byteI at e; show _ = 10; omega))
      repeat' (first | (with_reducible first | refine then_normal ?_ | refine then_ret ?_ | refine then_exit ?_ | refine block_normal ?_ | refine block_ret ?_) | ((with_reducible show blockQ _ _ _ _); first | refine block_exit ?_ | refine block_exit_ne rfl ?_) | ((with_reducible show AWP _ _ _ _ _); first | (with_reducible first | refine AWP.seq ?_ | refine AWP.block ?_ | refine AWP.region ?_ | refine AWP.ret ?_ | refine AWP.exit ?_ | refine AWP.skip ?_) | refine AWP.drawn rfl (by kernel_rfl) ?_ | refine AWP.cond rfl ?_ ?_) | with_reducible refine ev_nil ?_ | ((first | ((with_reducible show evOps _ _ _ _ _ _); (first | refine ev_step rfl ?_ | refine ev_undef rfl rfl rfl ?_); intro K hK) | ((with_reducible show EvOpen _ _ _ _ _ _ _); refine ev_open ?_; intro K hK) | ((with_reducible show SkOpen _ _ _ _ _ _ _); refine sk_open ?_; intro K hK) | ((with_reducible show callK _ _ _ _ _ _ _ _); first | fail)); simp only [evOp, oldZ, evQ, evB, capsK, dynK, tabV, bytesK, eqStK, vInt, binK, withS, opd, kput, putS, upd, lookup, skipOp, argsK, loadOwn, bringIn, bring, Res.list, Res.slot, slotsOf, InK_i64, appendK, srcK, growK, storeK, frz, storeV, setBlk, makeK, newBlk, boxV, allocK, buildK, partsK, buildSliceK, plSlice, cutK, boundK, V.one, Value.oneCell', List.set_cons_zero, List.set_cons_succ, sz_ints, c_int, ei_ints, ea_ints, u_bool, bints, u_int, sz_strs, c_string, ei_strs, ea_strs, u_string, c_ints, sz_terms, ei_terms, ea_terms, c_term, fi0, fi1, fi2, z_term, pl_term, is_term, bs_bytes, ei_bytes, ea_bytes, sz_bytes, c_u8, u_u8, bstrs, brows, tf_0, tf_1, tf_2, tf_00, tf_01, tf_02, t3_0, t3_1, t3_2, bterms, retCell, retCell.cellOk, Nat.zero_le, lenB_is, byteI_is, InK_u8, del, List.getElem?_cons_zero, List.getElem?_cons_succ, Option.bind_some, List.reverse_cons, List.reverse_nil, List.nil_append, List.cons_append, List.length_cons, List.length_nil, Nat.reduceEqDiff, Nat.reduceAdd, Nat.reduceLT, Nat.reduceLeDiff, Nat.reduceMul, Nat.mul_one, Nat.one_mul, Nat.zero_mul, Nat.add_zero, Nat.zero_add, Nat.sub_zero, Nat.mod_one, Nat.not_lt_zero, List.getD_cons_zero, ↓reduceIte, if_true, if_false, eq_self, true_and, and_true, Bool.not_true, Bool.not_false, Bool.true_eq_false, Bool.false_eq_true, false_implies, forall_const, implies_true, Int.toNat_natCast, Int.toNat_zero, Int.toNat_one, Option.isSome_some]) | refine ev_guard rfl rfl rfl ?_ ?_ | ((with_reducible show retQ _ _ _ _); simp only [retQ, retOk, getL, lookup, Option.map_some, fitsL, fits, ND, srcs, Res.list, VE, List.getElem?_cons_zero, List.getElem?_cons_succ, Value.bool.injEq, Value.int.injEq, Nat.reduceEqDiff, ↓reduceIte, and_true, true_and]) | (with_reducible refine hK _ ?_; clear hK K) | (with_reducible refine And.intro ?_ ?_) | (with_reducible intro hc; try simp only [decide_eq_true_eq, decide_eq_false_iff_not, beq_iff_eq, beq_eq_false_iff_ne, bne_iff_ne, bne_eq_false_iff_eq, Bool.not_eq_true', Bool.not_eq_false', Bool.not_true, Bool.not_false, Int.not_lt, Int.not_le, gt_iff_lt, ge_iff_le, ne_eq, Decidable.not_not, reduceCtorEq, inB_true, inB_false, finB_true, finB_false, not_true_eq_false, eqB_refl, Bool.true_eq_false] at hc) | omega)
      all_goals first
        | (exfalso; omega)
        | (exact ⟨(i + 1, o, out), hD.miss hi hC, by show lenB s - (i + 1) < lenB s - i; omega, [0], rfl, by decide, by simp [EntSR, SlR, VE, lookup, sc, VE.rfl'], BE.rfl' _, trivial⟩)
        | trace_state
  · obtain rfl : i = lenB s := by omega
    rw [hD.last]
    repeat' (first | (with_reducible first | refine then_normal ?_ | refine then_ret ?_ | refine then_exit ?_ | refine block_normal ?_ | refine block_ret ?_) | ((with_reducible show blockQ _ _ _ _); first | refine block_exit ?_ | refine block_exit_ne rfl ?_) | ((with_reducible show AWP _ _ _ _ _); first | (with_reducible first | refine AWP.seq ?_ | refine AWP.block ?_ | refine AWP.region ?_ | refine AWP.ret ?_ | refine AWP.exit ?_ | refine AWP.skip ?_) | refine AWP.drawn rfl (by kernel_rfl) ?_ | refine AWP.cond rfl ?_ ?_) | with_reducible refine ev_nil ?_ | ((first | ((with_reducible show evOps _ _ _ _ _ _); (first | refine ev_step rfl ?_ | refine ev_undef rfl rfl rfl ?_); intro K hK) | ((with_reducible show EvOpen _ _ _ _ _ _ _); refine ev_open ?_; intro K hK) | ((with_reducible show SkOpen _ _ _ _ _ _ _); refine sk_open ?_; intro K hK) | ((with_reducible show callK _ _ _ _ _ _ _ _); first | fail)); simp only [evOp, oldZ, evQ, evB, capsK, dynK, tabV, bytesK, eqStK, vInt, binK, withS, opd, kput, putS, upd, lookup, skipOp, argsK, loadOwn, bringIn, bring, Res.list, Res.slot, slotsOf, InK_i64, appendK, srcK, growK, storeK, frz, storeV, setBlk, makeK, newBlk, boxV, allocK, buildK, partsK, buildSliceK, plSlice, cutK, boundK, V.one, Value.oneCell', List.set_cons_zero, List.set_cons_succ, sz_ints, c_int, ei_ints, ea_ints, u_bool, bints, u_int, sz_strs, c_string, ei_strs, ea_strs, u_string, c_ints, sz_terms, ei_terms, ea_terms, c_term, fi0, fi1, fi2, z_term, pl_term, is_term, bs_bytes, ei_bytes, ea_bytes, sz_bytes, c_u8, u_u8, bstrs, brows, tf_0, tf_1, tf_2, tf_00, tf_01, tf_02, t3_0, t3_1, t3_2, bterms, retCell, retCell.cellOk, Nat.zero_le, lenB_is, byteI_is, InK_u8, del, List.getElem?_cons_zero, List.getElem?_cons_succ, Option.bind_some, List.reverse_cons, List.reverse_nil, List.nil_append, List.cons_append, List.length_cons, List.length_nil, Nat.reduceEqDiff, Nat.reduceAdd, Nat.reduceLT, Nat.reduceLeDiff, Nat.reduceMul, Nat.mul_one, Nat.one_mul, Nat.zero_mul, Nat.add_zero, Nat.zero_add, Nat.sub_zero, Nat.mod_one, Nat.not_lt_zero, List.getD_cons_zero, ↓reduceIte, if_true, if_false, eq_self, true_and, and_true, Bool.not_true, Bool.not_false, Bool.true_eq_false, Bool.false_eq_true, false_implies, forall_const, implies_true, Int.toNat_natCast, Int.toNat_zero, Int.toNat_one, Option.isSome_some]) | refine ev_guard rfl rfl rfl ?_ ?_ | ((with_reducible show retQ _ _ _ _); simp only [retQ, retOk, getL, lookup, Option.map_some, fitsL, fits, ND, srcs, Res.list, VE, List.getElem?_cons_zero, List.getElem?_cons_succ, Value.bool.injEq, Value.int.injEq, Nat.reduceEqDiff, ↓reduceIte, and_true, true_and]) | (with_reducible refine hK _ ?_; clear hK K) | (with_reducible refine And.intro ?_ ?_) | (with_reducible intro hc; try simp only [decide_eq_true_eq, decide_eq_false_iff_not, beq_iff_eq, beq_eq_false_iff_ne, bne_iff_ne, bne_eq_false_iff_eq, Bool.not_eq_true', Bool.not_eq_false', Bool.not_true, Bool.not_false, Int.not_lt, Int.not_le, gt_iff_lt, ge_iff_le, ne_eq, Decidable.not_not, reduceCtorEq, inB_true, inB_false, finB_true, finB_false, not_true_eq_false, eqB_refl, Bool.true_eq_false] at hc) | omega)
    all_goals first
      | (exfalso; omega)
      | (rename_i q; obtain rfl : q = 0 := (by omega); rfl)
      | exact ⟨_, rfl, app_be⟩
      | (simp; done)
      | trace_state
end Go.Proofs.YteapdildbfimnaaDoor
namespace Go.Proofs.YteapdildbfimnaaDoor
open Go.RowKit Go.Proofs
set_option linter.unusedSimpArgs false
set_option linter.unusedVariables false

theorem nlS_last (s : ByteArray) : stAt (nlS s) ((nlS s).length - 1) = ByteArray.empty ↔ (lenB s = 0 ∨ byteI s (lenB s - 1) = 10) := by
  have h := splitL_last (bytesOf s)
  have e1 : (nlS s).length - 1 = (bytesOf s).count 10 := by rw [nlS_len]; rfl
  have hlt : (bytesOf s).count 10 < (splitL (bytesOf s)).length := by rw [splitL_len]; omega
  have e2 : stAt (nlS s) ((nlS s).length - 1) = ⟨((splitL (bytesOf s)).getD ((bytesOf s).count 10) []).toArray⟩ := by
    rw [e1]
    unfold stAt nlS
    rw [List.getD, List.getElem?_map, List.getD]
    show Option.getD (Option.map _ (splitL (bytesOf s))[(bytesOf s).count 10]?) _ = _
    rw [List.getElem?_eq_getElem hlt]; rfl
  have e3 : (⟨((splitL (bytesOf s)).getD ((bytesOf s).count 10) []).toArray⟩ : ByteArray) = ByteArray.empty ↔ (splitL (bytesOf s)).getD ((bytesOf s).count 10) [] = [] := by
    constructor
    · intro e
      have := congrArg (fun x : ByteArray => x.data.toList) e
      simpa using this
    · intro e; rw [e]; rfl
  rw [e2, e3, h]
  have e4 : bytesOf s = [] ↔ lenB s = 0 := List.length_eq_zero_iff.symm
  have e5 : (bytesOf s).getD ((bytesOf s).length - 1) 0 = 10 ↔ byteI s (lenB s - 1) = 10 := by
    unfold byteI
    constructor
    · intro e; show (((bytesOf s).getD ((bytesOf s).length - 1) 0).toNat : Int) = 10; rw [e]; rfl
    · intro e
      have e : (((bytesOf s).getD ((bytesOf s).length - 1) 0).toNat : Int) = 10 := e
      exact UInt8.toNat_inj.1 (by show _ = 10; omega)
  rw [e4, e5]

theorem nlS_le (s : ByteArray) : 1 ≤ (nlS s).length ∧ (nlS s).length ≤ s.size + 1 := by
  have := List.count_le_length (a := 10) (l := s.data.toList)
  have e : s.data.toList.length = s.size := Array.length_toList
  rw [nlS_len]; omega
theorem bytes_nil (s : ByteArray) : bytesOf s = bytesOf ⟨#[]⟩ ↔ lenB s = 0 := List.length_eq_zero_iff.symm
theorem bytes_empty (s : ByteArray) : bytesOf s = bytesOf ⟨#[]⟩ ↔ s = ByteArray.empty := by
  rw [bytes_nil, lenB_size]
  constructor
  · intro h
    apply ByteArray.ext
    apply Array.ext
    · exact h
    · intro i h1 h2; exact absurd h1 (by have : s.data.size = s.size := rfl; omega)
  · rintro rfl; rfl

end Go.Proofs.YteapdildbfimnaaDoor
