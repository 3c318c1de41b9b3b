/- Parts of the proof of LawFnCatalogues: contracts of functions, laws of an abstract state, plain facts. No conditions. -/
import Derived.Test.YteapdildbfimnaaGreatDoorB04
import Derived.Shelf.SlSortCmp.QuietGrown
import Derived.Sort.Statements
namespace Go.Proofs.YteapdildbfimnaaGreatDoor
open Go.RowKit Go.Proofs
set_option linter.unusedSimpArgs false
set_option linter.unusedVariables false

theorem below_grow (w : World) (k : Nat) (os : Array Obj) : Below w.heap.size w (Go.Sort.grow (w.drewN k) os) := by
  refine ⟨rfl, rfl, rfl, ?_, fun b hb => ?_⟩
  · rw [Go.Sort.size_grow]; exact Nat.le_add_right _ _
  · show (w.heap ++ os)[b]? = w.heap[b]?
    rw [Array.getElem?_append_left hb]

theorem itoa_fn (n : Int) (h : -9223372036854775808 ≤ n ∧ n ≤ 9223372036854775807) : Fn Tryz.prog 56 [vi n] (.one (.pv (vs (itoaB n)))) := by
  refine Fn.of_calls Tryz.call56 fun w S0 us hus => ?_
  match us, hus with
  | [u0], ⟨h0, hg⟩ =>
    obtain rfl : u0 = .int .i64 n := h0
    refine (Tryz.strconv_Itoa n h.1 h.2 w hg).mono ?_
    rintro e w' ⟨rfl, k, os, rfl⟩
    exact ⟨rfl, below_grow w k os⟩

theorem compare_fn (a b : ByteArray) : Fn Tryz.prog 66 [vs a, vs b] (.one (.pv (vi (Lib.compareBytes a.data.toList b.data.toList)))) := by
  refine Fn.of_calls Tryz.call66 fun w S0 us hus => ?_
  match us, hus with
  | [u0, u1], ⟨h0, h1, _⟩ =>
    obtain rfl : u0 = .string a := h0
    obtain rfl : u1 = .string b := h1
    refine (Tryz.strings_Compare a b w).mono ?_
    rintro e w' ⟨rfl, rfl⟩
    exact ⟨rfl, Below.refl _ _⟩

theorem planeText_fn (l : List T3) (hs : Sml l) (hl : l.length ≤ 1099511627776) : Fn Tryz.prog 40 [terms l] (.one (.pv (vs (tx l)))) := by
  refine Fn.of_body Tryz.call40 Tryz.func40 rfl Tryz.ntmps40 (ts := [2]) rfl (by simp) rfl (fun N => ?_)
  repeat' (first | (with_reducible first | refine then_normal ?_ | refine then_ret ?_ | refine then_exit ?_ | refine block_normal ?_ | refine block_ret ?_) | ((with_reducible show blockQ _ _ _ _); first | refine block_exit ?_ | refine block_exit_ne rfl ?_) | ((with_reducible show AWP _ _ _ _ _); first | (with_reducible first | refine AWP.seq ?_ | refine AWP.block ?_ | refine AWP.region ?_ | refine AWP.ret ?_ | refine AWP.exit ?_ | refine AWP.skip ?_) | refine AWP.drawn rfl (by kernel_rfl) ?_ | refine AWP.cond rfl ?_ ?_) | with_reducible refine ev_nil ?_ | ((first | ((with_reducible show evOps _ _ _ _ _ _); (first | refine ev_step rfl ?_ | refine ev_undef rfl rfl rfl ?_); intro K hK) | ((with_reducible show EvOpen _ _ _ _ _ _ _); refine ev_open ?_; intro K hK) | ((with_reducible show SkOpen _ _ _ _ _ _ _); refine sk_open ?_; intro K hK) | ((with_reducible show callK _ _ _ _ _ _ _ _); first | fail)); simp only [evOp, evQ, evB, withS, opd, kput, putS, upd, lookup, slotsOf, sz_terms, Nat.reduceEqDiff, Nat.reduceLT, ↓reduceIte, eq_self, true_and, Option.isSome_some]) | refine ev_guard rfl rfl rfl ?_ ?_ | ((with_reducible show retQ _ _ _ _); simp only [eq_self]) | (with_reducible refine hK _ ?_; clear hK K) | (with_reducible refine And.intro ?_ ?_) | (with_reducible intro hc; try simp only [eq_self] at hc) | omega)
  refine AWP.loop_entR [] (fun k : Nat => ⟨[(3, .one (.pv (vs (txK l k)))), (6, .one (.pv (terms l))), (7, sc (.int .i64 l.length)), (8, sc (.int .i64 k))], [], 30⟩)
    (fun k => k ≤ l.length) (fun k => l.length - k) 0 (by omega) (by simp [EntR, EntSR, EntHR, SlR, VE, VE.rfl', lookup, BE, txK, upd, sc]) ?_
  intro k hk
  by_cases hkl : k < l.length
  · have h1 := hs k hkl
    have h2 := txK_size hs k hk
    have h3 := ttx_size h1
    have e : txK l (k + 1) = txK l k ++ ttx (tAt l k) := rfl
    unfold ttx at h3 e
    simp only [ByteArray.size_append] at h3
    have e1 : (⟨#[58]⟩ : ByteArray).size = 1 := rfl
    have e2 : (⟨#[44]⟩ : ByteArray).size = 1 := rfl
    have e3 : (⟨#[59]⟩ : ByteArray).size = 1 := rfl
    repeat' (first | (with_reducible first | refine then_normal ?_ | refine then_ret ?_ | refine then_exit ?_ | refine block_normal ?_ | refine block_ret ?_) | ((with_reducible show blockQ _ _ _ _); first | refine block_exit ?_ | refine block_exit_ne rfl ?_) | ((with_reducible show AWP _ _ _ _ _); first | (with_reducible first | refine AWP.seq ?_ | refine AWP.block ?_ | refine AWP.region ?_ | refine AWP.ret ?_ | refine AWP.exit ?_ | refine AWP.skip ?_) | refine AWP.drawn rfl (by kernel_rfl) ?_ | refine AWP.cond rfl ?_ ?_) | with_reducible refine ev_nil ?_ | ((first | ((with_reducible show evOps _ _ _ _ _ _); (first | refine ev_step rfl ?_ | refine ev_undef rfl rfl rfl ?_); intro K hK) | ((with_reducible show EvOpen _ _ _ _ _ _ _); refine ev_open ?_; intro K hK) | ((with_reducible show SkOpen _ _ _ _ _ _ _); refine sk_open ?_; intro K hK) | ((with_reducible show callK _ _ _ _ _ _ _ _); first  | (refine call_scalar (itoa_fn (tAt l k).2.2 (by omega)) (Nat.le_of_ble_eq_true rfl) rfl ?_) | (refine call_scalar (itoa_fn (tAt l k).1 (by omega)) (Nat.le_of_ble_eq_true rfl) rfl ?_) | (refine call_scalar (itoa_fn (tAt l k).2.1 (by omega)) (Nat.le_of_ble_eq_true rfl) rfl ?_))); simp only [evOp, evQ, binK, withS, opd, kput, putS, upd, lookup, argsK, loadOwn, bringIn, bring, Res.list, Res.slot, InK_i64, storeK, frz, storeV, setBlk, newBlk, allocK, V.one, Value.oneCell', List.set_cons_zero, c_int, sz_terms, c_term, fi0, fi1, fi2, z_term, tf_0, tf_1, tf_2, Nat.zero_le, List.getElem?_cons_zero, List.reverse_cons, List.reverse_nil, List.nil_append, List.length_cons, List.length_nil, Nat.reduceEqDiff, Nat.reduceAdd, Nat.reduceLT, Nat.reduceLeDiff, Nat.add_zero, Nat.zero_add, Nat.sub_zero, ↓reduceIte, eq_self, true_and, forall_const, implies_true, Int.toNat_natCast]) | refine ev_guard rfl rfl rfl ?_ ?_ | ((with_reducible show retQ _ _ _ _); simp only [retQ, retOk, getL, lookup, Option.map_some, fitsL, fits, ND, srcs, Res.list, VE, Nat.reduceEqDiff, ↓reduceIte, and_true]) | (with_reducible refine hK _ ?_; clear hK K) | (with_reducible refine And.intro ?_ ?_) | (with_reducible intro hc; try simp only [decide_eq_true_eq, decide_eq_false_iff_not, Int.not_lt] at hc) | omega)
    all_goals first
      | (exfalso; omega)
      | omega
      | (simp only [ByteArray.size_append, e1, e2, e3]; omega)
      | (exact ⟨k + 1, by omega, by omega, [], rfl, by decide, by simp [EntSR, SlR, VE, lookup, sc, VE.rfl', e], trivial⟩)
      | trace_state
  · obtain rfl : k = l.length := by omega
    repeat' (first | (with_reducible first | refine then_normal ?_ | refine then_ret ?_ | refine then_exit ?_ | refine block_normal ?_ | refine block_ret ?_) | ((with_reducible show blockQ _ _ _ _); first | refine block_exit ?_ | refine block_exit_ne rfl ?_) | ((with_reducible show AWP _ _ _ _ _); first | (with_reducible first | refine AWP.seq ?_ | refine AWP.block ?_ | refine AWP.region ?_ | refine AWP.ret ?_ | refine AWP.exit ?_ | refine AWP.skip ?_) | refine AWP.drawn rfl (by kernel_rfl) ?_ | refine AWP.cond rfl ?_ ?_) | with_reducible refine ev_nil ?_ | ((first | ((with_reducible show evOps _ _ _ _ _ _); (first | refine ev_step rfl ?_ | refine ev_undef rfl rfl rfl ?_); intro K hK) | ((with_reducible show EvOpen _ _ _ _ _ _ _); refine ev_open ?_; intro K hK) | ((with_reducible show SkOpen _ _ _ _ _ _ _); refine sk_open ?_; intro K hK) | ((with_reducible show callK _ _ _ _ _ _ _ _); first | fail)); simp only [evOp, evQ, binK, withS, opd, kput, putS, upd, lookup, argsK, loadOwn, storeK, frz, storeV, setBlk, newBlk, allocK, V.one, Value.oneCell', List.set_cons_zero, c_int, sz_terms, c_term, fi2, z_term, tf_2, Nat.zero_le, List.getElem?_cons_zero, List.reverse_cons, List.reverse_nil, List.nil_append, List.length_cons, List.length_nil, Nat.reduceEqDiff, Nat.reduceAdd, Nat.reduceLT, Nat.reduceLeDiff, Nat.zero_add, Nat.sub_zero, ↓reduceIte, eq_self, true_and, forall_const, implies_true, Int.toNat_natCast]) | refine ev_guard rfl rfl rfl ?_ ?_ | ((with_reducible show retQ _ _ _ _); simp only [retQ, retOk, getL, lookup, Option.map_some, fitsL, fits, ND, srcs, Res.list, VE, Nat.reduceEqDiff, ↓reduceIte, and_true]) | (with_reducible refine hK _ ?_; clear hK K) | (with_reducible refine And.intro ?_ ?_) | (with_reducible intro hc; try simp only [decide_eq_true_eq, decide_eq_false_iff_not, Int.not_lt] at hc) | omega)
    all_goals first
      | (exfalso; omega)
      | rfl
      | trace_state

theorem compareTexts_fn (a b : List T3) (ha : Sml a) (hb : Sml b) (hla : a.length ≤ 1099511627776) (hlb : b.length ≤ 1099511627776) :
    Fn Tryz.prog 48 [terms a, terms b] (.one (.pv (vi (Lib.compareBytes (tx a).data.toList (tx b).data.toList)))) := by
  refine Fn.of_body Tryz.call48 Tryz.func48 rfl Tryz.ntmps48 (ts := [4]) rfl (by simp) rfl (fun N => ?_)
  repeat' (first | (with_reducible first | refine then_normal ?_ | refine then_ret ?_ | refine then_exit ?_ | refine block_normal ?_ | refine block_ret ?_) | ((with_reducible show blockQ _ _ _ _); first | refine block_exit ?_ | refine block_exit_ne rfl ?_) | ((with_reducible show AWP _ _ _ _ _); first | (with_reducible first | refine AWP.seq ?_ | refine AWP.block ?_ | refine AWP.region ?_ | refine AWP.ret ?_ | refine AWP.exit ?_ | refine AWP.skip ?_) | refine AWP.drawn rfl (by kernel_rfl) ?_ | refine AWP.cond rfl ?_ ?_) | with_reducible refine ev_nil ?_ | ((first | ((with_reducible show evOps _ _ _ _ _ _); (first | refine ev_step rfl ?_ | refine ev_undef rfl rfl rfl ?_); intro K hK) | ((with_reducible show EvOpen _ _ _ _ _ _ _); refine ev_open ?_; intro K hK) | ((with_reducible show SkOpen _ _ _ _ _ _ _); refine sk_open ?_; intro K hK) | ((with_reducible show callK _ _ _ _ _ _ _ _); first  | (refine call_scalar (planeText_fn a ha hla) (Nat.le_of_ble_eq_true rfl) rfl ?_) | (refine call_scalar (planeText_fn b hb hlb) (Nat.le_of_ble_eq_true rfl) rfl ?_) | (refine call_scalar (compare_fn (tx a) (tx b)) (Nat.le_of_ble_eq_true rfl) rfl ?_))); simp only [evOp, evQ, withS, opd, kput, putS, upd, lookup, argsK, bringIn, bring, Res.list, Res.slot, slotsOf, List.reverse_cons, List.reverse_nil, List.nil_append, List.cons_append, Nat.reduceEqDiff, Nat.reduceLT, Nat.zero_add, ↓reduceIte, eq_self, true_and]) | refine ev_guard rfl rfl rfl ?_ ?_ | ((with_reducible show retQ _ _ _ _); simp only [retQ, retOk, getL, lookup, Option.map_some, fitsL, fits, ND, srcs, Res.list, VE, Nat.reduceEqDiff, ↓reduceIte, and_true]) | (with_reducible refine hK _ ?_; clear hK K) | (with_reducible refine And.intro ?_ ?_) | (with_reducible intro hc; try simp only [eq_self] at hc) | omega)
  all_goals trace_state

theorem l1Num_fn (u : Nat) (h : u ≤ 9223372036854775807) : Fn Tryz.prog 57 [vi u] (.one (.pv (vs (decB u)))) := by
  induction u using Nat.strongRecOn with
  | _ u ih =>
    by_cases hu : u < 10
    · refine Fn.of_body Tryz.call57 Tryz.func57 rfl Tryz.ntmps57 (ts := [2]) rfl (by simp) rfl (fun N => ?_)
      repeat' (first | (with_reducible first | refine then_normal ?_ | refine then_ret ?_ | refine then_exit ?_ | refine block_normal ?_ | refine block_ret ?_) | ((with_reducible show blockQ _ _ _ _); first | refine block_exit ?_ | refine block_exit_ne rfl ?_) | ((with_reducible show AWP _ _ _ _ _); first | (with_reducible first | refine AWP.seq ?_ | refine AWP.block ?_ | refine AWP.region ?_ | refine AWP.ret ?_ | refine AWP.exit ?_ | refine AWP.skip ?_) | refine AWP.drawn rfl (by kernel_rfl) ?_ | refine AWP.cond rfl ?_ ?_) | with_reducible refine ev_nil ?_ | ((first | ((with_reducible show evOps _ _ _ _ _ _); (first | refine ev_step rfl ?_ | refine ev_undef rfl rfl rfl ?_); intro K hK) | ((with_reducible show EvOpen _ _ _ _ _ _ _); refine ev_open ?_; intro K hK) | ((with_reducible show SkOpen _ _ _ _ _ _ _); refine sk_open ?_; intro K hK) | ((with_reducible show callK _ _ _ _ _ _ _ _); first | fail)); simp only [evOp, evQ, bytesK, vInt, binK, withS, opd, kput, putS, upd, lookup, argsK, slotsOf, InK_i64, frz, newBlk, partsK, buildSliceK, plSlice, V.one, Value.oneCell', u_int, u_string, bs_bytes, ei_bytes, ea_bytes, u_u8, InK_u8, List.getElem?_cons_zero, List.reverse_cons, List.reverse_nil, List.nil_append, List.length_cons, List.length_nil, Nat.reduceEqDiff, Nat.reduceLT, Nat.reduceLeDiff, Nat.mul_one, Nat.zero_add, Nat.mod_one, List.getD_cons_zero, ↓reduceIte, eq_self, true_and, Bool.false_eq_true, Option.isSome_some]) | refine ev_guard rfl rfl rfl ?_ ?_ | ((with_reducible show retQ _ _ _ _); simp only [retQ, retOk, getL, lookup, Option.map_some, fitsL, fits, ND, srcs, Res.list, VE, Nat.reduceEqDiff, ↓reduceIte, and_true]) | (with_reducible refine hK _ ?_; clear hK K) | (with_reducible refine And.intro ?_ ?_) | (with_reducible intro hc; try simp only [decide_eq_true_eq, decide_eq_false_iff_not, Int.not_lt] at hc) | omega)
      all_goals first
        | (exfalso; omega)
        | omega
        | (rename_i q; obtain rfl : q = 0 := (by omega); rfl)
        | (rename_i q _; obtain rfl : q = 0 := (by omega); rfl)
        | (rw [decB_small hu]; rfl)
        | trace_state
    · have hcon := ih (u / 10) (by omega) (by omega)
      have h1 := decB_size (u / 10)
      have h2 : (strOfNums [48 + ((u % 10 : Nat) : Int)]).size = 1 := rfl
      have e1 : ((u / 10 : Nat) : Int) = (u : Int) / 10 := by omega
      rw [e1] at hcon
      refine Fn.of_body Tryz.call57 Tryz.func57 rfl Tryz.ntmps57 (ts := [2]) rfl (by simp) rfl (fun N => ?_)
      repeat' (first | ((with_reducible show evNd _ _ _ _ _); first | (with_reducible refine nd_done ?_) | (refine nd_take rfl ?_; intro K hK; simp only [evOp, evQ, binK, withS, opd, kput, putS, upd, lookup, InK_i64, Nat.reduceEqDiff, Nat.reduceLT, ↓reduceIte, eq_self, true_and]) | (refine nd_one rfl ?_; intro K hK; simp only [evOp, evQ, bytesK, vInt, opd, kput, putS, upd, lookup, argsK, frz, newBlk, partsK, buildSliceK, plSlice, V.one, Value.oneCell', u_int, u_string, bs_bytes, ei_bytes, ea_bytes, u_u8, InK_u8, List.getElem?_cons_zero, List.reverse_cons, List.reverse_nil, List.nil_append, List.length_cons, List.length_nil, Nat.reduceEqDiff, Nat.reduceLT, Nat.reduceLeDiff, Nat.mul_one, Nat.zero_add, Nat.mod_one, List.getD_cons_zero, ↓reduceIte, eq_self, true_and, Bool.false_eq_true, Option.isSome_some]) | (refine nd_alt rfl ?_ ?_)) | ((with_reducible show NdOpen _ _ _ _ _ _); refine nd_open ?_; intro K hK; simp only [evOp, opd, lookup, argsK, List.reverse_cons, List.reverse_nil, List.nil_append, Nat.reduceEqDiff, ↓reduceIte, eq_self]) | (with_reducible first | refine then_normal ?_ | refine then_ret ?_ | refine then_exit ?_ | refine block_normal ?_ | refine block_ret ?_) | ((with_reducible show blockQ _ _ _ _); first | refine block_exit ?_ | refine block_exit_ne rfl ?_) | ((with_reducible show AWP _ _ _ _ _); first | (refine AWP.drawn_nd (id := 3) (.take 0 (.take 1 (.take 3 (.take 4 (.take 5 (.alt 2 (.one 6 (.one 7 (.one 8 (.take 9 (.take 10 .done))))) (.one 6 (.alt 2 (.one 7 (.one 8 (.take 9 (.take 10 .done)))) (.one 7 (.alt 2 (.one 8 (.take 9 (.take 10 .done))) (.one 8 (.one 2 (.take 9 (.take 10 .done)))))))))))))) rfl (by kernel_rfl) ?_) | (with_reducible first | refine AWP.seq ?_ | refine AWP.block ?_ | refine AWP.region ?_ | refine AWP.ret ?_ | refine AWP.exit ?_ | refine AWP.skip ?_) | refine AWP.drawn rfl (by kernel_rfl) ?_ | refine AWP.cond rfl ?_ ?_) | with_reducible refine ev_nil ?_ | ((first | ((with_reducible show evOps _ _ _ _ _ _); (first | refine ev_step rfl ?_ | refine ev_undef rfl rfl rfl ?_); intro K hK) | ((with_reducible show EvOpen _ _ _ _ _ _ _); refine ev_open ?_; intro K hK) | ((with_reducible show SkOpen _ _ _ _ _ _ _); refine sk_open ?_; intro K hK) | ((with_reducible show callK _ _ _ _ _ _ _ _); first  | (refine call_scalar (hcon) (Nat.le_of_ble_eq_true rfl) rfl ?_))); simp only [evOp, evQ, bytesK, vInt, binK, withS, opd, kput, putS, upd, lookup, bringIn, bring, Res.list, Res.slot, slotsOf, InK_i64, frz, newBlk, partsK, buildSliceK, plSlice, V.one, Value.oneCell', u_int, u_string, bs_bytes, ei_bytes, ea_bytes, u_u8, InK_u8, List.getElem?_cons_zero, List.nil_append, List.length_cons, List.length_nil, Nat.reduceEqDiff, Nat.reduceLT, Nat.reduceLeDiff, Nat.mul_one, Nat.zero_add, Nat.mod_one, List.getD_cons_zero, ↓reduceIte, eq_self, true_and, Bool.false_eq_true, Option.isSome_some]) | refine ev_guard rfl rfl rfl ?_ ?_ | ((with_reducible show retQ _ _ _ _); simp only [retQ, retOk, getL, lookup, Option.map_some, fitsL, fits, ND, srcs, Res.list, VE, Nat.reduceEqDiff, ↓reduceIte, and_true]) | (with_reducible refine hK _ ?_; clear hK K) | (with_reducible refine And.intro ?_ ?_) | (with_reducible intro hc; try simp only [decide_eq_true_eq, decide_eq_false_iff_not, Int.not_lt] at hc) | omega)
      all_goals first
        | (exfalso; omega)
        | omega
        | (rename_i q; obtain rfl : q = 0 := (by omega); rfl)
        | (rename_i q _; obtain rfl : q = 0 := (by omega); rfl)
        | (rw [decB_big hu]; rfl)
        | (show (decB (u / 10)).size + 1 ≤ 9223372036854775807; omega)
        | trace_state

theorem l1Int_fn (n : Int) (h : -1000000000 ≤ n ∧ n ≤ 1000000000) : Fn Tryz.prog 58 [vi n] (.one (.pv (vs (itoaB n)))) := by
  by_cases hn : n < 0
  · have hcon := l1Num_fn (-n).toNat (by omega)
    have h1 := decB_size (-n).toNat
    rw [show (((-n).toNat : Nat) : Int) = -n by omega] at hcon
    have e := itoaB_neg hn
    have e1 : (⟨#[45]⟩ : ByteArray).size = 1 := rfl
    refine Fn.of_body Tryz.call58 Tryz.func58 rfl Tryz.ntmps58 (ts := [2]) rfl (by simp) rfl (fun N => ?_)
    repeat' (first | (with_reducible first | refine then_normal ?_ | refine then_ret ?_ | refine then_exit ?_ | refine block_normal ?_ | refine block_ret ?_) | ((with_reducible show blockQ _ _ _ _); first | refine block_exit ?_ | refine block_exit_ne rfl ?_) | ((with_reducible show AWP _ _ _ _ _); first | (with_reducible first | refine AWP.seq ?_ | refine AWP.block ?_ | refine AWP.region ?_ | refine AWP.ret ?_ | refine AWP.exit ?_ | refine AWP.skip ?_) | refine AWP.drawn rfl (by kernel_rfl) ?_ | refine AWP.cond rfl ?_ ?_) | with_reducible refine ev_nil ?_ | ((first | ((with_reducible show evOps _ _ _ _ _ _); (first | refine ev_step rfl ?_ | refine ev_undef rfl rfl rfl ?_); intro K hK) | ((with_reducible show EvOpen _ _ _ _ _ _ _); refine ev_open ?_; intro K hK) | ((with_reducible show SkOpen _ _ _ _ _ _ _); refine sk_open ?_; intro K hK) | ((with_reducible show callK _ _ _ _ _ _ _ _); first  | (refine call_scalar (hcon) (Nat.le_of_ble_eq_true rfl) rfl ?_))); simp only [evOp, evQ, binK, withS, opd, kput, putS, upd, lookup, argsK, bringIn, bring, Res.list, Res.slot, slotsOf, InK_i64, List.reverse_cons, List.reverse_nil, List.nil_append, Nat.reduceEqDiff, Nat.reduceLT, ↓reduceIte, eq_self, true_and]) | refine ev_guard rfl rfl rfl ?_ ?_ | ((with_reducible show retQ _ _ _ _); simp only [retQ, retOk, getL, lookup, Option.map_some, fitsL, fits, ND, srcs, Res.list, VE, Nat.reduceEqDiff, ↓reduceIte, and_true]) | (with_reducible refine hK _ ?_; clear hK K) | (with_reducible refine And.intro ?_ ?_) | (with_reducible intro hc; try simp only [decide_eq_true_eq, decide_eq_false_iff_not, Int.not_lt] at hc) | omega)
    all_goals first
      | (exfalso; omega)
      | omega
      | (rw [e]; done)
      | trace_state
  · have hcon := l1Num_fn n.toNat (by omega)
    rw [show ((n.toNat : Nat) : Int) = n by omega] at hcon
    have e := itoaB_nonneg (n := n) (by omega)
    rw [← e] at hcon
    refine Fn.of_body Tryz.call58 Tryz.func58 rfl Tryz.ntmps58 (ts := [2]) rfl (by simp) rfl (fun N => ?_)
    repeat' (first | (with_reducible first | refine then_normal ?_ | refine then_ret ?_ | refine then_exit ?_ | refine block_normal ?_ | refine block_ret ?_) | ((with_reducible show blockQ _ _ _ _); first | refine block_exit ?_ | refine block_exit_ne rfl ?_) | ((with_reducible show AWP _ _ _ _ _); first | (with_reducible first | refine AWP.seq ?_ | refine AWP.block ?_ | refine AWP.region ?_ | refine AWP.ret ?_ | refine AWP.exit ?_ | refine AWP.skip ?_) | refine AWP.drawn rfl (by kernel_rfl) ?_ | refine AWP.cond rfl ?_ ?_) | with_reducible refine ev_nil ?_ | ((first | ((with_reducible show evOps _ _ _ _ _ _); (first | refine ev_step rfl ?_ | refine ev_undef rfl rfl rfl ?_); intro K hK) | ((with_reducible show EvOpen _ _ _ _ _ _ _); refine ev_open ?_; intro K hK) | ((with_reducible show SkOpen _ _ _ _ _ _ _); refine sk_open ?_; intro K hK) | ((with_reducible show callK _ _ _ _ _ _ _ _); first  | (refine call_scalar (hcon) (Nat.le_of_ble_eq_true rfl) rfl ?_))); simp only [evOp, evQ, binK, withS, opd, kput, putS, upd, lookup, argsK, bringIn, bring, Res.list, Res.slot, slotsOf, InK_i64, List.reverse_cons, List.reverse_nil, List.nil_append, Nat.reduceEqDiff, Nat.reduceLT, ↓reduceIte, eq_self, true_and]) | refine ev_guard rfl rfl rfl ?_ ?_ | ((with_reducible show retQ _ _ _ _); simp only [retQ, retOk, getL, lookup, Option.map_some, fitsL, fits, ND, srcs, Res.list, VE, Nat.reduceEqDiff, ↓reduceIte, and_true]) | (with_reducible refine hK _ ?_; clear hK K) | (with_reducible refine And.intro ?_ ?_) | (with_reducible intro hc; try simp only [decide_eq_true_eq, decide_eq_false_iff_not, Int.not_lt] at hc) | omega)
    all_goals first
      | (exfalso; omega)
      | omega
      | rfl
      | trace_state

theorem l1NumI_fn (n : Int) (h : 0 ≤ n ∧ n ≤ 1000000000) : Fn Tryz.prog 57 [vi n] (.one (.pv (vs (itoaB n)))) := by
  have hcon := l1Num_fn n.toNat (by omega)
  rwa [show ((n.toNat : Nat) : Int) = n by omega, ← itoaB_nonneg h.1] at hcon

theorem plText_fn (l : List T3) (hs : Sml l) (hl : l.length ≤ 1099511627776) : Fn Tryz.prog 41 [terms l] (.one (.pv (vs (tx l)))) := by
  refine Fn.of_body Tryz.call41 Tryz.func41 rfl Tryz.ntmps41 (ts := [2]) rfl (by simp) rfl (fun N => ?_)
  repeat' (first | (with_reducible first | refine then_normal ?_ | refine then_ret ?_ | refine then_exit ?_ | refine block_normal ?_ | refine block_ret ?_) | ((with_reducible show blockQ _ _ _ _); first | refine block_exit ?_ | refine block_exit_ne rfl ?_) | ((with_reducible show AWP _ _ _ _ _); first | (with_reducible first | refine AWP.seq ?_ | refine AWP.block ?_ | refine AWP.region ?_ | refine AWP.ret ?_ | refine AWP.exit ?_ | refine AWP.skip ?_) | refine AWP.drawn rfl (by kernel_rfl) ?_ | refine AWP.cond rfl ?_ ?_) | with_reducible refine ev_nil ?_ | ((first | ((with_reducible show evOps _ _ _ _ _ _); (first | refine ev_step rfl ?_ | refine ev_undef rfl rfl rfl ?_); intro K hK) | ((with_reducible show EvOpen _ _ _ _ _ _ _); refine ev_open ?_; intro K hK) | ((with_reducible show SkOpen _ _ _ _ _ _ _); refine sk_open ?_; intro K hK) | ((with_reducible show callK _ _ _ _ _ _ _ _); first | fail)); simp only [evOp, evQ, evB, withS, opd, kput, putS, upd, lookup, slotsOf, sz_terms, Nat.reduceEqDiff, Nat.reduceLT, ↓reduceIte, eq_self, true_and, Option.isSome_some]) | refine ev_guard rfl rfl rfl ?_ ?_ | ((with_reducible show retQ _ _ _ _); simp only [eq_self]) | (with_reducible refine hK _ ?_; clear hK K) | (with_reducible refine And.intro ?_ ?_) | (with_reducible intro hc; try simp only [eq_self] at hc) | omega)
  refine AWP.loop_entR [] (fun k : Nat => ⟨[(3, .one (.pv (vs (txK l k)))), (6, .one (.pv (terms l))), (7, sc (.int .i64 l.length)), (8, sc (.int .i64 k))], [], 30⟩)
    (fun k => k ≤ l.length) (fun k => l.length - k) 0 (by omega) (by simp [EntR, EntSR, EntHR, SlR, VE, VE.rfl', lookup, BE, txK, upd, sc]) ?_
  intro k hk
  by_cases hkl : k < l.length
  · have h1 := hs k hkl
    have h2 := txK_size hs k hk
    have h3 := ttx_size h1
    have e : txK l (k + 1) = txK l k ++ ttx (tAt l k) := rfl
    unfold ttx at h3 e
    simp only [ByteArray.size_append] at h3
    have e1 : (⟨#[58]⟩ : ByteArray).size = 1 := rfl
    have e2 : (⟨#[44]⟩ : ByteArray).size = 1 := rfl
    have e3 : (⟨#[59]⟩ : ByteArray).size = 1 := rfl
    repeat' (first | (with_reducible first | refine then_normal ?_ | refine then_ret ?_ | refine then_exit ?_ | refine block_normal ?_ | refine block_ret ?_) | ((with_reducible show blockQ _ _ _ _); first | refine block_exit ?_ | refine block_exit_ne rfl ?_) | ((with_reducible show AWP _ _ _ _ _); first | (with_reducible first | refine AWP.seq ?_ | refine AWP.block ?_ | refine AWP.region ?_ | refine AWP.ret ?_ | refine AWP.exit ?_ | refine AWP.skip ?_) | refine AWP.drawn rfl (by kernel_rfl) ?_ | refine AWP.cond rfl ?_ ?_) | with_reducible refine ev_nil ?_ | ((first | ((with_reducible show evOps _ _ _ _ _ _); (first | refine ev_step rfl ?_ | refine ev_undef rfl rfl rfl ?_); intro K hK) | ((with_reducible show EvOpen _ _ _ _ _ _ _); refine ev_open ?_; intro K hK) | ((with_reducible show SkOpen _ _ _ _ _ _ _); refine sk_open ?_; intro K hK) | ((with_reducible show callK _ _ _ _ _ _ _ _); first  | (refine call_scalar (l1Int_fn (tAt l k).2.2 (by omega)) (Nat.le_of_ble_eq_true rfl) rfl ?_) | (refine call_scalar (l1NumI_fn (tAt l k).1 (by omega)) (Nat.le_of_ble_eq_true rfl) rfl ?_) | (refine call_scalar (l1NumI_fn (tAt l k).2.1 (by omega)) (Nat.le_of_ble_eq_true rfl) rfl ?_))); simp only [evOp, evQ, binK, withS, opd, kput, putS, upd, lookup, argsK, loadOwn, bringIn, bring, Res.list, Res.slot, InK_i64, storeK, frz, storeV, setBlk, newBlk, allocK, V.one, Value.oneCell', List.set_cons_zero, c_int, sz_terms, c_term, fi0, fi1, fi2, z_term, tf_0, tf_1, tf_2, Nat.zero_le, List.getElem?_cons_zero, List.reverse_cons, List.reverse_nil, List.nil_append, List.length_cons, List.length_nil, Nat.reduceEqDiff, Nat.reduceAdd, Nat.reduceLT, Nat.reduceLeDiff, Nat.add_zero, Nat.zero_add, Nat.sub_zero, ↓reduceIte, eq_self, true_and, forall_const, implies_true, Int.toNat_natCast]) | refine ev_guard rfl rfl rfl ?_ ?_ | ((with_reducible show retQ _ _ _ _); simp only [retQ, retOk, getL, lookup, Option.map_some, fitsL, fits, ND, srcs, Res.list, VE, Nat.reduceEqDiff, ↓reduceIte, and_true]) | (with_reducible refine hK _ ?_; clear hK K) | (with_reducible refine And.intro ?_ ?_) | (with_reducible intro hc; try simp only [decide_eq_true_eq, decide_eq_false_iff_not, Int.not_lt] at hc) | omega)
    all_goals first
      | (exfalso; omega)
      | omega
      | (simp only [ByteArray.size_append, e1, e2, e3]; omega)
      | (exact ⟨k + 1, by omega, by omega, [], rfl, by decide, by simp [EntSR, SlR, VE, lookup, sc, VE.rfl', e], trivial⟩)
      | trace_state
  · obtain rfl : k = l.length := by omega
    repeat' (first | (with_reducible first | refine then_normal ?_ | refine then_ret ?_ | refine then_exit ?_ | refine block_normal ?_ | refine block_ret ?_) | ((with_reducible show blockQ _ _ _ _); first | refine block_exit ?_ | refine block_exit_ne rfl ?_) | ((with_reducible show AWP _ _ _ _ _); first | (with_reducible first | refine AWP.seq ?_ | refine AWP.block ?_ | refine AWP.region ?_ | refine AWP.ret ?_ | refine AWP.exit ?_ | refine AWP.skip ?_) | refine AWP.drawn rfl (by kernel_rfl) ?_ | refine AWP.cond rfl ?_ ?_) | with_reducible refine ev_nil ?_ | ((first | ((with_reducible show evOps _ _ _ _ _ _); (first | refine ev_step rfl ?_ | refine ev_undef rfl rfl rfl ?_); intro K hK) | ((with_reducible show EvOpen _ _ _ _ _ _ _); refine ev_open ?_; intro K hK) | ((with_reducible show SkOpen _ _ _ _ _ _ _); refine sk_open ?_; intro K hK) | ((with_reducible show callK _ _ _ _ _ _ _ _); first | fail)); simp only [evOp, evQ, binK, withS, opd, kput, putS, upd, lookup, argsK, loadOwn, storeK, frz, storeV, setBlk, newBlk, allocK, V.one, Value.oneCell', List.set_cons_zero, c_int, sz_terms, c_term, fi2, z_term, tf_2, Nat.zero_le, List.getElem?_cons_zero, List.reverse_cons, List.reverse_nil, List.nil_append, List.length_cons, List.length_nil, Nat.reduceEqDiff, Nat.reduceAdd, Nat.reduceLT, Nat.reduceLeDiff, Nat.zero_add, Nat.sub_zero, ↓reduceIte, eq_self, true_and, forall_const, implies_true, Int.toNat_natCast]) | refine ev_guard rfl rfl rfl ?_ ?_ | ((with_reducible show retQ _ _ _ _); simp only [retQ, retOk, getL, lookup, Option.map_some, fitsL, fits, ND, srcs, Res.list, VE, Nat.reduceEqDiff, ↓reduceIte, and_true]) | (with_reducible refine hK _ ?_; clear hK K) | (with_reducible refine And.intro ?_ ?_) | (with_reducible intro hc; try simp only [decide_eq_true_eq, decide_eq_false_iff_not, Int.not_lt] at hc) | omega)
    all_goals first
      | (exfalso; omega)
      | rfl
      | trace_state
end Go.Proofs.YteapdildbfimnaaGreatDoor
namespace Go.Proofs.YteapdildbfimnaaGreatDoor
open Go.RowKit Go.Proofs Go.Sort
set_option linter.unusedSimpArgs false
set_option linter.unusedVariables false

theorem Gl.grown {w : World} (h : Gl w) (q : Nat) (os : Array Obj) : Gl (grow (w.drewN q) os) := h.keep (below_grow w q os)
theorem cell_new3 (W : World) (a b c : Value) (t : TypeId) (q : Nat) (os : Array Obj) (n : Nat) (os' : Array Obj) (i : Nat) (hi : i < 3) : (grow (((grow (W.drewN q) os).alloc (.cells #[a, b, c] t)).drewN n) os').cell? ⟨W.heap.size + os.size, i, none⟩ = some (if i = 0 then a else if i = 1 then b else c) := by
  have hs : (grow (W.drewN q) os).heap.size = W.heap.size + os.size := by show (W.heap ++ os).size = _; simp
  rw [cell?_grow _ _ _ (by show W.heap.size + os.size < ((grow (W.drewN q) os).heap.push _).size; rw [Array.size_push, hs]; omega)]
  show World.cell? { (grow (W.drewN q) os) with drawn := _, heap := (grow (W.drewN q) os).heap.push _ } _ = _
  unfold World.cell?
  simp only
  rw [← hs, Array.getElem?_push_size]
  rcases (show i = 0 ∨ i = 1 ∨ i = 2 by omega) with rfl | rfl | rfl <;> rfl

theorem itoa_grown (n : Int) (h : -1000000 ≤ n ∧ n ≤ 1000000) (W : World) (hg : Gl W) : ∀ (m : Nat) (os : Array Obj), Calls Tryz.prog 56 #[.int .i64 n] (grow (W.drewN m) os) fun e w' => e = .returned (.string (itoaB n)) ∧ ∃ q os', w' = grow ((grow (W.drewN m) os).drewN q) os' :=
  fun m os => Tryz.strconv_Itoa n (by omega) (by omega) _ (hg.grown m os)

theorem push_back (W : World) (q : Nat) (os : Array Obj) (o : Obj) (n : Nat) (os' : Array Obj) : ∃ q' os'', grow (((grow (W.drewN q) os).alloc o).drewN n) os' = grow (W.drewN q') os'' :=
  ⟨q + n, os ++ #[o] ++ os', by
    rw [alloc_eq_grow, grow_grow]
    show grow (grow ((W.drewN q).drewN n) (os ++ #[o])) os' = _
    rw [grow_grow, World.drewN_drewN]⟩

set_option maxHeartbeats 4000000 in
set_option maxRecDepth 100000 in
theorem pText_walk (b off c : Nat) (l : List T3) (hs : Sml l) (hl : l.length ≤ 12) (W : World) (hg : Gl W) (hb : b < W.heap.size) (hcell : ∀ i, i < l.length * 3 → W.cell? ⟨b, off + i, none⟩ = some (.int .i64 (tf l i))) :
    Calls Tryz.prog 40 #[.slice (some ⟨b, off, none⟩) l.length c] W fun e w' => e = .returned (.string (tx l)) ∧ ∃ q os, w' = grow (W.drewN q) os := by
  go_enter Tryz.func40, Tryz.ntmps40
  go_wp2
  go_loopg [3, 8] l.length (fun g s3 s8 wr => ∃ k : Nat, s3 = .string (txK l k) ∧ s8 = .int .i64 k ∧ g + k = l.length ∧ ∃ q os, wr = grow (W.drewN q) os)
  case atStart => exact ⟨0, rfl, rfl, by omega, 0, #[], by rw [grow_empty]; rfl⟩
  case round =>
    obtain ⟨k, rfl, rfl, hgk, q, os, rfl⟩ := hrel
    by_cases hlt : (k : Int) < l.length
    · have hk : k < l.length := by omega
      have h1 := hs k hk
      have h2 := txK_size hs k (Nat.le_of_lt hk)
      have e : txK l (k + 1) = txK l k ++ ttx (tAt l k) := rfl
      have c0 : (grow (W.drewN q) os).cell? ⟨b, off + k * 3, none⟩ = some (.int .i64 (tAt l k).1) := by
        rw [cell?_grow _ _ _ hb, ← tf_0]; exact hcell _ (by omega)
      have c1 : (grow (W.drewN q) os).cell? ⟨b, off + k * 3 + 1, none⟩ = some (.int .i64 (tAt l k).2.1) := by
        rw [cell?_grow _ _ _ hb, ← tf_1]; exact hcell (k * 3 + 1) (by omega)
      have c2 : (grow (W.drewN q) os).cell? ⟨b, off + k * 3 + 2, none⟩ = some (.int .i64 (tAt l k).2.2) := by
        rw [cell?_grow _ _ _ hb, ← tf_2]; exact hcell (k * 3 + 2) (by omega)
      have A : Aside (gk + k = l.length ∧ txK l (k + 1) = txK l k ++ ttx (tAt l k) ∧ k < l.length ∧ l.length ≤ 12) := ⟨hgk, e, hk, hl⟩
      have hsz3 := itoaB_size (tAt l k).2.2
      have hsz1 := itoaB_size (tAt l k).1
      have hsz2 := itoaB_size (tAt l k).2.1
      unfold ttx at A
      clear e hgk hcell hs
      generalize hO : txK l k = O at A h2 ⊢
      clear hO
      obtain ⟨x, hx⟩ : ∃ x, tAt l k = x := ⟨_, rfl⟩
      rw [hx] at h1 c0 c1 c2 hsz1 hsz2 hsz3 A
      clear hx
      obtain ⟨x1, x2, x3⟩ := x
      simp only at h1 c0 c1 c2 hsz1 hsz2 hsz3 A
      have g1 := hg.grown q os
      have t3 := itoa_grown x3 (by omega) _ (g1.keep (Below.refl _ _ |>.alloc (Nat.le_refl _) (Obj.cells #[.int .i64 x1, .int .i64 x2, .int .i64 x3] 55)))
      have t1 := itoa_grown x1 (by omega) _ (g1.keep (Below.refl _ _ |>.alloc (Nat.le_refl _) (Obj.cells #[.int .i64 x1, .int .i64 x2, .int .i64 x3] 55)))
      have t2 := itoa_grown x2 (by omega) _ (g1.keep (Below.refl _ _ |>.alloc (Nat.le_refl _) (Obj.cells #[.int .i64 x1, .int .i64 x2, .int .i64 x3] 55)))
      have d0 := fun n os' => cell_new3 W (.int .i64 x1) (.int .i64 x2) (.int .i64 x3) 55 q os n os' 0 (by omega)
      have d1 := fun n os' => cell_new3 W (.int .i64 x1) (.int .i64 x2) (.int .i64 x3) 55 q os n os' 1 (by omega)
      have d2 := fun n os' => cell_new3 W (.int .i64 x1) (.int .i64 x2) (.int .i64 x3) 55 q os n os' 2 (by omega)
      simp only [if_true, Nat.one_ne_zero, if_false, Nat.reduceEqDiff] at d0 d1 d2
      have hpb := fun n os' => push_back W q os (Obj.cells #[.int .i64 x1, .int .i64 x2, .int .i64 x3] 55) n os'
      have B : Aside (∀ n os', ∃ q' os'', grow (((grow (W.drewN q) os).alloc (Obj.cells #[.int .i64 x1, .int .i64 x2, .int .i64 x3] 55)).drewN n) os' = grow (W.drewN q') os'') := hpb
      clear hpb
      have C : Aside ((∀ (m : Nat) (os' : Array Obj), _) ∧ (∀ (m : Nat) (os' : Array Obj), _) ∧ (∀ (m : Nat) (os' : Array Obj), _)) := ⟨t3, t1, t2⟩
      clear t1 t2 t3 g1
      generalize itoaB x3 = s3 at *
      generalize itoaB x1 = s1 at *
      generalize itoaB x2 = s2 at *
      have z1 : ¬ 9223372036854775807 < s3.size + 1 := by omega
      have z2 : ¬ 9223372036854775807 < s3.size + 1 + s1.size := by omega
      have z3 : ¬ 9223372036854775807 < s3.size + 1 + s1.size + 1 := by omega
      have z4 : ¬ 9223372036854775807 < s3.size + 1 + s1.size + 1 + s2.size := by omega
      have z5 : ¬ 9223372036854775807 < s3.size + 1 + s1.size + 1 + s2.size + 1 := by omega
      have z6 : ¬ 9223372036854775807 < O.size + (s3.size + 1 + s1.size + 1 + s2.size + 1) := by omega
      clear hsz1 hsz2 hsz3 h1 h2 hg hb hl
      have mixed : Tryz.prog.follows .mixedOrders = true := rfl
      have ci : ∀ args w, (callFunc 56 args).run Tryz.prog w = .ok (.enter 56 args) w := Tryz.call56
      go_wp2_with fail
      go_quiet_grown (first | (go_at_call 56; first | refine Calls.grown_of (C.out.1 _ _) | refine Calls.grown_of (C.out.2.1 _ _) | refine Calls.grown_of (C.out.2.2 _ _)))
      go_wp2
      go_roundg (l.length - (k + 1))
      case measure => have := A.out.1; omega
      case rel =>
        obtain ⟨e1, e2, e3, e12⟩ := A.out
        obtain ⟨q', os', e4⟩ := B.out nq osq
        exact ⟨k + 1, by rw [e2], by rw [wrap64_id _ (by omega)]; rfl, by omega, q', os', e4⟩
    · go_wp2
      go_ret
      obtain rfl : k = l.length := by omega
      exact ⟨rfl, q, os, rfl⟩

theorem grow_twice (W : World) (q q' : Nat) (os os' : Array Obj) : grow ((grow (W.drewN q) os).drewN q') os' = grow (W.drewN (q + q')) (os ++ os') := by
  show grow (grow ((W.drewN q).drewN q') os) os' = _
  rw [grow_grow, World.drewN_drewN]

/-- A row of terms in older memory. -/
structure TRow (W : World) (u : Value) (l : List T3) : Prop where
  at' : ∃ b off c, u = .slice (some ⟨b, off, none⟩) l.length c ∧ b < W.heap.size ∧ ∀ i, i < l.length * 3 → W.cell? ⟨b, off + i, none⟩ = some (.int .i64 (tf l i))
theorem TRow.grown {W : World} {u : Value} {l : List T3} (h : TRow W u l) (q : Nat) (os : Array Obj) : TRow (grow (W.drewN q) os) u l := by
  obtain ⟨b, off, c, e, hb, hc⟩ := h.at'
  refine ⟨b, off, c, e, ?_, fun i hi => ?_⟩
  · show b < (W.heap ++ os).size
    rw [Array.size_append]; omega
  · rw [cell?_grow _ _ _ hb]; exact hc i hi
theorem pText_row {W : World} {u : Value} {l : List T3} (h : TRow W u l) (hs : Sml l) (hl : l.length ≤ 12) (hg : Gl W) : Calls Tryz.prog 40 #[u] W fun e w' => e = .returned (.string (tx l)) ∧ ∃ q os, w' = grow (W.drewN q) os := by
  obtain ⟨b, off, c, rfl, hb, hc⟩ := h.at'
  exact pText_walk b off c l hs hl W hg hb hc

def CmpC (u v : Value) (x y : ByteArray) (r : Int) (W : World) : Prop := (Calls Tryz.prog 40 #[u] W fun e w' => e = .returned (.string x) ∧ ∃ q os, w' = grow (W.drewN q) os) ∧ (∀ q os, Calls Tryz.prog 40 #[v] (grow (W.drewN q) os) fun e w' => e = .returned (.string y) ∧ ∃ q' os', w' = grow ((grow (W.drewN q) os).drewN q') os') ∧ ∀ w, Calls Tryz.prog 66 #[.string x, .string y] w fun e w' => e = .returned (.int .i64 r) ∧ w' = w
theorem CmpC.one {u v : Value} {x y : ByteArray} {r : Int} {W : World} (C : CmpC u v x y r W) : Calls Tryz.prog 40 #[u] W fun e w' => e = .returned (.string x) ∧ ∃ q os, w' = grow (W.drewN q) os := C.1
theorem CmpC.two {u v : Value} {x y : ByteArray} {r : Int} {W : World} (C : CmpC u v x y r W) (q : Nat) (os : Array Obj) : Calls Tryz.prog 40 #[v] (grow (W.drewN q) os) fun e w' => e = .returned (.string y) ∧ ∃ q' os', w' = grow ((grow (W.drewN q) os).drewN q') os' := C.2.1 q os
theorem CmpC.thr {u v : Value} {x y : ByteArray} {r : Int} {W : World} (C : CmpC u v x y r W) (w : World) : Calls Tryz.prog 66 #[.string x, .string y] w fun e w' => e = .returned (.int .i64 r) ∧ w' = w := C.2.2 w
set_option maxHeartbeats 1000000 in
set_option maxRecDepth 100000 in
theorem cmp_abs (u v : Value) (x y : ByteArray) (r : Int) (W : World) (C : CmpC u v x y r W) :
    Calls Tryz.prog 48 #[u, v] W fun e w' => e = .returned (.int .i64 r) ∧ ∃ q os, w' = grow (W.drewN q) os := by
  go_enter Tryz.func48, Tryz.ntmps48
  go_wp2_with (first | (go_at_call 66; with_reducible refine Calls.mono (CmpC.thr C _) ?_; rintro e w' ⟨rfl, rfl⟩) | (go_at_call 40; first | (with_reducible refine Calls.mono (CmpC.two C _ _) ?_; rintro e w' ⟨rfl, q2, os2, rfl⟩) | (with_reducible refine Calls.mono (CmpC.one C) ?_; rintro e w' ⟨rfl, q1, os1, rfl⟩)))
  go_ret
  exact ⟨rfl, _, _, grow_twice _ _ _ _ _⟩
theorem cmp_walk {W : World} {u v : Value} {l m : List T3} (hu : TRow W u l) (hv : TRow W v m) (hs : Sml l) (hs' : Sml m) (hl : l.length ≤ 12) (hm : m.length ≤ 12) (hg : Gl W) :
    Calls Tryz.prog 48 #[u, v] W fun e w' => e = .returned (.int .i64 (Lib.compareBytes (tx l).data.toList (tx m).data.toList)) ∧ ∃ q os, w' = grow (W.drewN q) os :=
  cmp_abs u v (tx l) (tx m) _ W ⟨pText_row hu hs hl hg, fun q os => pText_row (hv.grown q os) hs' hm (hg.grown q os), fun w => Tryz.strings_Compare (tx l) (tx m) w⟩
end Go.Proofs.YteapdildbfimnaaGreatDoor
namespace Go.Proofs.YteapdildbfimnaaGreatDoor
set_option linter.unusedSimpArgs false
set_option linter.unusedVariables false
open Go.RowKit

/-- A function that writes the block of its first argument, a slice of n elements from the block's head, whose cells hold known values, and hands a scalar back. -/
structure FnMv (P : Program) (f : FuncId) (n : Nat) (blk blk' : Blk) (u v : Value) : Prop where
  entry : ∀ (args : Array Value) (w : World), (callFunc f args).run P w = .ok (.enter f args) w
  elem : blk'.elem = blk.elem
  le : blk'.n ≤ blk.n
  runsNil : n = 0 → ∀ w, Gl w → Calls P f #[.slice none 0 0, u] w fun e w' => e = .returned v ∧ Below w.heap.size w w'
  vals : ∀ i, i < blk.n → ∃ x, blk.f i = .val x
  runsAt : ∀ (w : World) (b c : Nat) (cur : Array Value), Gl w → w.heap[b]? = some (.cells cur blk.elem (0, 0)) → blk.n ≤ cur.size → (∀ i, i < blk.n → ∃ x, cur[i]? = some x ∧ blk.f i = .val x) → n ≤ c → Calls P f #[.slice (some ⟨b, 0, none⟩) n c, u] w fun e w' =>
    e = .returned v ∧ AllBut b w w' ∧ ∃ cur' : Array Value, w'.heap[b]? = some (.cells cur' blk.elem (0, 0)) ∧ cur'.size = cur.size ∧ ∀ i, i < blk'.n → ∃ x, cur'[i]? = some x ∧ blk'.f i = .val x

/-- A function that hands its first argument, a slice, back as it came. -/
structure FnSame (P : Program) (f : FuncId) (sz n : Nat) (g : Nat → V) (y : Value) : Prop where
  entry : ∀ (args : Array Value) (w : World), (callFunc f args).run P w = .ok (.enter f args) w
  runs : ∀ (w : World) (u : Value) (Z : Nat → Prop), Gl w → Rd w (fun _ => True) (.row u Z sz n g) u → Calls P f #[u, y] w fun e w' => e = .returned u ∧ Below w.heap.size w w'

section
variable {P : Program} {N : Nat}

end
end Go.Proofs.YteapdildbfimnaaGreatDoor
namespace Go.Proofs.YteapdildbfimnaaGreatDoor
set_option linter.unusedSimpArgs false
set_option linter.unusedVariables false
open Go.Proofs

/-! ### Numerals -/
theorem dec_dig (u : Nat) : ∀ x ∈ Lib.decDigits u, 48 ≤ x.toNat ∧ x.toNat ≤ 57 := by
  have h1 : ∀ v, v < 10 → (UInt8.ofNat (48 + v)).toNat = 48 + v := fun v hv => by
    show (48 + v) % 256 = 48 + v
    omega
  induction u using Nat.strongRecOn with
  | _ u ih =>
    rw [Lib.decDigits]
    split
    · intro x hx
      rw [List.mem_singleton] at hx
      subst hx
      rw [h1 u (by omega)]; omega
    · intro x hx
      rw [List.mem_append, List.mem_singleton] at hx
      rcases hx with hx | rfl
      · exact ih (u / 10) (by omega) x hx
      · rw [h1 (u % 10) (by omega)]; omega
def valD (l : List UInt8) : Nat := l.foldl (fun a x => a * 10 + (x.toNat - 48)) 0
theorem valD_snoc (l : List UInt8) (x : UInt8) : valD (l ++ [x]) = valD l * 10 + (x.toNat - 48) := by simp [valD, List.foldl_append]
theorem valD_dec (u : Nat) : valD (Lib.decDigits u) = u := by
  have h1 : ∀ v, v < 10 → (UInt8.ofNat (48 + v)).toNat = 48 + v := fun v hv => by
    show (48 + v) % 256 = 48 + v
    omega
  induction u using Nat.strongRecOn with
  | _ u ih =>
    rw [Lib.decDigits]
    split
    · show 0 * 10 + ((UInt8.ofNat (48 + u)).toNat - 48) = u
      rw [h1 u (by omega)]; omega
    · rw [valD_snoc, ih (u / 10) (by omega), h1 (u % 10) (by omega)]; omega
theorem dec_inj {u v : Nat} (h : Lib.decDigits u = Lib.decDigits v) : u = v := by rw [← valD_dec u, h, valD_dec]
theorem itoa_inj {n m : Int} (h : Lib.itoa n = Lib.itoa m) : n = m := by
  have no : ∀ (u : Nat) (l : List UInt8), Lib.decDigits u ≠ 45 :: l := fun u l e => by
    have := dec_dig u 45 (by rw [e]; simp)
    have e45 : (45 : UInt8).toNat = 45 := rfl
    omega
  unfold Lib.itoa at h
  split at h <;> split at h
  · injection h with _ h
    have := dec_inj h
    omega
  · exact absurd h.symm (no _ _)
  · exact absurd h (no _ _)
  · have := dec_inj h
    omega
theorem itoa_dig (n : Int) : ∀ x ∈ Lib.itoa n, x ≠ 58 ∧ x ≠ 44 ∧ x ≠ 59 := by
  have h : ∀ x : UInt8, (x.toNat = 45 ∨ (48 ≤ x.toNat ∧ x.toNat ≤ 57)) → x ≠ 58 ∧ x ≠ 44 ∧ x ≠ 59 := fun x hx => by
    have e1 : (58 : UInt8).toNat = 58 := rfl
    have e2 : (44 : UInt8).toNat = 44 := rfl
    have e3 : (59 : UInt8).toNat = 59 := rfl
    refine ⟨fun e => ?_, fun e => ?_, fun e => ?_⟩ <;> subst e <;> omega
  intro x hx
  unfold Lib.itoa at hx
  split at hx
  · rw [List.mem_cons] at hx
    rcases hx with rfl | hx
    · exact h 45 (.inl rfl)
    · exact h x (.inr (dec_dig _ x hx))
  · exact h x (.inr (dec_dig _ x hx))
theorem split_sep {c : UInt8} : ∀ {a b x y : List UInt8}, (∀ u ∈ a, u ≠ c) → (∀ u ∈ b, u ≠ c) → a ++ c :: x = b ++ c :: y → a = b ∧ x = y
  | [], [], x, y, _, _, h => by
    have h : c :: x = c :: y := h
    injection h with _ h
    exact ⟨rfl, h⟩
  | [], v :: b, x, y, _, hb, h => by
    have h : c :: x = v :: (b ++ c :: y) := h
    injection h with h _
    exact absurd h.symm (hb v (by simp))
  | v :: a, [], x, y, ha, _, h => by
    have h : v :: (a ++ c :: x) = c :: y := h
    injection h with h _
    exact absurd h (ha v (by simp))
  | v :: a, w :: b, x, y, ha, hb, h => by
    have h : v :: (a ++ c :: x) = w :: (b ++ c :: y) := h
    injection h with h1 h2
    obtain ⟨e1, e2⟩ := split_sep (fun u hu => ha u (by simp [hu])) (fun u hu => hb u (by simp [hu])) h2
    exact ⟨by rw [h1, e1], e2⟩

/-! ### Texts -/
theorem ttx_bytes (t : T3) : bytesOf (ttx t) = Lib.itoa t.2.2 ++ 58 :: (Lib.itoa t.1 ++ 44 :: (Lib.itoa t.2.1 ++ [59])) := by
  unfold ttx
  simp only [bx_app]
  show Lib.itoa t.2.2 ++ [58] ++ Lib.itoa t.1 ++ [44] ++ Lib.itoa t.2.1 ++ [59] = _
  simp [List.append_assoc]
theorem ttx_inj {t u : T3} {r s : List UInt8} (h : bytesOf (ttx t) ++ r = bytesOf (ttx u) ++ s) : t = u ∧ r = s := by
  rw [ttx_bytes, ttx_bytes] at h
  simp only [List.append_assoc, List.cons_append, List.nil_append] at h
  obtain ⟨h1, h⟩ := split_sep (fun x hx => (itoa_dig _ x hx).1) (fun x hx => (itoa_dig _ x hx).1) h
  obtain ⟨h2, h⟩ := split_sep (fun x hx => (itoa_dig _ x hx).2.1) (fun x hx => (itoa_dig _ x hx).2.1) h
  obtain ⟨h3, h⟩ := split_sep (fun x hx => (itoa_dig _ x hx).2.2) (fun x hx => (itoa_dig _ x hx).2.2) h
  exact ⟨Prod.ext (itoa_inj h2) (Prod.ext (itoa_inj h3) (itoa_inj h1)), h⟩
def txL : List T3 → List UInt8
  | [] => []
  | t :: l => bytesOf (ttx t) ++ txL l
theorem txL_snoc (a : List T3) (t : T3) : txL (a ++ [t]) = txL a ++ bytesOf (ttx t) := by
  induction a with
  | nil => simp [txL]
  | cons x a ih => show bytesOf (ttx x) ++ txL (a ++ [t]) = _; rw [ih]; simp [txL, List.append_assoc]
theorem txK_txL (l : List T3) : ∀ k, k ≤ l.length → bytesOf (txK l k) = txL (l.take k)
  | 0, _ => rfl
  | k + 1, hk => by
    show bytesOf (txK l k ++ ttx (tAt l k)) = _
    rw [bx_app, txK_txL l k (by omega), ← txL_snoc]
    congr 1
    rw [List.take_add_one, List.getElem?_eq_getElem (by omega)]
    simp [tAt, List.getD, show k < l.length by omega]
theorem tx_txL (l : List T3) : bytesOf (tx l) = txL l := by
  unfold tx
  rw [txK_txL l _ (Nat.le_refl _), List.take_length]
theorem txL_inj : ∀ {l m : List T3}, txL l = txL m → l = m
  | [], [], _ => rfl
  | [], u :: m, h => by
    have h : [] = bytesOf (ttx u) ++ txL m := h
    rw [ttx_bytes] at h
    simp at h
  | t :: l, [], h => by
    have h : bytesOf (ttx t) ++ txL l = [] := h
    rw [ttx_bytes] at h
    simp at h
  | t :: l, u :: m, h => by
    obtain ⟨h1, h2⟩ := ttx_inj (t := t) (u := u) (r := txL l) (s := txL m) h
    rw [h1, txL_inj h2]
theorem tx_inj {l m : List T3} (h : tx l = tx m) : l = m := txL_inj (by rw [← tx_txL, ← tx_txL, h])

/-! ### The order of texts -/
theorem bl_irr : ∀ a : List UInt8, Op.bytesLess a a = false
  | [] => rfl
  | x :: a => by
    show (decide (x < x) || (x == x && Op.bytesLess a a)) = false
    rw [bl_irr a]; simp
theorem bl_trans : ∀ {a b c : List UInt8}, Op.bytesLess a b = true → Op.bytesLess b c = true → Op.bytesLess a c = true
  | [], [], _, h, _ => nomatch h
  | _ :: _, [], _, h, _ => nomatch h
  | _, _ :: _, [], _, h => nomatch h
  | [], _ :: _, _ :: _, _, _ => rfl
  | x :: a, y :: b, z :: c, h1, h2 => by
    have k1 : (decide (x < y) || (x == y && Op.bytesLess a b)) = true := h1
    have k2 : (decide (y < z) || (y == z && Op.bytesLess b c)) = true := h2
    clear h1 h2
    show (decide (x < z) || (x == z && Op.bytesLess a c)) = true
    simp only [Bool.or_eq_true, Bool.and_eq_true, decide_eq_true_eq, beq_iff_eq] at k1 k2 ⊢
    rcases k1 with k1 | ⟨rfl, k1⟩
    · rcases k2 with k2 | ⟨rfl, k2⟩
      · exact .inl (UInt8.lt_trans k1 k2)
      · exact .inl k1
    · rcases k2 with k2 | ⟨rfl, k2⟩
      · exact .inl k2
      · exact .inr ⟨rfl, bl_trans k1 k2⟩
theorem bl_tot : ∀ {a b : List UInt8}, Op.bytesLess a b = false → Op.bytesLess b a = false → a = b
  | [], [], _, _ => rfl
  | [], _ :: _, h, _ => by cases h
  | _ :: _, [], _, h => by cases h
  | x :: a, y :: b, h1, h2 => by
    have h1 : (decide (x < y) || (x == y && Op.bytesLess a b)) = false := h1
    have h2 : (decide (y < x) || (y == x && Op.bytesLess b a)) = false := h2
    simp only [Bool.or_eq_false_iff, Bool.and_eq_false_iff, decide_eq_false_iff_not, beq_eq_false_iff_ne] at h1 h2
    have e : x = y := by
      have n1 : ¬ x.toNat < y.toNat := h1.1
      have n2 : ¬ y.toNat < x.toNat := h2.1
      exact UInt8.toNat_inj.1 (by omega)
    subst e
    rw [bl_tot (h1.2.resolve_left fun h => h rfl) (h2.2.resolve_left fun h => h rfl)]
def ltX (a b : List T3) : Bool := ltB (tx a) (tx b)
theorem ltX_irr (a : List T3) : ltX a a = false := bl_irr _
theorem ltX_trans {a b c : List T3} (h1 : ltX a b = true) (h2 : ltX b c = true) : ltX a c = true := bl_trans h1 h2
theorem ltX_tot {a b : List T3} (h1 : ltX a b = false) (h2 : ltX b a = false) : a = b := tx_inj (bx_ext (bl_tot h1 h2))
theorem ltX_asym {a b : List T3} (h : ltX a b = true) : ltX b a = false := by
  cases e : ltX b a with
  | false => rfl
  | true => rw [← ltX_irr a, ltX_trans h e]
/-- In order, each once. -/
abbrev AscX (L : List (List T3)) : Prop := L.Pairwise fun a b => ltX a b = true
theorem asc_unique : ∀ {a b : List (List T3)}, AscX a → AscX b → (∀ t, t ∈ a ↔ t ∈ b) → a = b
  | [], [], _, _, _ => rfl
  | [], y :: b, _, _, h => absurd ((h y).2 (by simp)) (by simp)
  | x :: a, [], _, _, h => absurd ((h x).1 (by simp)) (by simp)
  | x :: a, y :: b, ha, hb, h => by
    have ha' := List.pairwise_cons.1 ha
    have hb' := List.pairwise_cons.1 hb
    have e : x = y := by
      have h1 : x ∈ y :: b := (h x).1 (by simp)
      have h2 : y ∈ x :: a := (h y).2 (by simp)
      rw [List.mem_cons] at h1 h2
      rcases h1 with h1 | h1
      · exact h1
      · rcases h2 with h2 | h2
        · exact h2.symm
        · have e1 := hb'.1 x h1
          have e2 := ha'.1 y h2
          rw [ltX_asym e1] at e2; cases e2
    subst e
    congr 1
    refine asc_unique ha'.2 hb'.2 fun t => ?_
    have ht := h t
    rw [List.mem_cons, List.mem_cons] at ht
    constructor
    · intro hm
      rcases ht.1 (.inr hm) with rfl | h
      · have := ha'.1 t hm; rw [ltX_irr] at this; cases this
      · exact h
    · intro hm
      rcases ht.2 (.inr hm) with rfl | h
      · have := hb'.1 t hm; rw [ltX_irr] at this; cases this
      · exact h

/-! ### One list more -/
/-- How many stand before a list. -/
def cntX (l : List T3) : List (List T3) → Nat
  | [] => 0
  | x :: r => if ltX x l then cntX l r + 1 else 0
theorem cntX_le (l : List T3) : ∀ L, cntX l L ≤ L.length
  | [] => Nat.le_refl _
  | x :: r => by
    unfold cntX
    split
    · have := cntX_le l r; simp; omega
    · simp
def putX (L : List (List T3)) (l : List T3) : List (List T3) :=
  if cntX l L < L.length ∧ tsAt L (cntX l L) = l then L else L.take (cntX l L) ++ l :: L.drop (cntX l L)
theorem cntX_at {l : List T3} : ∀ {L : List (List T3)} {k : Nat}, k ≤ L.length → (∀ j, j < k → ltX (tsAt L j) l = true) → (k < L.length → ltX (tsAt L k) l = false) → cntX l L = k
  | [], k, hk, _, _ => by simp at hk; subst hk; rfl
  | x :: r, 0, _, _, h => by
    have : ltX x l = false := h (by simp)
    unfold cntX; rw [this]; simp
  | x :: r, k + 1, hk, h, h2 => by
    have h0 : ltX x l = true := h 0 (by omega)
    unfold cntX
    rw [h0, if_pos rfl, cntX_at (L := r) (k := k) (by simpa using hk) (fun j hj => h (j + 1) (by omega)) (fun hlt => h2 (by simpa using hlt))]
theorem cntX_lt {l : List T3} : ∀ {L : List (List T3)} {j : Nat}, j < cntX l L → ltX (tsAt L j) l = true
  | [], j, h => by simp [cntX] at h
  | x :: r, j, h => by
    unfold cntX at h
    split at h
    · rename_i h1
      cases j with
      | zero => exact h1
      | succ j => exact cntX_lt (L := r) (j := j) (by omega)
    · omega
theorem cntX_no {l : List T3} : ∀ {L : List (List T3)}, cntX l L < L.length → ltX (tsAt L (cntX l L)) l = false
  | [], h => by simp at h
  | x :: r, h => by
    unfold cntX at h ⊢
    split
    · rename_i h1
      rw [if_pos h1] at h
      exact cntX_no (L := r) (by simpa using h)
    · rename_i h1
      simpa using h1
theorem asc_ts {L : List (List T3)} (h : AscX L) {i j : Nat} (hij : i < j) (hj : j < L.length) : ltX (tsAt L i) (tsAt L j) = true := by
  have := List.pairwise_iff_getElem.1 h i j (by omega) hj hij
  simpa [tsAt, List.getD, show i < L.length by omega, hj] using this
theorem putX_mem {L : List (List T3)} {l t : List T3} : t ∈ putX L l ↔ t = l ∨ t ∈ L := by
  unfold putX
  split
  · rename_i h
    constructor
    · exact .inr
    · rintro (rfl | h2)
      · have : tsAt L (cntX t L) ∈ L := by simp only [tsAt, List.getD, List.getElem?_eq_getElem h.1, Option.getD_some]; exact List.getElem_mem _
        rw [h.2] at this; exact this
      · exact h2
  · rw [List.mem_append, List.mem_cons]
    have e : t ∈ L ↔ t ∈ L.take (cntX l L) ∨ t ∈ L.drop (cntX l L) := by rw [← List.mem_append, List.take_append_drop]
    rw [e]
    constructor
    · rintro (h | h | h)
      · exact .inr (.inl h)
      · exact .inl h
      · exact .inr (.inr h)
    · rintro (h | h | h)
      · exact .inr (.inl h)
      · exact .inl h
      · exact .inr (.inr h)
theorem mem_ts {L : List (List T3)} {t : List T3} (h : t ∈ L) : ∃ k, k < L.length ∧ t = tsAt L k := by
  obtain ⟨i, hi, rfl⟩ := List.getElem_of_mem h
  exact ⟨i, hi, by simp [tsAt, List.getD, hi]⟩
theorem ts_mem {L : List (List T3)} {k : Nat} (h : k < L.length) : tsAt L k ∈ L := by
  simp only [tsAt, List.getD, List.getElem?_eq_getElem h, Option.getD_some]; exact List.getElem_mem _
theorem putX_asc {L : List (List T3)} {l : List T3} (h : AscX L) : AscX (putX L l) := by
  unfold putX
  split
  · exact h
  · rename_i hn
    have hdrop : ∀ t ∈ L.drop (cntX l L), ltX l t = true := fun t ht => by
      obtain ⟨i, hi, rfl⟩ := List.getElem_of_mem ht
      rw [List.length_drop] at hi
      have hc : cntX l L < L.length := by omega
      have h1 := cntX_no hc
      have h2 : ltX l (tsAt L (cntX l L)) = true := by
        cases e : ltX l (tsAt L (cntX l L)) with
        | true => rfl
        | false => exact absurd ⟨hc, ltX_tot h1 e⟩ hn
      rw [List.getElem_drop]
      by_cases e : i = 0
      · subst e
        simpa [tsAt, List.getD, hc] using h2
      · have h3 := asc_ts h (i := cntX l L) (j := cntX l L + i) (by omega) (by omega)
        have := ltX_trans h2 h3
        simpa [tsAt, List.getD, show cntX l L + i < L.length by omega] using this
    have htake : ∀ t ∈ L.take (cntX l L), ltX t l = true := fun t ht => by
      obtain ⟨i, hi, rfl⟩ := List.getElem_of_mem ht
      rw [List.length_take] at hi
      have := cntX_lt (l := l) (L := L) (j := i) (by omega)
      simpa [tsAt, List.getD, show i < L.length by omega] using this
    refine List.pairwise_append.2 ⟨h.sublist (List.take_sublist _ _), List.pairwise_cons.2 ⟨hdrop, h.sublist (List.drop_sublist _ _)⟩, fun a ha b hb => ?_⟩
    rw [List.mem_cons] at hb
    rcases hb with rfl | hb
    · exact htake a ha
    · exact ltX_trans (htake a ha) (hdrop b hb)
theorem putX_len {L : List (List T3)} {l : List T3} : (putX L l).length ≤ L.length + 1 := by
  unfold putX
  split
  · omega
  · have := cntX_le l L
    simp; omega
/-- The first k lists of L put in, one after the other. -/
def catX (L : List (List T3)) : Nat → List (List T3)
  | 0 => []
  | k + 1 => putX (catX L k) (tsAt L k)
theorem catX_asc (L : List (List T3)) : ∀ k, AscX (catX L k)
  | 0 => List.Pairwise.nil
  | k + 1 => putX_asc (catX_asc L k)
theorem catX_len (L : List (List T3)) : ∀ k, (catX L k).length ≤ k
  | 0 => Nat.le_refl _
  | k + 1 => Nat.le_trans putX_len (by have := catX_len L k; omega)
theorem catX_mem (L : List (List T3)) {t : List T3} : ∀ k, k ≤ L.length → (t ∈ catX L k ↔ ∃ j, j < k ∧ t = tsAt L j)
  | 0, _ => by simp [catX]
  | k + 1, hk => by
    show t ∈ putX (catX L k) (tsAt L k) ↔ _
    rw [putX_mem, catX_mem L k (by omega)]
    constructor
    · rintro (h | ⟨j, hj, h⟩)
      · exact ⟨k, by omega, h⟩
      · exact ⟨j, by omega, h⟩
    · rintro ⟨j, hj, h⟩
      by_cases e : j = k
      · subst e; exact .inl h
      · exact .inr ⟨j, by omega, h⟩
theorem catX_iff (L : List (List T3)) {t : List T3} : t ∈ catX L L.length ↔ t ∈ L := by
  rw [catX_mem L _ (Nat.le_refl _)]
  exact ⟨fun ⟨j, hj, e⟩ => by rw [e]; exact ts_mem hj, fun h => mem_ts h⟩
/-- What is in order and has the same members is the catalogue. -/
theorem catX_eq {L M : List (List T3)} (h : AscX M) (hm : ∀ t, t ∈ M ↔ t ∈ L) : M = catX L L.length :=
  asc_unique h (catX_asc L _) fun t => by rw [hm, catX_iff]

/-! ### A list in order, without what comes again -/
/-- The first k of a list, without those that are as the one before. -/
def cmpX (M : List (List T3)) : Nat → List (List T3)
  | 0 => []
  | k + 1 => if k = 0 ∨ tsAt M (k - 1) ≠ tsAt M k then cmpX M k ++ [tsAt M k] else cmpX M k
theorem cmpX_mem (M : List (List T3)) {t : List T3} : ∀ k, t ∈ cmpX M k ↔ ∃ j, j < k ∧ t = tsAt M j
  | 0 => by simp [cmpX]
  | k + 1 => by
    have ih := cmpX_mem M (t := t) k
    unfold cmpX
    split
    · rw [List.mem_append, ih, List.mem_singleton]
      constructor
      · rintro (⟨j, hj, e⟩ | e)
        · exact ⟨j, by omega, e⟩
        · exact ⟨k, by omega, e⟩
      · rintro ⟨j, hj, e⟩
        by_cases h : j = k
        · subst h; exact .inr e
        · exact .inl ⟨j, by omega, e⟩
    · rename_i hn
      have hk0 : k ≠ 0 := fun e => hn (.inl e)
      have hsame : tsAt M (k - 1) = tsAt M k := by
        by_cases e : tsAt M (k - 1) = tsAt M k
        · exact e
        · exact absurd (.inr e) hn
      rw [ih]
      constructor
      · rintro ⟨j, hj, e⟩
        exact ⟨j, by omega, e⟩
      · rintro ⟨j, hj, e⟩
        by_cases h : j = k
        · subst h; exact ⟨j - 1, by omega, by rw [e, hsame]⟩
        · exact ⟨j, by omega, e⟩
/-- In order, later ones not before earlier ones. -/
def SrtX (M : List (List T3)) : Prop := ∀ i j, i < j → j < M.length → ltX (tsAt M j) (tsAt M i) = false
theorem cmpX_asc {M : List (List T3)} (h : SrtX M) : ∀ k, k ≤ M.length → AscX (cmpX M k)
  | 0, _ => List.Pairwise.nil
  | k + 1, hk => by
    have ih := cmpX_asc h k (by omega)
    unfold cmpX
    split
    · rename_i hc
      refine List.pairwise_append.2 ⟨ih, List.pairwise_singleton _ _, fun a ha b hb => ?_⟩
      rw [List.mem_singleton] at hb
      subst hb
      obtain ⟨j, hj, rfl⟩ := (cmpX_mem M k).1 ha
      have hne : tsAt M (k - 1) ≠ tsAt M k := hc.resolve_left (by omega)
      have h1 := h (k - 1) k (by omega) (by omega)
      have h2 : ltX (tsAt M (k - 1)) (tsAt M k) = true := by
        cases e : ltX (tsAt M (k - 1)) (tsAt M k) with
        | true => rfl
        | false => exact absurd (ltX_tot e h1) hne
      by_cases e : j = k - 1
      · rw [e]; exact h2
      · have h3 := h j (k - 1) (by omega) (by omega)
        cases e3 : ltX (tsAt M j) (tsAt M (k - 1)) with
        | true => exact ltX_trans e3 h2
        | false => rw [ltX_tot e3 h3]; exact h2
    · exact ih
theorem cmpX_cat {M L : List (List T3)} (h : SrtX M) (hm : ∀ t, t ∈ M ↔ t ∈ L) : cmpX M M.length = catX L L.length :=
  catX_eq (cmpX_asc h _ (Nat.le_refl _)) fun t => by
    rw [cmpX_mem, ← hm]
    exact ⟨fun ⟨j, hj, e⟩ => by rw [e]; exact ts_mem hj, fun h => mem_ts h⟩

/-! ### The results -/
def fmL (L : List (List T3)) : List (List T3) := (List.range L.length).map (nfAt L)
theorem fmL_len (L : List (List T3)) : (fmL L).length = L.length := by simp [fmL]
theorem fmL_at {L : List (List T3)} {i : Nat} (h : i < L.length) : tsAt (fmL L) i = nfAt L i := by simp [tsAt, fmL, List.getD, h]
/-- The catalogue of a list of forms, if it is not too long. -/
def ctdR (L : List (List T3)) : List (List T3) × Bool := if (catX L L.length).length ≤ 10 then (catX L L.length, true) else ([], false)
def coR (L : List (List T3)) : List (List T3) × Bool := if nfB L then (catX (fmL L) (fmL L).length, true) else ([], false)
def mcR (A B : List (List T3)) : List (List T3) × Bool := if ctB A && ctB B then ctdR (A ++ B) else ([], false)
end Go.Proofs.YteapdildbfimnaaGreatDoor
