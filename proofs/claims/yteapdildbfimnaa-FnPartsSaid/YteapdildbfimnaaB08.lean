/- Parts of the proof of LawFnParts: contracts of functions, laws of an abstract state, plain facts. No conditions. -/
import Derived.Test.YteapdildbfimnaaB07
namespace Go.Proofs.Yteapdildbfimnaa
open Go.RowKit Go.Proofs
set_option linter.unusedSimpArgs false
set_option linter.unusedVariables false

theorem cut_ltr {b : ByteArray} {j : Nat} (hj : j < lenB b) : ByteArray.mk (List.toArray (((bytesOf b).drop j).take (j + 1 - j))) = strOfNums [byteI b j] := by
  rw [show j + 1 - j = 1 by omega]
  have hj' : j < (bytesOf b).length := hj
  have e : ((bytesOf b).drop j).take 1 = [(bytesOf b).getD j 0] := by
    rw [List.drop_eq_getElem_cons hj', List.take_succ_cons, List.take_zero]
    simp [List.getD, hj']
  rw [e]
  apply ByteArray.ext
  simp [strOfNums, byteI]

noncomputable def gtJ (l : List ByteArray) : Nat := bestJ (sizeN l.length (lenB (stAt l 0)) (labL l)) (l.length * lenB (stAt l 0))
noncomputable def gtR (l : List ByteArray) : ByteArray × Int × Bool := if picB l then (strOfNums [gP l (gtJ l)], ((sizeN l.length (lenB (stAt l 0)) (labL l) (gtJ l) : Nat) : Int), true) else (⟨#[]⟩, 0, false)
theorem gtR_yes {l : List ByteArray} (h : picB l = true) : gtR l = (strOfNums [gP l (gtJ l)], ((sizeN l.length (lenB (stAt l 0)) (labL l) (gtJ l) : Nat) : Int), true) := by unfold gtR; rw [h]; rfl
theorem gtR_no {l : List ByteArray} (h : picB l = false) : gtR l = (⟨#[]⟩, 0, false) := by unfold gtR; rw [h]; rfl

theorem mostL_suc (P : List (Int × Nat)) {k : Nat} (hk : k < P.length) (b : Int × Nat) : mostL (P.take (k + 1)) b = if (mostL (P.take k) b).2 < (P.getD k (0, 0)).2 then P.getD k (0, 0) else mostL (P.take k) b := by
  rw [List.take_add_one, mostL_app]
  simp [List.getD, hk, mostL]
theorem mostL_le (P : List (Int × Nat)) {m : Nat} (h : ∀ x ∈ P, x.2 ≤ m) : ∀ b : Int × Nat, b.2 ≤ m → (mostL P b).2 ≤ m := by
  induction P with
  | nil => intro b hb; exact hb
  | cons x P ih =>
    intro b hb
    refine ih (fun y hy => h y (List.mem_cons_of_mem _ hy)) _ ?_
    split
    · exact h x (by simp)
    · exact hb
theorem partsL_le {H W : Nat} {g : Nat → Int} {L : Nat → Nat} : ∀ t, ∀ x ∈ partsL H W g L t, x.2 ≤ H * W
  | 0, x, h => (nomatch h)
  | t + 1, x, h => by
    by_cases e : L t = t
    · rw [partsL_yes e, List.mem_append] at h
      rcases h with h | h
      · exact partsL_le t x h
      · rw [List.mem_singleton] at h; subst h; exact cntN_le _ _
    · rw [partsL_no e] at h; exact partsL_le t x h

set_option maxHeartbeats 4000000 in
set_option maxRecDepth 20000 in
theorem implGreatestPart_fn (l : List ByteArray) (hl : l.length ≤ 1099511627776) : Fn Try.prog 33 [strs l] (.many [.pv (vs (gtR l).1), .pv (vi (gtR l).2.1), .pv (vb (gtR l).2.2)]) := by
  refine Fn.of_body Try.call33 Try.func33 rfl Try.ntmps33 (ts := [2, 3, 4]) rfl (by simp) rfl (fun N => ?_)
  have hpic := isPicture_fn l hl
  cases hp : picB l with
  | true =>
    rw [gtR_yes hp]
    rw [hp] at hpic
    have hpp := pictureParts_fn l hp (labL_is l)
    obtain ⟨hp1, hp2, hp3⟩ := picB_parts hp
    have hHW : l.length * lenB (stAt l 0) ≤ 256 := Nat.mul_le_mul hp1.2 hp2.2
    have hpos : 0 < l.length * lenB (stAt l 0) := Nat.mul_pos (by omega) (by omega)
    have hm := most_is (g := gP l) (labL_is l) hpos (Nat.le_refl _)
    have hle := partsL_le (H := l.length) (W := lenB (stAt l 0)) (g := gP l) (L := labL l) (l.length * lenB (stAt l 0))
    have hlen := partsL_len (H := l.length) (W := lenB (stAt l 0)) (g := gP l) (L := labL l) (l.length * lenB (stAt l 0))
    have hle2 : (partsL l.length (lenB (stAt l 0)) (gP l) (labL l) (l.length * lenB (stAt l 0))).length ≤ 256 := by rw [hlen]; exact Nat.le_trans (cntN_le _ _) hHW
    clear hlen
    unfold gtJ
    generalize partsL l.length (lenB (stAt l 0)) (gP l) (labL l) (l.length * lenB (stAt l 0)) = PL at *
    generalize gP l (bestJ (sizeN l.length (lenB (stAt l 0)) (labL l)) (l.length * lenB (stAt l 0))) = G at *
    generalize sizeN l.length (lenB (stAt l 0)) (labL l) (bestJ (sizeN l.length (lenB (stAt l 0)) (labL l)) (l.length * lenB (stAt l 0))) = M at *
    repeat' (first | (with_reducible first | refine then_normal ?_ | refine then_ret ?_ | refine then_exit ?_ | refine block_normal ?_ | refine block_ret ?_) | ((with_reducible show blockQ _ _ _ _); first | refine block_exit ?_ | refine block_exit_ne rfl ?_) | ((with_reducible show AWP _ _ _ _ _); first | (with_reducible first | refine AWP.seq ?_ | refine AWP.block ?_ | refine AWP.region ?_ | refine AWP.ret ?_ | refine AWP.exit ?_ | refine AWP.skip ?_) | refine AWP.drawn rfl (by kernel_rfl) ?_ | refine AWP.cond rfl ?_ ?_) | with_reducible refine ev_nil ?_ | ((first | ((with_reducible show evOps _ _ _ _ _ _); (first | refine ev_step rfl ?_ | refine ev_undef rfl rfl rfl ?_); intro K hK) | ((with_reducible show EvOpen _ _ _ _ _ _ _); refine ev_open ?_; intro K hK) | ((with_reducible show SkOpen _ _ _ _ _ _ _); refine sk_open ?_; intro K hK) | ((with_reducible show callK _ _ _ _ _ _ _ _); first  | (refine call_scalar (hpic) (Nat.le_of_ble_eq_true rfl) rfl ?_) | (refine call_safe (hpp) (Nat.le_of_ble_eq_true rfl) (safe_parts PL) ?_))); simp only [evOp, evQ, evB, withS, opd, kput, putS, upd, lookup, argsK, bringIn, bring, Res.list, Res.slot, slotsOf, storeK, frz, storeV, setBlk, newBlk, allocK, buildK, partsK, V.one, Value.oneCell', List.set_cons_zero, Nat.zero_le, z_part, pl_part, c_part, sz_parts, bparts, List.getElem?_cons_zero, List.reverse_cons, List.reverse_nil, List.nil_append, List.cons_append, List.length_cons, List.length_nil, Nat.reduceEqDiff, Nat.reduceAdd, Nat.reduceLT, Nat.reduceLeDiff, Nat.zero_add, Nat.sub_zero, ↓reduceIte, eq_self, true_and, Bool.not_true, Option.isSome_some]) | refine ev_guard rfl rfl rfl ?_ ?_ | ((with_reducible show retQ _ _ _ _); simp only [eq_self]) | (with_reducible refine hK _ ?_; clear hK K) | (with_reducible refine And.intro ?_ ?_) | (with_reducible intro hc; try simp only [reduceCtorEq] at hc) | omega)
    all_goals try (exfalso; omega; done)
    · rename_i i; match i with
      | 0 => rfl
      | 1 => rfl
      | i + 2 => omega
    refine AWP.loop_entR [0, 1] (fun k : Nat => ⟨[(5, .one (.ptr 0 0)), (13, .one (.own 1 2 0 PL.length)), (14, sc (.int .i64 PL.length)), (15, sc (.int .i64 k))], [some (partBlk (mostL (PL.take k) (0, 0)).1 (mostL (PL.take k) (0, 0)).2), some (bparts PL)], 32⟩)
      (fun k => k ≤ PL.length) (fun k => PL.length - k) 0 (by omega) ?_ ?_
    · exact ⟨rfl, by decide, ⟨⟨rfl, rfl⟩, ⟨rfl, rfl, rfl, rfl⟩, rfl, rfl, trivial⟩, two_be (Nat.le_refl _) rfl rfl, BE.rfl' _, trivial⟩
    intro k hk
    have hml := mostL_le (PL.take k) (m := 256) (fun x hx => by have := hle x (List.mem_of_mem_take hx); omega) (0, 0) (by simp)
    by_cases hkl : k < PL.length
    · have hmk := hle (PL.getD k (0, 0)) (by simp [List.getD, hkl])
      have hsuc := mostL_suc PL hkl (0, 0)
      generalize mostL (PL.take k) (0, 0) = B0 at *
      generalize hX : PL.getD k (0, 0) = X at *
      repeat' (first | (with_reducible first | refine then_normal ?_ | refine then_ret ?_ | refine then_exit ?_ | refine block_normal ?_ | refine block_ret ?_) | ((with_reducible show blockQ _ _ _ _); first | refine block_exit ?_ | refine block_exit_ne rfl ?_) | ((with_reducible show AWP _ _ _ _ _); first | (with_reducible first | refine AWP.seq ?_ | refine AWP.block ?_ | refine AWP.region ?_ | refine AWP.ret ?_ | refine AWP.exit ?_ | refine AWP.skip ?_) | refine AWP.drawn rfl (by kernel_rfl) ?_ | refine AWP.cond rfl ?_ ?_) | with_reducible refine ev_nil ?_ | ((first | ((with_reducible show evOps _ _ _ _ _ _); (first | refine ev_step rfl ?_ | refine ev_undef rfl rfl rfl ?_); intro K hK) | ((with_reducible show EvOpen _ _ _ _ _ _ _); refine ev_open ?_; intro K hK) | ((with_reducible show SkOpen _ _ _ _ _ _ _); refine sk_open ?_; intro K hK) | ((with_reducible show callK _ _ _ _ _ _ _ _); first | fail)); simp only [evOp, evQ, bytesK, vInt, binK, withS, opd, kput, putS, upd, lookup, loadOwn, InK_i64, storeK, frz, storeV, setBlk, newBlk, allocK, partsK, buildSliceK, plSlice, V.one, Value.oneCell', List.set_cons_zero, List.set_cons_succ, c_int, u_string, bs_bytes, ei_bytes, ea_bytes, c_u8, Nat.zero_le, nat_suc, z_part, c_part, fp0, fp1, sz_parts, partF_1, bparts, partBlk, List.getElem?_cons_zero, List.getElem?_cons_succ, List.nil_append, List.cons_append, List.length_cons, List.length_nil, Nat.reduceEqDiff, Nat.reduceAdd, Nat.reduceLT, Nat.reduceLeDiff, Nat.mul_one, Nat.add_zero, Nat.zero_add, Nat.sub_zero, Nat.mod_one, List.getD_cons_zero, ↓reduceIte, eq_self, true_and, Bool.true_eq_false, Bool.false_eq_true, Int.toNat_natCast]) | refine ev_guard rfl rfl rfl ?_ ?_ | ((with_reducible show retQ _ _ _ _); simp only [retQ, retOk, getL, lookup, Option.map_some, fitsL, fits, ND, srcs, Res.list, VE, Value.int.injEq, Nat.reduceEqDiff, ↓reduceIte, and_true, true_and]) | (with_reducible refine hK _ ?_; clear hK K) | (with_reducible refine And.intro ?_ ?_) | (with_reducible intro hc; try simp only [decide_eq_true_eq, decide_eq_false_iff_not, Int.not_lt, gt_iff_lt] at hc) | omega)
      all_goals first
        | (exfalso; omega)
        | omega
        | exact partF_one _ _
        | (rw [if_pos (by omega)]; exact partF_one _ _)
        | (refine ⟨k + 1, by omega, by omega, [0, 1], rfl, by decide, ⟨⟨rfl, rfl⟩, ⟨rfl, rfl, rfl, rfl⟩, rfl, rfl, trivial⟩, ?_, BE.rfl' _, trivial⟩
           rw [hsuc, if_pos (by rw [← hX]; omega)]
           exact two_be (Nat.le_refl _) ((partF_0 PL k).trans (by rw [hX]; rfl)) ((partF_1 PL k).trans (by rw [hX]; rfl)))
        | (refine ⟨k + 1, by omega, by omega, [0, 1], rfl, by decide, ⟨⟨rfl, rfl⟩, ⟨rfl, rfl, rfl, rfl⟩, rfl, rfl, trivial⟩, ?_, BE.rfl' _, trivial⟩
           rw [hsuc, if_neg (by rw [← hX]; omega)]
           exact BE.rfl' _)
        | trace_state
    · obtain rfl : k = PL.length := by omega
      rw [List.take_length, hm]
      repeat' (first | ((with_reducible show evNd _ _ _ _ _); first | (with_reducible refine nd_done ?_) | (refine nd_take rfl ?_; intro K hK; simp only [evOp, evQ, withS, opd, kput, putS, upd, lookup, fp0, fp1, Nat.reduceEqDiff, Nat.reduceLT, Nat.add_zero, Nat.zero_add, ↓reduceIte, eq_self, true_and]) | (refine nd_one rfl ?_; intro K hK; simp only [evOp, evQ, bytesK, vInt, opd, kput, putS, upd, lookup, loadOwn, frz, newBlk, partsK, buildSliceK, plSlice, V.one, Value.oneCell', c_int, u_string, bs_bytes, ei_bytes, ea_bytes, c_u8, List.getElem?_cons_zero, List.getElem?_cons_succ, List.nil_append, List.cons_append, List.length_cons, List.length_nil, Nat.reduceEqDiff, Nat.reduceAdd, Nat.reduceLT, Nat.reduceLeDiff, Nat.mul_one, Nat.zero_add, Nat.mod_one, List.getD_cons_zero, ↓reduceIte, eq_self, true_and, Bool.false_eq_true]) | (refine nd_alt rfl ?_ ?_)) | ((with_reducible show NdOpen _ _ _ _ _ _); refine nd_open ?_; intro K hK; simp only [evOp, evQ, bytesK, vInt, opd, kput, putS, upd, lookup, loadOwn, frz, newBlk, partsK, buildSliceK, plSlice, V.one, Value.oneCell', u_string, bs_bytes, ei_bytes, ea_bytes, c_u8, List.getElem?_cons_zero, List.getElem?_cons_succ, List.nil_append, List.cons_append, List.length_cons, List.length_nil, Nat.reduceEqDiff, Nat.reduceAdd, Nat.reduceLT, Nat.reduceLeDiff, Nat.mul_one, Nat.zero_add, Nat.mod_one, List.getD_cons_zero, ↓reduceIte, eq_self, true_and, Bool.false_eq_true]) | (with_reducible first | refine then_normal ?_ | refine then_ret ?_ | refine then_exit ?_ | refine block_normal ?_ | refine block_ret ?_) | ((with_reducible show blockQ _ _ _ _); first | refine block_exit ?_ | refine block_exit_ne rfl ?_) | ((with_reducible show AWP _ _ _ _ _); first | (refine AWP.drawn_nd (id := 10) (.take 0 (.take 4 (.alt 1 (.alt 2 (.alt 3 (.take 6 (.one 5 (.take 7 (.take 8 .done)))) (.one 5 (.one 3 (.take 6 (.take 7 (.take 8 .done)))))) (.one 5 (.one 2 (.one 3 (.take 6 (.take 7 (.take 8 .done))))))) (.one 5 (.one 1 (.one 2 (.one 3 (.take 6 (.take 7 (.take 8 .done)))))))))) rfl (by kernel_rfl) ?_) | (with_reducible first | refine AWP.seq ?_ | refine AWP.block ?_ | refine AWP.region ?_ | refine AWP.ret ?_ | refine AWP.exit ?_ | refine AWP.skip ?_) | refine AWP.drawn rfl (by kernel_rfl) ?_ | refine AWP.cond rfl ?_ ?_) | with_reducible refine ev_nil ?_ | ((first | ((with_reducible show evOps _ _ _ _ _ _); (first | refine ev_step rfl ?_ | refine ev_undef rfl rfl rfl ?_); intro K hK) | ((with_reducible show EvOpen _ _ _ _ _ _ _); refine ev_open ?_; intro K hK) | ((with_reducible show SkOpen _ _ _ _ _ _ _); refine sk_open ?_; intro K hK) | ((with_reducible show callK _ _ _ _ _ _ _ _); first  | fail)); simp only [evOp, evQ, binK, withS, opd, kput, putS, upd, lookup, loadOwn, InK_i64, storeK, frz, storeV, setBlk, newBlk, allocK, List.set_cons_zero, List.set_cons_succ, c_int, Nat.zero_le, nat_suc, z_part, c_part, fp1, sz_parts, partF_1, bparts, partBlk, List.getElem?_cons_zero, List.getElem?_cons_succ, List.nil_append, List.cons_append, List.length_cons, List.length_nil, Nat.reduceEqDiff, Nat.reduceAdd, Nat.reduceLT, Nat.reduceLeDiff, Nat.zero_add, Nat.sub_zero, ↓reduceIte, eq_self, true_and, Int.toNat_natCast]) | refine ev_guard rfl rfl rfl ?_ ?_ | ((with_reducible show retQ _ _ _ _); simp only [retQ, retOk, getL, lookup, Option.map_some, fitsL, fits, ND, srcs, Res.list, VE, Nat.reduceEqDiff, ↓reduceIte, and_true]) | (with_reducible refine hK _ ?_; clear hK K) | (with_reducible refine And.intro ?_ ?_) | (with_reducible intro hc; try simp only [decide_eq_true_eq, decide_eq_false_iff_not, Int.not_lt, gt_iff_lt] at hc) | omega)
      all_goals first
        | (exfalso; omega)
        | rfl
        | (rename_i i; obtain rfl : i = 0 := (by omega); rfl)
        | trace_state
  | false =>
    rw [gtR_no hp]
    rw [hp] at hpic
    repeat' (first | (with_reducible first | refine then_normal ?_ | refine then_ret ?_ | refine then_exit ?_ | refine block_normal ?_ | refine block_ret ?_) | ((with_reducible show blockQ _ _ _ _); first | refine block_exit ?_ | refine block_exit_ne rfl ?_) | ((with_reducible show AWP _ _ _ _ _); first | (with_reducible first | refine AWP.seq ?_ | refine AWP.block ?_ | refine AWP.region ?_ | refine AWP.ret ?_ | refine AWP.exit ?_ | refine AWP.skip ?_) | refine AWP.drawn rfl (by kernel_rfl) ?_ | refine AWP.cond rfl ?_ ?_) | with_reducible refine ev_nil ?_ | ((first | ((with_reducible show evOps _ _ _ _ _ _); (first | refine ev_step rfl ?_ | refine ev_undef rfl rfl rfl ?_); intro K hK) | ((with_reducible show EvOpen _ _ _ _ _ _ _); refine ev_open ?_; intro K hK) | ((with_reducible show SkOpen _ _ _ _ _ _ _); refine sk_open ?_; intro K hK) | ((with_reducible show callK _ _ _ _ _ _ _ _); first  | (refine call_scalar (hpic) (Nat.le_of_ble_eq_true rfl) rfl ?_))); simp only [evOp, evQ, withS, opd, kput, putS, upd, lookup, argsK, bringIn, bring, Res.list, Res.slot, slotsOf, List.reverse_cons, List.reverse_nil, List.nil_append, Nat.reduceEqDiff, Nat.reduceLT, ↓reduceIte, eq_self, true_and, Bool.not_false]) | refine ev_guard rfl rfl rfl ?_ ?_ | ((with_reducible show retQ _ _ _ _); simp only [retQ, retOk, getL, lookup, Option.map_some, fitsL, fits, ND, srcs, Res.list, VE, Nat.reduceEqDiff, ↓reduceIte, and_true]) | (with_reducible refine hK _ ?_; clear hK K) | (with_reducible refine And.intro ?_ ?_) | (with_reducible intro hc; try simp only [Bool.true_eq_false] at hc) | omega)
    all_goals first
      | (exfalso; omega)
      | (exfalso; simp_all; done)
      | trace_state

theorem bestJ_suc (f : Nat → Nat) (k : Nat) : bestJ f (k + 1) = if f (bestJ f k) < f k then k else bestJ f k := rfl
theorem bestJ_lt (f : Nat → Nat) : ∀ k, 0 < k → bestJ f k < k
  | 0, h => by omega
  | k + 1, _ => by
    rw [bestJ_suc]
    split
    · omega
    · rcases Nat.eq_zero_or_pos k with rfl | h
      · exact Nat.zero_lt_one
      · have := bestJ_lt f k h; omega

set_option maxHeartbeats 4000000 in
set_option maxRecDepth 20000 in
theorem specGreatestPart_fn (l : List ByteArray) (hl : l.length ≤ 1099511627776) (hs : ∀ i, lenB (stAt l i) ≤ 1099511627776) : Fn Try.prog 34 [strs l] (.many [.pv (vs (gtR l).1), .pv (vi (gtR l).2.1), .pv (vb (gtR l).2.2)]) := by
  refine Fn.of_body Try.call34 Try.func34 rfl Try.ntmps34 (ts := [2, 3, 4]) rfl (by simp) rfl (fun N => ?_)
  have hpic := drGood_fn l hl hs
  cases hp : picB l with
  | true =>
    rw [gtR_yes hp]
    rw [hp] at hpic
    have hpp := drParts_fn l hp (labL_is l)
    obtain ⟨hp1, hp2, hp3⟩ := picB_parts hp
    have hHW : l.length * lenB (stAt l 0) ≤ 256 := Nat.mul_le_mul hp1.2 hp2.2
    have hpos : 0 < l.length * lenB (stAt l 0) := Nat.mul_pos (by omega) (by omega)
    have hlab := labL_is l
    have hLt : ∀ k, k < l.length * lenB (stAt l 0) → labL l k < l.length * lenB (stAt l 0) := fun k hk => by have := hlab.le k; omega
    clear hlab
    unfold gtJ
    have hsz : sizeN l.length (lenB (stAt l 0)) (labL l) = fun i => cntN (fun j => decide (labL l j = i)) (l.length * lenB (stAt l 0)) := rfl
    have hgp : ∀ i, gP l i = byteI (stAt l (i / lenB (stAt l 0))) (i % lenB (stAt l 0)) := fun i => rfl
    rw [hsz]
    generalize labL l = L at *
    have hn : lenB (stAt l 0) * l.length = l.length * lenB (stAt l 0) := Nat.mul_comm _ _
    rw [hn] at hpp
    have hdm : ∀ i, i < l.length * lenB (stAt l 0) → i / lenB (stAt l 0) < l.length ∧ i % lenB (stAt l 0) < lenB (stAt l 0) := fun i hi => ⟨dm_row hi, Nat.mod_lt i (by omega)⟩
    generalize hnn : l.length * lenB (stAt l 0) = n at *
    clear hn hsz
    repeat' (first | (with_reducible first | refine then_normal ?_ | refine then_ret ?_ | refine then_exit ?_ | refine block_normal ?_ | refine block_ret ?_) | ((with_reducible show blockQ _ _ _ _); first | refine block_exit ?_ | refine block_exit_ne rfl ?_) | ((with_reducible show AWP _ _ _ _ _); first | (with_reducible first | refine AWP.seq ?_ | refine AWP.block ?_ | refine AWP.region ?_ | refine AWP.ret ?_ | refine AWP.exit ?_ | refine AWP.skip ?_) | refine AWP.drawn rfl (by kernel_rfl) ?_ | refine AWP.cond rfl ?_ ?_) | with_reducible refine ev_nil ?_ | ((first | ((with_reducible show evOps _ _ _ _ _ _); (first | refine ev_step rfl ?_ | refine ev_undef rfl rfl rfl ?_); intro K hK) | ((with_reducible show EvOpen _ _ _ _ _ _ _); refine ev_open ?_; intro K hK) | ((with_reducible show SkOpen _ _ _ _ _ _ _); refine sk_open ?_; intro K hK) | ((with_reducible show callK _ _ _ _ _ _ _ _); first  | (refine call_scalar (hpic) (Nat.le_of_ble_eq_true rfl) rfl ?_) | (refine call_safe ( hpp) (Nat.le_of_ble_eq_true rfl) (by repeat' (first | exact trivial | refine ⟨fun _ _ => ⟨_, rfl⟩, ?_⟩)) ?_))); simp only [evOp, evQ, evB, withS, opd, kput, putS, upd, lookup, argsK, bringIn, bring, Res.list, Res.slot, slotsOf, makeK, newBlk, sz_ints, ei_ints, bnats, List.reverse_cons, List.reverse_nil, List.nil_append, List.cons_append, List.length_cons, List.length_nil, Nat.reduceEqDiff, Nat.reduceLT, Nat.mul_one, Nat.zero_add, Nat.mod_one, List.getD_cons_zero, ↓reduceIte, eq_self, true_and, Bool.not_true, Int.toNat_natCast, Option.isSome_some]) | refine ev_guard rfl rfl rfl ?_ ?_ | ((with_reducible show retQ _ _ _ _); simp only [eq_self]) | (with_reducible refine hK _ ?_; clear hK K) | (with_reducible refine And.intro ?_ ?_) | (with_reducible intro hc; try simp only [reduceCtorEq] at hc) | omega)
    all_goals try (exfalso; omega; done)
    all_goals try (omega; done)
    refine AWP.loop_entR [0, 1] (fun k : Nat => ⟨[(0, .one (.pv (strs l))), (5, .one (.own 0 1 0 n)), (6, .one (.own 1 1 0 n)), (21, .one (.own 0 1 0 n)), (22, sc (.int .i64 (n : Nat))), (23, sc (.int .i64 k))], [some (bnats n L), some (bnats n fun i => cntN (fun j => decide (L j = i)) k)], 72⟩)
      (fun k => k ≤ n) (fun k => n - k) 0 (by omega) ?_ ?_
    · refine ⟨rfl, by decide, ⟨VE.rfl' _, ⟨rfl, rfl, rfl, rfl⟩, ⟨rfl, rfl, rfl, rfl⟩, ⟨rfl, rfl, rfl, rfl⟩, rfl, rfl, trivial⟩, BE.rfl' _, nats_be fun i hi => rfl, trivial⟩
    intro k hk
    have hc := fun i => cntN_le (fun j => decide (L j = i)) k
    by_cases hkl : k < n
    · have h1 := hLt k hkl
      have h2 := hc (L k)
      have e1 : ∀ i, (if i = L k then vi ((cntN (fun j => decide (L j = L k)) k + 1 : Nat) : Int) else vi (cntN (fun j => decide (L j = i)) k : Nat)) = vi (cntN (fun j => decide (L j = i)) (k + 1) : Nat) := fun i => by
        rw [cntN_suc]
        by_cases e : i = L k
        · rw [if_pos e, if_pos (by simp [e]), e]
        · rw [if_neg e, if_neg (by simp; exact fun h => e h.symm), Nat.add_zero]
      repeat' (first | (with_reducible first | refine then_normal ?_ | refine then_ret ?_ | refine then_exit ?_ | refine block_normal ?_ | refine block_ret ?_) | ((with_reducible show blockQ _ _ _ _); first | refine block_exit ?_ | refine block_exit_ne rfl ?_) | ((with_reducible show AWP _ _ _ _ _); first | (with_reducible first | refine AWP.seq ?_ | refine AWP.block ?_ | refine AWP.region ?_ | refine AWP.ret ?_ | refine AWP.exit ?_ | refine AWP.skip ?_) | refine AWP.drawn rfl (by kernel_rfl) ?_ | refine AWP.cond rfl ?_ ?_) | with_reducible refine ev_nil ?_ | ((first | ((with_reducible show evOps _ _ _ _ _ _); (first | refine ev_step rfl ?_ | refine ev_undef rfl rfl rfl ?_); intro K hK) | ((with_reducible show EvOpen _ _ _ _ _ _ _); refine ev_open ?_; intro K hK) | ((with_reducible show SkOpen _ _ _ _ _ _ _); refine sk_open ?_; intro K hK) | ((with_reducible show callK _ _ _ _ _ _ _ _); first | fail)); simp only [evOp, evQ, evB, binK, withS, opd, kput, putS, upd, lookup, loadOwn, InK_i64, storeK, frz, storeV, setBlk, V.one, Value.oneCell', List.set_cons_zero, List.set_cons_succ, sz_ints, c_int, bnats, nat_suc, List.getElem?_cons_zero, List.getElem?_cons_succ, Nat.reduceEqDiff, Nat.reduceLT, Nat.mul_one, Nat.zero_add, ↓reduceIte, eq_self, true_and, Int.toNat_natCast, Option.isSome_some]) | refine ev_guard rfl rfl rfl ?_ ?_ | ((with_reducible show retQ _ _ _ _); simp only [eq_self]) | (with_reducible refine hK _ ?_; clear hK K) | (with_reducible refine And.intro ?_ ?_) | (with_reducible intro hc; try simp only [decide_eq_true_eq, decide_eq_false_iff_not, Int.not_lt] at hc) | omega)
      all_goals first
        | (exfalso; omega)
        | omega
        | exact ⟨k + 1, by omega, by omega, [0, 1], rfl, by decide, ⟨VE.rfl' _, ⟨rfl, rfl, rfl, rfl⟩, ⟨rfl, rfl, rfl, rfl⟩, ⟨rfl, rfl, rfl, rfl⟩, rfl, rfl, trivial⟩, BE.rfl' _, nats_be fun i hi => e1 i, trivial⟩
        | trace_state
    obtain rfl : k = n := by omega
    clear hc
    have hc := fun i => cntN_le (fun j => decide (L j = i)) k
    generalize hf : (fun i => cntN (fun j => decide (L j = i)) k) = f at *
    have hfi : ∀ i, f i ≤ k := fun i => by rw [← hf]; exact hc i
    clear hc hf
    repeat' (first | (with_reducible first | refine then_normal ?_ | refine then_ret ?_ | refine then_exit ?_ | refine block_normal ?_ | refine block_ret ?_) | ((with_reducible show blockQ _ _ _ _); first | refine block_exit ?_ | refine block_exit_ne rfl ?_) | ((with_reducible show AWP _ _ _ _ _); first | (with_reducible first | refine AWP.seq ?_ | refine AWP.block ?_ | refine AWP.region ?_ | refine AWP.ret ?_ | refine AWP.exit ?_ | refine AWP.skip ?_) | refine AWP.drawn rfl (by kernel_rfl) ?_ | refine AWP.cond rfl ?_ ?_) | with_reducible refine ev_nil ?_ | ((first | ((with_reducible show evOps _ _ _ _ _ _); (first | refine ev_step rfl ?_ | refine ev_undef rfl rfl rfl ?_); intro K hK) | ((with_reducible show EvOpen _ _ _ _ _ _ _); refine ev_open ?_; intro K hK) | ((with_reducible show SkOpen _ _ _ _ _ _ _); refine sk_open ?_; intro K hK) | ((with_reducible show callK _ _ _ _ _ _ _ _); first | fail)); simp only [evOp, evQ, evB, binK, withS, opd, kput, putS, upd, lookup, loadOwn, InK_i64, storeK, frz, storeV, setBlk, V.one, Value.oneCell', List.set_cons_zero, List.set_cons_succ, sz_ints, c_int, bnats, nat_suc, List.getElem?_cons_zero, List.getElem?_cons_succ, Nat.reduceEqDiff, Nat.reduceLT, Nat.mul_one, Nat.zero_add, ↓reduceIte, eq_self, true_and, Int.toNat_natCast, Option.isSome_some]) | refine ev_guard rfl rfl rfl ?_ ?_ | ((with_reducible show retQ _ _ _ _); simp only [eq_self]) | (with_reducible refine hK _ ?_; clear hK K) | (with_reducible refine And.intro ?_ ?_) | (with_reducible intro hc; try simp only [decide_eq_true_eq, decide_eq_false_iff_not, Int.not_lt] at hc) | omega)
    all_goals try (exfalso; omega; done)
    refine AWP.loop_entR [1] (fun j : Nat => ⟨[(0, .one (.pv (strs l))), (6, .one (.own 0 1 0 k)), (9, sc (.int .i64 (bestJ f j : Nat))), (34, .one (.own 0 1 0 k)), (35, sc (.int .i64 (k : Nat))), (36, sc (.int .i64 j))], [some (bnats k f)], 72⟩)
      (fun j => j ≤ k) (fun j => k - j) 0 (by omega) ?_ ?_
    · exact ⟨rfl, by decide, ⟨VE.rfl' _, ⟨rfl, rfl, rfl, rfl⟩, rfl, ⟨rfl, rfl, rfl, rfl⟩, rfl, rfl, trivial⟩, BE.rfl' _, trivial⟩
    intro j hj
    have hb := bestJ_lt f j
    by_cases hjl : j < k
    · have h1 := hfi j
      have h2 := hfi (bestJ f j)
      have hbk : bestJ f j < k := by
        rcases Nat.eq_zero_or_pos j with rfl | h
        · exact hpos
        · have := hb h; omega
      have hsuc := bestJ_suc f j
      repeat' (first | (with_reducible first | refine then_normal ?_ | refine then_ret ?_ | refine then_exit ?_ | refine block_normal ?_ | refine block_ret ?_) | ((with_reducible show blockQ _ _ _ _); first | refine block_exit ?_ | refine block_exit_ne rfl ?_) | ((with_reducible show AWP _ _ _ _ _); first | (with_reducible first | refine AWP.seq ?_ | refine AWP.block ?_ | refine AWP.region ?_ | refine AWP.ret ?_ | refine AWP.exit ?_ | refine AWP.skip ?_) | refine AWP.drawn rfl (by kernel_rfl) ?_ | refine AWP.cond rfl ?_ ?_) | with_reducible refine ev_nil ?_ | ((first | ((with_reducible show evOps _ _ _ _ _ _); (first | refine ev_step rfl ?_ | refine ev_undef rfl rfl rfl ?_); intro K hK) | ((with_reducible show EvOpen _ _ _ _ _ _ _); refine ev_open ?_; intro K hK) | ((with_reducible show SkOpen _ _ _ _ _ _ _); refine sk_open ?_; intro K hK) | ((with_reducible show callK _ _ _ _ _ _ _ _); first | fail)); simp only [evOp, evQ, evB, binK, withS, opd, kput, putS, upd, lookup, loadOwn, InK_i64, cutK, boundK, sz_ints, c_int, sz_strs, c_string, u_string, lenB_is, bnats, nat_quo, nat_rem, nat_suc, List.getElem?_cons_zero, Nat.reduceEqDiff, Nat.reduceLT, Nat.mul_one, Nat.add_zero, Nat.zero_add, ↓reduceIte, eq_self, true_and, Int.toNat_natCast, Int.toNat_zero]) | refine ev_guard rfl rfl rfl ?_ ?_ | ((with_reducible show retQ _ _ _ _); simp only [retQ, retOk, getL, lookup, Option.map_some, fitsL, fits, ND, srcs, Res.list, VE, Value.int.injEq, Nat.reduceEqDiff, ↓reduceIte, and_true, true_and]) | (with_reducible refine hK _ ?_; clear hK K) | (with_reducible refine And.intro ?_ ?_) | (with_reducible intro hc; try simp only [decide_eq_true_eq, decide_eq_false_iff_not, Int.not_lt, gt_iff_lt] at hc) | omega)
      all_goals first
        | (exfalso; omega)
        | omega
        | (refine ⟨j + 1, by omega, by omega, [0], rfl, by decide, ⟨VE.rfl' _, ⟨rfl, rfl, rfl, rfl⟩, ?_, ⟨rfl, rfl, rfl, rfl⟩, rfl, rfl, trivial⟩, BE.rfl' _, trivial⟩
           rw [hsuc, if_pos (by omega)]; rfl)
        | (refine ⟨j + 1, by omega, by omega, [0], rfl, by decide, ⟨VE.rfl' _, ⟨rfl, rfl, rfl, rfl⟩, ?_, ⟨rfl, rfl, rfl, rfl⟩, rfl, rfl, trivial⟩, BE.rfl' _, trivial⟩
           rw [hsuc, if_neg (by omega)]; rfl)
        | trace_state
    obtain rfl : j = k := by omega
    have hb := hb hpos
    have hd := hdm _ hb
    have hfb := hfi (bestJ f j)
    generalize bestJ f j = B at *
    have hrow := hp3 _ hd.1
    have hct := cut_ltr (b := stAt l (B / lenB (stAt l 0))) (j := B % lenB (stAt l 0)) (by omega)
    rw [hgp]
    repeat' (first | (with_reducible first | refine then_normal ?_ | refine then_ret ?_ | refine then_exit ?_ | refine block_normal ?_ | refine block_ret ?_) | ((with_reducible show blockQ _ _ _ _); first | refine block_exit ?_ | refine block_exit_ne rfl ?_) | ((with_reducible show AWP _ _ _ _ _); first | (with_reducible first | refine AWP.seq ?_ | refine AWP.block ?_ | refine AWP.region ?_ | refine AWP.ret ?_ | refine AWP.exit ?_ | refine AWP.skip ?_) | refine AWP.drawn rfl (by kernel_rfl) ?_ | refine AWP.cond rfl ?_ ?_) | with_reducible refine ev_nil ?_ | ((first | ((with_reducible show evOps _ _ _ _ _ _); (first | refine ev_step rfl ?_ | refine ev_undef rfl rfl rfl ?_); intro K hK) | ((with_reducible show EvOpen _ _ _ _ _ _ _); refine ev_open ?_; intro K hK) | ((with_reducible show SkOpen _ _ _ _ _ _ _); refine sk_open ?_; intro K hK) | ((with_reducible show callK _ _ _ _ _ _ _ _); first | fail)); simp only [evOp, evQ, evB, binK, withS, opd, kput, putS, upd, lookup, loadOwn, InK_i64, cutK, boundK, sz_ints, c_int, sz_strs, c_string, u_string, lenB_is, bnats, nat_quo, nat_rem, nat_suc, List.getElem?_cons_zero, Nat.reduceEqDiff, Nat.reduceLT, Nat.mul_one, Nat.add_zero, Nat.zero_add, ↓reduceIte, eq_self, true_and, Int.toNat_natCast, Int.toNat_zero]) | refine ev_guard rfl rfl rfl ?_ ?_ | ((with_reducible show retQ _ _ _ _); simp only [retQ, retOk, getL, lookup, Option.map_some, fitsL, fits, ND, srcs, Res.list, VE, Nat.reduceEqDiff, ↓reduceIte, and_true]) | (with_reducible refine hK _ ?_; clear hK K) | (with_reducible refine And.intro ?_ ?_) | (with_reducible intro hc; try simp only [decide_eq_true_eq, decide_eq_false_iff_not, Int.not_lt, gt_iff_lt] at hc) | omega)
    all_goals first
      | (exfalso; omega)
      | omega
      | exact Int.natCast_nonneg _
      | exact Int.le_trans (by decide) (Int.natCast_nonneg _)
      | exact congrArg Value.string hct
      | exact Int.ofNat_lt.2 hd.1
      | trace_state
  | false =>
    rw [gtR_no hp]
    rw [hp] at hpic
    repeat' (first | (with_reducible first | refine then_normal ?_ | refine then_ret ?_ | refine then_exit ?_ | refine block_normal ?_ | refine block_ret ?_) | ((with_reducible show blockQ _ _ _ _); first | refine block_exit ?_ | refine block_exit_ne rfl ?_) | ((with_reducible show AWP _ _ _ _ _); first | (with_reducible first | refine AWP.seq ?_ | refine AWP.block ?_ | refine AWP.region ?_ | refine AWP.ret ?_ | refine AWP.exit ?_ | refine AWP.skip ?_) | refine AWP.drawn rfl (by kernel_rfl) ?_ | refine AWP.cond rfl ?_ ?_) | with_reducible refine ev_nil ?_ | ((first | ((with_reducible show evOps _ _ _ _ _ _); (first | refine ev_step rfl ?_ | refine ev_undef rfl rfl rfl ?_); intro K hK) | ((with_reducible show EvOpen _ _ _ _ _ _ _); refine ev_open ?_; intro K hK) | ((with_reducible show SkOpen _ _ _ _ _ _ _); refine sk_open ?_; intro K hK) | ((with_reducible show callK _ _ _ _ _ _ _ _); first  | (refine call_scalar (hpic) (Nat.le_of_ble_eq_true rfl) rfl ?_))); simp only [evOp, evQ, withS, opd, kput, putS, upd, lookup, argsK, bringIn, bring, Res.list, Res.slot, slotsOf, List.reverse_cons, List.reverse_nil, List.nil_append, Nat.reduceEqDiff, Nat.reduceLT, ↓reduceIte, eq_self, true_and, Bool.not_false]) | refine ev_guard rfl rfl rfl ?_ ?_ | ((with_reducible show retQ _ _ _ _); simp only [retQ, retOk, getL, lookup, Option.map_some, fitsL, fits, ND, srcs, Res.list, VE, Nat.reduceEqDiff, ↓reduceIte, and_true]) | (with_reducible refine hK _ ?_; clear hK K) | (with_reducible refine And.intro ?_ ?_) | (with_reducible intro hc; try simp only [Bool.true_eq_false] at hc) | omega)
    all_goals first
      | (exfalso; omega)
      | (exfalso; simp_all; done)
      | trace_state
end Go.Proofs.Yteapdildbfimnaa
namespace Go.Proofs.Yteapdildbfimnaa
set_option linter.unusedSimpArgs false
set_option linter.unusedVariables false
open Go.RowKit

/-- Called with a slice of n cells from its block's head, which hold D, and us, the function f leaves some D' in them, and returns v, where R D' v; all else is as it was. -/
structure FnM (P : Program) (f : FuncId) (n : Nat) (D : Nat → V) (us : List Value) (R : (Nat → V) → Value → Prop) : Prop where
  entry : ∀ (args : Array Value) (w : World), (callFunc f args).run P w = .ok (.enter f args) w
  runs : ∀ (w : World) (b c : Nat) (cur : Array Value) (e : TypeId), Gb w b e cur → n ≤ c → c ≤ maxLen → cur.size = c → (∀ i, i < n → ∃ x, cur[i]? = some x ∧ D i = .val x) →
    Calls P f (.slice (some ⟨b, 0, none⟩) n c :: us).toArray w fun e' w' => ∃ (D' : Nat → V) (v : Value), R D' v ∧ e' = .returned v ∧ AllBut b w w' ∧
      ∃ cur' : Array Value, Gb w' b e cur' ∧ cur'.size = cur.size ∧ ∀ i, i < n → ∃ x, cur'[i]? = some x ∧ D' i = .val x

def slotV : Value → Slot
  | .tuple us => .many (us.toList.map fun u => .pv (.val u))
  | v => sc v
theorem rdSs_us {w : World} {S : Nat → Prop} {φ : List (Option (Nat × Nat))} : ∀ us : List Value, RdSs w S φ (us.map fun u => SV.pv (.val u)) us
  | [] => trivial
  | _ :: us => ⟨rfl, rdSs_us us⟩
theorem slotV_rd {w : World} {S : Nat → Prop} {φ : List (Option (Nat × Nat))} (v : Value) : RdSlot w S φ (slotV v) v := by
  unfold slotV
  split
  · rename_i us
    exact ⟨us.toList, by simp, rdSs_us _⟩
  · exact rfl

/-- What a slot holds when the cells hold g. -/
def rwSl (g : Nat → V) : Slot → Option Slot
  | .one (.pv (.val v)) => some (.one (.pv (.val v)))
  | .one (.pv (.grow u Z e sz n _)) => some (.one (.pv (.grow u Z e sz n g)))
  | .one (.own i sz off len) => some (.one (.own i sz off len))
  | .one (.ptr i off) => some (.one (.ptr i off))
  | _ => none
def rwS (g : Nat → V) : List (Nat × Slot) → List (Nat × Slot)
  | [] => []
  | (t, v) :: r => match rwSl g v with
    | some v' => (t, v') :: rwS g r
    | none => rwS g r
def okR (b c : Nat) (e : TypeId) (n : Nat) : Slot → Prop
  | .one (.pv (.grow u Z e' sz m _)) => u = .slice (some ⟨b, 0, none⟩) n c ∧ Z = isB b ∧ e' = e ∧ sz = 1 ∧ m = n
  | _ => True
def okRS (b c : Nat) (e : TypeId) (n : Nat) : List (Nat × Slot) → Prop
  | [] => True
  | (_, v) :: r => okR b c e n v ∧ okRS b c e n r
theorem okRS_get {b c : Nat} {e : TypeId} {n t : Nat} {v : Slot} : ∀ {σ : List (Nat × Slot)}, okRS b c e n σ → lookup σ t = some v → okR b c e n v
  | [], _, h => by cases h
  | (i, x) :: r, ho, h => by
    simp only [lookup] at h
    split at h
    · injection h with h; subst h; exact ho.1
    · exact okRS_get ho.2 h
theorem rw_keys {g : Nat → V} {t : Nat} : ∀ {σ : List (Nat × Slot)}, σ.all (fun p => p.1 != t) = true → (rwS g σ).all (fun p => p.1 != t) = true
  | [], _ => rfl
  | (i, v) :: r, h => by
    simp only [List.all_cons, Bool.and_eq_true] at h
    unfold rwS
    split
    · simp only [List.all_cons, Bool.and_eq_true]; exact ⟨h.1, rw_keys h.2⟩
    · exact rw_keys h.2
theorem rw_get {g : Nat → V} {t : Nat} {v' : Slot} : ∀ {σ : List (Nat × Slot)}, keysB σ = true → lookup (rwS g σ) t = some v' → ∃ v, lookup σ t = some v ∧ rwSl g v = some v'
  | [], _, h => by cases h
  | (i, v) :: r, hk, h => by
    simp only [keysB, Bool.and_eq_true] at hk
    simp only [lookup]
    unfold rwS at h
    by_cases e : i = t
    · subst e
      rw [if_pos rfl]
      split at h
      · rename_i v1 hv
        simp only [lookup, if_pos] at h
        exact ⟨v, rfl, by rw [hv]; exact h⟩
      · rw [lookup_none (rw_keys hk.1)] at h; cases h
    · rw [if_neg e]
      split at h
      · simp only [lookup] at h
        rw [if_neg e] at h
        exact rw_get hk.2 h
      · exact rw_get hk.2 h

section
variable {P : Program} {w0 : World} {S0 : Nat → Prop} {s : ASt} {φ : List (Option (Nat × Nat))} {a : Act} {w : World} {N : Nat}

/-- The cells have been written: the state is told of it. -/
theorem SimAt.turned [Cx] {b c n : Nat} {e : TypeId} {w1 : World} {g : Nat → V} {cur : Array Value} (hN : w0.heap.size = N) (sim : SimAt w0 S0 s φ a w) (hst : Stab w0 S0 s.h φ b) (hX : Cx.X b ∨ N ≤ b) (hAB : AllBut b w w1) (hlt0 : b < w.heap.size)
    (hcur : Gb w1 b e cur) (hsz : cur.size = c) (hg : ∀ i, i < n → ∃ x, cur[i]? = some x ∧ g i = .val x)
    (hk : keysB s.σ = true) (hσ : okRS b c e n s.σ) (hh : okH b s.h) : ∃ w0', Reb w0 w0' ∧ SimAt w0' S0 ⟨rwS g s.σ, s.h, s.nt⟩ φ a w1 := by
  obtain ⟨te, fr, hob⟩ := hcur.obj
  obtain ⟨w0', hw0'⟩ : ∃ w0' : World, w0' = { w0 with heap := w0.heap.setIfInBounds b (.cells cur te fr) } := ⟨_, rfl⟩
  have hs : w0'.heap.size = w0.heap.size := by rw [hw0']; simp
  have hoth : ∀ j, j ≠ b → w0'.heap[j]? = w0.heap[j]? := fun j hj => by rw [hw0']; exact Array.getElem?_setIfInBounds_ne (fun h => hj h.symm)
  have hb0 : b < w0.heap.size → w0'.heap[b]? = some (.cells cur te fr) := fun h => by rw [hw0']; simp [h]
  have hw : Wr w1 b := hcur.wr
  have ho : OnlyIn (isB b) w w1 := ⟨hAB.os, hAB.tape, hAB.output, hAB.size, fun j hj hne => hAB.oth j hj hne, fun j ⟨cj, ej, hj⟩ => by
    by_cases e2 : j = b
    · subst e2; exact hw
    · exact ⟨cj, ej, hj.congr (hAB.oth j hj.lt e2)⟩⟩
  have hstab : ∀ j, Stab w0 S0 s.h φ j → Stab w0' S0 s.h φ j := fun j hj => ⟨by rw [hs]; exact hj.1, hj.2⟩
  have keep : ∀ (v : V) (x : Value), Keeps (isB b) v → Rd w (Stab w0 S0 s.h φ) v x → Rd w1 (Stab w0' S0 s.h φ) v x := fun v x hv hx =>
    Rd.mono (S := Stab w0 S0 s.h φ) (fun j hj _ => ⟨hstab j hj, rfl⟩) _ _ (Keeps.rd ho v x hv hx)
  refine ⟨w0', ⟨by rw [hw0'], by rw [hw0'], by rw [hw0'], by rw [hw0'], hs, fun j hj => ?_⟩, ⟨sim.heap.len, ⟨?_, ?_, ?_, ?_, fun j hj => ?_⟩, fun id blk hi => ?_, sim.heap.inj⟩, fun t v ht => ?_, ⟨sim.defers.1, Gl.any _⟩, sim.size⟩
  · by_cases ej : j = b
    · subst ej
      have : N ≤ j := hX.resolve_left hj
      rw [Array.getElem?_eq_none (by omega), Array.getElem?_eq_none (by omega)]
    · exact hoth j ej
  · rw [hAB.os, sim.heap.below.os, hw0']
  · rw [hAB.tape, sim.heap.below.tape, hw0']
  · rw [hAB.output, sim.heap.below.output, hw0']
  · rw [hs]; exact Nat.le_trans sim.heap.below.size hAB.size
  · rw [hs] at hj
    by_cases ej : j = b
    · subst ej; rw [hob, hb0 hj]
    · rw [hAB.oth j (Nat.lt_of_lt_of_le hj sim.heap.below.size) ej, hoth j ej]; exact sim.heap.below.block j hj
  · rcases sim.heap.blk id blk hi with h1 | ⟨b1, cu, h1, h2, h4, h5, h6⟩
    · exact .inl h1
    · have hne : b1 ≠ b := fun e1 => hst.2 ⟨id, blk, _, hi, e1 ▸ h1⟩
      refine .inr ⟨b1, cu, h1, by rw [hs]; exact h2, by rw [hAB.oth b1 (block_lt h4) hne]; exact h4, h5, fun i hi' => ?_⟩
      obtain ⟨x, hx, hrx⟩ := h6 i hi'
      exact ⟨x, hx, keep _ _ (okH_get hh hi i hi') hrx⟩
  · obtain ⟨v0, h1, h2⟩ := rw_get hk ht
    have h4 := okRS_get hσ h1
    obtain ⟨x, hx, hrx⟩ := sim.slots t v0 h1
    refine ⟨x, hx, ?_⟩
    unfold rwSl at h2
    split at h2 <;> first | (injection h2 with h2; subst h2) | (cases h2)
    · exact hrx
    · obtain ⟨rfl, rfl, rfl, rfl, rfl⟩ := h4
      obtain ⟨g1, g2, g3⟩ := hrx
      refine ⟨g1, fun j hj => ⟨hstab j (g2 j hj).1, ?_⟩, ?_⟩
      · have hj : j = b := hj
        subst hj; exact hw
      rcases g3 with ⟨h5, _⟩ | ⟨b', c', cur', h5, h6, h7, h8, h9, h10, h11⟩
      · rw [g1] at h5; cases h5
      · have eu := g1.symm.trans h5
        injection eu with e1 e2 e3
        injection e1 with e1
        injection e1 with e1
        subst e1 e3
        exact .inr ⟨b, c, cur, h5, h6, h7, rfl, hcur, by rw [hsz, Nat.mul_one], fun i hi => by
          obtain ⟨x, hx1, hx2⟩ := hg i (by omega)
          exact ⟨x, hx1, by rw [hx2]; rfl⟩⟩
    · exact hrx
    · exact hrx

/-- What the data's slot says. -/
theorem grow_at {t b c n : Nat} {e : TypeId} {D : Nat → V} (sim : SimAt w0 S0 s φ a w) (ht : lookup s.σ t = some (.one (.pv (.grow (.slice (some ⟨b, 0, none⟩) n c) (isB b) e 1 n D)))) :
    ∃ cur : Array Value, a.tmps[t]? = some (.slice (some ⟨b, 0, none⟩) n c) ∧ Stab w0 S0 s.h φ b ∧ Gb w b e cur ∧ cur.size = c ∧ n ≤ c ∧ c ≤ maxLen ∧ ∀ i, i < n → ∃ x, cur[i]? = some x ∧ Rd w (Stab w0 S0 s.h φ) (D i) x := by
  obtain ⟨u, hu, hr⟩ := sim.slots t _ ht
  obtain ⟨rfl, hz, hr⟩ := hr
  rcases hr with ⟨h5, _⟩ | ⟨b', c', cur', h5, h6, h7, h8, h9, h10, h11⟩
  · cases h5
  · injection h5 with e1 e2 e3
    injection e1 with e1
    injection e1 with e1
    subst e1 e3
    exact ⟨cur', hu, (hz b rfl).1, h9, by rw [h10, Nat.mul_one], h6, h7, fun i hi => h11 i (by omega)⟩

theorem ax_addr [Cx] {K : ASt → Prop} {t : TypeId} {x i : Operand} {d ty : Nat} {pos : String} {after : Array Edge} {b c n : Nat} {e : TypeId} {D : Nat → V} {κ : IntKind} {k : Int}
    (hx : opd s x = some (.one (.pv (.grow (.slice (some ⟨b, 0, none⟩) n c) (isB b) e 1 n D)))) (hi : opd s i = some (sc (.int κ k))) (hsz : elemSz P t = some 1) (h0 : 0 ≤ k) (h1 : k < n) (hd : Nat.ble (d + 1) s.nt = true) (h : K (putS s d (sc (.pointer (some ⟨b, k.toNat, none⟩))))) :
    Ax N P K ⟨some d, .indexAddr t x i, ty, pos, after, none⟩ s := by
  refine ⟨rfl, fun w0 S0 φ a w hN sim next Q hn => ?_⟩
  obtain ⟨e', ii, hu, hii, hs1⟩ := elemSz_some hsz
  obtain ⟨e0, hz, hr⟩ := sim.opd hx
  have ei := val_of sim hi
  have hrun : (execOp a.eval ⟨some d, .indexAddr t x i, ty, pos, after, none⟩).run P w = .ok (.value (.pointer (some ⟨b, k.toNat, none⟩))) w := by
    simp only [execOp, e0, ei, Sem.run_bind, run_indexAt hu hii _ _ _ _ _ h0 h1, Result.andThen_ok, add_none, hs1, Nat.mul_one, Nat.zero_add]
    rfl
  unfold Oper.wp
  rw [hrun, Oper.upon_value]
  exact hn _ _ _ h (Sim.R ⟨φ, sim.put (Nat.le_of_ble_eq_true hd) rfl⟩)

theorem ax_storeR [Cx] {K : ASt → Prop} {t : TypeId} {p y : Operand} {ty : Nat} {pos : String} {after : Array Edge} {v : Value} {b c n j : Nat} {e : TypeId} {D : Nat → V} (tr : Nat)
    (hr : lookup s.σ tr = some (.one (.pv (.grow (.slice (some ⟨b, 0, none⟩) n c) (isB b) e 1 n D)))) (hp : opd s p = some (sc (.pointer (some ⟨b, j, none⟩)))) (hy : opd s y = some (sc v)) (hv : v.oneCell' = true) (hc : cellsIn P t = some none) (hj : j < n) (hX : Cx.X b) (hf : ∀ i, i < n → ∃ x, D i = .val x)
    (hk : keysB s.σ = true) (hσ : okRS b c e n s.σ) (hh : okH b s.h) (h : K ⟨rwS (fun i => if i = j then .val v else D i) s.σ, s.h, s.nt⟩) :
    Ax N P K ⟨none, .store t p y, ty, pos, after, none⟩ s := by
  refine ⟨rfl, fun w0 S0 φ a w hN sim next Q hn => ?_⟩
  obtain ⟨cur, hu, hst, hcur, hsz, hnc, hcm, hcells⟩ := grow_at sim hr
  have ep : a.eval p = .pointer (some ⟨b, j, none⟩) := val_of sim hp
  have ey : a.eval y = v := val_of sim hy
  obtain ⟨x, hx, _⟩ := hcells j hj
  have hlt : j < cur.size := by omega
  have hrun := run_storeG (P := P) hc hv hcur hx
  unfold Oper.wp
  have er : (execOp a.eval ⟨none, .store t p y, ty, pos, after, none⟩).run P w = .ok .skip (w.setCell ⟨b, j, none⟩ v) := by
    unfold execOp
    simp only [ep, ey, Sem.run_bind, hrun, Result.andThen_ok]; rfl
  rw [er, Oper.upon_skip]
  have hat : Gb (w.setCell ⟨b, j, none⟩ v) b e (cur.setIfInBounds j v) := hcur.set j v
  obtain ⟨w0', hR, sim'⟩ := sim.turned (w1 := w.setCell ⟨b, j, none⟩ v) (g := fun i => if i = j then .val v else D i) hN hst (.inl hX) ⟨rfl, rfl, rfl, by rw [setCell_size]; exact Nat.le_refl _, fun k _ hk => Below.heap_setCell _ _ _ _ hk⟩ (hcur.lt) hat (by simpa using hsz) (fun i hi => by
    by_cases e3 : i = j
    · subst e3
      exact ⟨v, by simp [hlt], by simp⟩
    · obtain ⟨x, hx, hrx⟩ := hcells i hi
      obtain ⟨y', hy'⟩ := hf i hi
      rw [hy'] at hrx
      have hrx : x = y' := hrx
      exact ⟨x, by rw [Array.getElem?_setIfInBounds_ne (fun h => e3 h.symm)]; exact hx, by simp [e3, hy', hrx]⟩) hk hσ hh
  exact hn _ _ _ h ⟨w0', hR, φ, sim'⟩

/-- Scalars that are handed over. -/
def argsV (s : ASt) : List Operand → List Value → Prop
  | [], us => us = []
  | x :: xs, us => ∃ v vs, us = v :: vs ∧ opd s x = some (sc v) ∧ argsV s xs vs
theorem argsV_ok (sim : SimAt w0 S0 s φ a w) : ∀ (xs : List Operand) (us : List Value), argsV s xs us → xs.map a.eval = us
  | [], us, h => h.symm
  | x :: xs, us, h => by
    obtain ⟨v, vs, rfl, h1, h2⟩ := h
    have : a.eval x = v := val_of sim h1
    rw [List.map_cons, this, argsV_ok sim xs vs h2]

theorem run_call {f : FuncId} {args : Array Operand} {d : Option Nat} {ty : Nat} {ts : Array TypeId} {pos : String} {after : Array Edge} (he : ∀ (args : Array Value) (w : World), (callFunc f args).run P w = .ok (.enter f args) w) :
    (execOp a.eval ⟨d, .call ⟨.value (.func f), args, ts⟩, ty, pos, after, none⟩).run P w = .ok (.enter f (args.toList.map a.eval).toArray) w := by
  have e : execOp a.eval ⟨d, .call ⟨.value (.func f), args, ts⟩, ty, pos, after, none⟩ = callFunc f (#[] ++ args.map a.eval ++ #[]) := rfl
  rw [e, he]
  congr 2
  rw [← Array.toList_inj]
  simp

/-- A call that hands the data on. -/
theorem ax_callM [Cx] {K : ASt → Prop} {f : FuncId} {args : Array Operand} {x : Operand} {xs : List Operand} {d ty : Nat} {ts : Array TypeId} {pos : String} {after : Array Edge} {b c n : Nat} {e : TypeId} {D : Nat → V} {us : List Value} {R : (Nat → V) → Value → Prop}
    (ha : args.toList = x :: xs) (hr : opd s x = some (.one (.pv (.grow (.slice (some ⟨b, 0, none⟩) n c) (isB b) e 1 n D)))) (hus : argsV s xs us) (hd : Nat.ble (d + 1) s.nt = true) (hX : Cx.X b) (hf : ∀ i, i < n → ∃ x, D i = .val x)
    (hk : keysB s.σ = true) (hσ : okRS b c e n s.σ) (hh : okH b s.h) (hF : FnM P f n D us R) (h : ∀ D' v, R D' v → (∀ i, i < n → ∃ x, D' i = .val x) → K ⟨upd (rwS D' s.σ) d (slotV v), s.h, s.nt⟩) :
    Ax N P K ⟨some d, .call ⟨.value (.func f), args, ts⟩, ty, pos, after, none⟩ s := by
  refine ⟨rfl, fun w0 S0 φ a w hN sim next Q hn => ?_⟩
  obtain ⟨t, rfl⟩ : ∃ t, x = .tmp t := by
    cases x with
    | tmp t => exact ⟨t, rfl⟩
    | _ => simp [opd, sc] at hr
  have hr' : lookup s.σ t = some (.one (.pv (.grow (.slice (some ⟨b, 0, none⟩) n c) (isB b) e 1 n D))) := hr
  obtain ⟨cur, hu, hst, hcur, hsz, hnc, hcm, hcells⟩ := grow_at sim hr'
  have ex : a.eval (.tmp t) = .slice (some ⟨b, 0, none⟩) n c := by show a.tmps.getD t undef = _; simp [hu]
  unfold Oper.wp
  rw [run_call hF.entry, ha, List.map_cons, ex, argsV_ok sim xs us hus, Oper.upon_enter]
  refine (hF.runs w b c cur e hcur hnc hcm hsz fun i hi => ?_).mono ?_
  · obtain ⟨x, hx, hrx⟩ := hcells i hi
    obtain ⟨y', hy'⟩ := hf i hi
    rw [hy'] at hrx
    have hrx : x = y' := hrx
    exact ⟨x, hx, by rw [hy', hrx]⟩
  rintro e' w' ⟨D', v, hR, rfl, hAB, cur', hcur', hsz', hc'⟩
  obtain ⟨w0', hRb, sim'⟩ := sim.turned (w1 := w') (g := D') hN hst (.inl hX) hAB (hcur.lt) hcur' (by omega) hc' hk hσ hh
  exact hn _ _ _ (h D' v hR fun i hi => by obtain ⟨x, _, hx⟩ := hc' i hi; exact ⟨x, hx⟩) ⟨w0', hRb, φ, sim'.put (Nat.le_of_ble_eq_true hd) (slotV_rd v)⟩

def getV (σ : List (Nat × Slot)) : List Nat → Option (List Value)
  | [] => some []
  | t :: ts => match lookup σ t with
    | some (.one (.pv (.val v))) => (getV σ ts).map (v :: ·)
    | _ => none
def valOf : List Value → Value
  | [v] => v
  | vs => .tuple vs.toArray
theorem getV_rd (sim : SimAt w0 S0 s φ a w) : ∀ (ts : List Nat) (vs : List Value), getV s.σ ts = some vs → (ts.map fun t => a.tmps.getD t undef) = vs
  | [], vs, h => by simp [getV] at h; subst h; rfl
  | t :: ts, vs, h => by
    unfold getV at h
    split at h
    · rename_i v hv
      obtain ⟨vs', h1, rfl⟩ := Option.map_eq_some_iff.1 h
      obtain ⟨u, hu, hr⟩ := sim.slots t _ hv
      have hr : u = v := hr
      rw [List.map_cons, getV_rd sim ts vs' h1]
      simp [hu, hr]
    · cases h

/-- Where the body ends the data's slot holds some D', the results' slots v. -/
def retM (ts : List Nat) (b c : Nat) (e : TypeId) (n : Nat) (R : (Nat → V) → Value → Prop) : Exit → ASt → Prop
  | .normal, s => ∃ (D' : Nat → V) (vs : List Value), lookup s.σ 0 = some (.one (.pv (.grow (.slice (some ⟨b, 0, none⟩) n c) (isB b) e 1 n D'))) ∧ (∀ i, i < n → ∃ x, D' i = .val x) ∧ getV s.σ ts = some vs ∧ R D' (valOf vs)
  | .ret, s => ∃ (D' : Nat → V) (vs : List Value), lookup s.σ 0 = some (.one (.pv (.grow (.slice (some ⟨b, 0, none⟩) n c) (isB b) e 1 n D'))) ∧ (∀ i, i < n → ∃ x, D' i = .val x) ∧ getV s.σ ts = some vs ∧ R D' (valOf vs)
  | _, _ => False

theorem rdL_vals {w : World} : ∀ us : List Value, RdL w (fun _ => True) (us.map .val) us
  | [] => Gl.any w
  | _ :: us => ⟨rfl, rdL_vals us⟩

theorem FnM.of_body {f : FuncId} {fn : Func} {cd : Code} {nt n : Nat} {D : Nat → V} {ts : List Nat} {us : List Value} {R : (Nat → V) → Value → Prop}
    (hcall : ∀ (args : Array Value) (w : World), (callFunc f args).run P w = .ok (.enter f args) w) (hf : P.funcs[f]? = some fn) (hb : fn.body = some cd) (hnt : fn.ntmps = nt)
    (hres : fn.results = (ts.map ResultVar.tmp).toArray) (hlen : us.length + 1 ≤ nt) (hD : ∀ i, i < n → ∃ x, D i = .val x)
    (h : ∀ (N b c : Nat) (e : TypeId) (cx : Cx), cx.X b → b < N → n ≤ c → @AWP cx N P cd (retM ts b c e n R) ⟨slotsOf 0 (.grow (.slice (some ⟨b, 0, none⟩) n c) (isB b) e 1 n D :: us.map .val), [], nt⟩) : FnM P f n D us R := by
  refine ⟨hcall, fun w b c cur e hcur hnc hcm hsz hcells => calls_of_wp hf hb ?_⟩
  have hblt : b < w.heap.size := hcur.lt
  have sim := body_start (w := w) (fn := fn) (vs := .grow (.slice (some ⟨b, 0, none⟩) n c) (isB b) e 1 n D :: us.map .val) (us := .slice (some ⟨b, 0, none⟩) n c :: us) hnt (by simpa using hlen) ⟨⟨rfl, fun j hj => ⟨trivial, by
    have hj : j = b := hj
    subst hj; exact hcur.wr⟩, .inr ⟨b, c, cur, rfl, hnc, hcm, rfl, hcur, by omega, fun i hi => by
      obtain ⟨x, h1, h2⟩ := hcells i (by omega)
      exact ⟨x, h1, by rw [h2]; rfl⟩⟩⟩, rdL_vals us⟩
  refine wp_mono (h _ b c e ⟨isB b⟩ rfl hblt hnc w _ _ w rfl ⟨w, @Reb.refl ⟨isB b⟩ _, [], sim⟩) fun ex a' w' ⟨s', hq, w1, hR, φ, sim'⟩ => ?_
  obtain ⟨r1, r2, r3, r4, r5, r6⟩ := hR
  have fin : (∃ (D' : Nat → V) (vs : List Value), lookup s'.σ 0 = some (.one (.pv (.grow (.slice (some ⟨b, 0, none⟩) n c) (isB b) e 1 n D'))) ∧ (∀ i, i < n → ∃ x, D' i = .val x) ∧ getV s'.σ ts = some vs ∧ R D' (valOf vs)) → a'.defers = [] ∧ ∃ v, (results fn a'.tmps).run P w' = .ok v w' ∧
      ∃ (D' : Nat → V) (v' : Value), R D' v' ∧ Ending.returned v = .returned v' ∧ AllBut b w w' ∧ ∃ cur' : Array Value, Gb w' b e cur' ∧ cur'.size = cur.size ∧ ∀ i, i < n → ∃ x, cur'[i]? = some x ∧ D' i = .val x := by
    rintro ⟨D', vs, h0, hv, hg, hRD⟩
    obtain ⟨cur', hu, hst, hcur', hsz', _, _, hc'⟩ := grow_at sim' h0
    have hts := getV_rd sim' ts vs hg
    have hbel := sim'.heap.below
    refine ⟨sim'.defers.1, _, run_results hres _ _, D', valOf vs, hRD, ?_, ⟨by rw [hbel.os, r1], by rw [hbel.tape, r2], by rw [hbel.output, r3], by rw [← r5]; exact hbel.size, fun k hk hne => ?_⟩, cur', hcur', by omega, fun i hi => ?_⟩
    · congr 1
      by_cases h1 : ts.length = 1
      · rw [if_pos h1]
        match ts, h1 with
        | [t], _ =>
          have : [a'.tmps.getD t undef] = vs := by simpa using hts
          subst this
          rfl
      · rw [if_neg h1, hts]
        have hl : vs.length ≠ 1 := by rw [← hts]; simpa using h1
        match vs, hl with
        | [], _ => rfl
        | _ :: _ :: _, _ => rfl
    · rw [hbel.block k (by rw [r5]; exact hk)]; exact r6 k hne
    · obtain ⟨x, hx, hrx⟩ := hc' i hi
      obtain ⟨y, hy⟩ := hv i hi
      rw [hy] at hrx
      have hrx : x = y := hrx
      exact ⟨x, hx, by rw [hy, hrx]⟩
  cases ex with
  | normal => exact fin hq
  | ret => exact fin hq
  | _ => exact hq.elim
end
end Go.Proofs.Yteapdildbfimnaa
namespace Go.Proofs.Yteapdildbfimnaa
set_option linter.unusedSimpArgs false
set_option linter.unusedVariables false

/-- How often x stands among the first n. -/
def cntF (d : Nat → Int) (x : Int) : Nat → Nat
  | 0 => 0
  | n + 1 => cntF d x n + if d n = x then 1 else 0
def upF (d : Nat → Int) (i : Nat) (v : Int) : Nat → Int := fun k => if k = i then v else d k
theorem cntF_congr {d d' : Nat → Int} {x : Int} : ∀ {n : Nat}, (∀ i, i < n → d i = d' i) → cntF d x n = cntF d' x n
  | 0, _ => rfl
  | n + 1, h => by rw [cntF, cntF, cntF_congr (n := n) fun i hi => h i (by omega), h n (by omega)]
theorem cntF_up {d : Nat → Int} {x v : Int} {i : Nat} : ∀ {n : Nat}, i < n → cntF (upF d i v) x n + (if d i = x then 1 else 0) = cntF d x n + (if v = x then 1 else 0)
  | 0, h => by omega
  | n + 1, h => by
    by_cases e : i = n
    · subst e
      have : cntF (upF d i v) x i = cntF d x i := cntF_congr fun k hk => by unfold upF; rw [if_neg (by omega)]
      have e2 : upF d i v i = v := if_pos rfl
      rw [cntF, cntF, this, e2]; omega
    · have := cntF_up (d := d) (x := x) (v := v) (i := i) (n := n) (by omega)
      have e2 : upF d i v n = d n := if_neg (by omega)
      rw [cntF, cntF, e2]; omega
/-- Two exchanged. -/
def swF (d : Nat → Int) (i j : Nat) : Nat → Int := fun k => if k = i then d j else if k = j then d i else d k
theorem swF_cnt {d : Nat → Int} {x : Int} {i j n : Nat} (hi : i < n) (hj : j < n) : cntF (swF d i j) x n = cntF d x n := by
  by_cases e : i = j
  · subst e
    exact cntF_congr fun k _ => by
      unfold swF
      by_cases h : k = i
      · subst h; simp
      · simp [h]
  · have e1 : swF d i j = upF (upF d j (d i)) i (d j) := rfl
    have h1 := cntF_up (d := upF d j (d i)) (x := x) (v := d j) hi
    have h2 := cntF_up (d := d) (x := x) (v := d i) hj
    have e2 : upF d j (d i) i = d i := if_neg e
    rw [e1]
    rw [e2] at h1
    omega
/-- d' is d with the numbers from a to b in another order. -/
structure Pm (a b : Nat) (d d' : Nat → Int) : Prop where
  out : ∀ i, ¬ (a ≤ i ∧ i < b) → d' i = d i
  cnt : ∀ x n, b ≤ n → cntF d' x n = cntF d x n
  mem : ∀ i, a ≤ i → i < b → ∃ j, a ≤ j ∧ j < b ∧ d' i = d j
theorem Pm.refl (a b : Nat) (d : Nat → Int) : Pm a b d d := ⟨fun _ _ => rfl, fun _ _ _ => rfl, fun i h1 h2 => ⟨i, h1, h2, rfl⟩⟩
theorem Pm.trans {a b : Nat} {d e f : Nat → Int} (h : Pm a b d e) (k : Pm a b e f) : Pm a b d f :=
  ⟨fun i hi => (k.out i hi).trans (h.out i hi), fun x n hn => (k.cnt x n hn).trans (h.cnt x n hn), fun i h1 h2 => by
    obtain ⟨j, j1, j2, e1⟩ := k.mem i h1 h2
    obtain ⟨l, l1, l2, e2⟩ := h.mem j j1 j2
    exact ⟨l, l1, l2, e1.trans e2⟩⟩
theorem Pm.widen {a b a' b' : Nat} {d e : Nat → Int} (h : Pm a b d e) (ha : a' ≤ a) (hb : b ≤ b') : Pm a' b' d e :=
  ⟨fun i hi => h.out i (by omega), fun x n hn => h.cnt x n (by omega), fun i h1 h2 => by
    by_cases hi : a ≤ i ∧ i < b
    · obtain ⟨j, j1, j2, e1⟩ := h.mem i hi.1 hi.2
      exact ⟨j, by omega, by omega, e1⟩
    · exact ⟨i, h1, h2, h.out i hi⟩⟩
theorem Pm.sw {a b i j : Nat} (d : Nat → Int) (hi : a ≤ i ∧ i < b) (hj : a ≤ j ∧ j < b) : Pm a b d (swF d i j) :=
  ⟨fun k hk => by unfold swF; rw [if_neg (by omega), if_neg (by omega)], fun x n hn => swF_cnt (by omega) (by omega), fun k h1 h2 => by
    unfold swF
    split
    · exact ⟨j, hj.1, hj.2, rfl⟩
    · split
      · exact ⟨i, hi.1, hi.2, rfl⟩
      · exact ⟨k, h1, h2, rfl⟩⟩
/-- From a to b in order. -/
def Srt (a b : Nat) (d : Nat → Int) : Prop := ∀ i j, a ≤ i → i < j → j < b → d i ≤ d j
theorem Srt.short {a b : Nat} {d : Nat → Int} (h : b ≤ a + 1) : Srt a b d := fun i j h1 h2 h3 => by omega
theorem Srt.congr {a b : Nat} {d e : Nat → Int} (h : Srt a b d) (hd : ∀ i, a ≤ i → i < b → e i = d i) : Srt a b e := fun i j h1 h2 h3 => by
  rw [hd i h1 (by omega), hd j (by omega) h3]; exact h i j h1 h2 h3
/-- All from a to b are p: so they are in another order. -/
theorem Pm.all {a b : Nat} {d e : Nat → Int} {p : Int → Prop} (h : Pm a b d e) (hp : ∀ i, a ≤ i → i < b → p (d i)) : ∀ i, a ≤ i → i < b → p (e i) := fun i h1 h2 => by
  obtain ⟨j, j1, j2, e1⟩ := h.mem i h1 h2
  rw [e1]; exact hp j j1 j2
/-- Inserting: all but j in order, those behind j are not less. -/
structure Ins (a i j : Nat) (d : Nat → Int) : Prop where
  srt : ∀ p q, a ≤ p → p < q → q ≤ i → p ≠ j → q ≠ j → d p ≤ d q
  up : ∀ q, j < q → q ≤ i → d j ≤ d q
theorem Ins.start {a i : Nat} {d : Nat → Int} (h : Srt a i d) : Ins a i i d := ⟨fun p q h1 h2 h3 h4 h5 => h p q h1 h2 (by omega), fun q h1 h2 => by omega⟩
theorem Ins.step {a i j : Nat} {d : Nat → Int} (h : Ins a i j d) (hj : a < j) (hji : j ≤ i) (hlt : d j < d (j - 1)) : Ins a i (j - 1) (swF d j (j - 1)) := by
  have sj : swF d j (j - 1) j = d (j - 1) := if_pos rfl
  have sj1 : swF d j (j - 1) (j - 1) = d j := by unfold swF; rw [if_neg (by omega), if_pos rfl]
  have so : ∀ k, k ≠ j → k ≠ j - 1 → swF d j (j - 1) k = d k := fun k h1 h2 => by unfold swF; rw [if_neg h1, if_neg h2]
  refine ⟨fun p q h1 h2 h3 h4 h5 => ?_, fun q h1 h2 => ?_⟩
  · by_cases hp : p = j
    · subst hp
      rw [sj, so q (by omega) h5]
      exact h.srt (p - 1) q (by omega) (by omega) h3 (by omega) (by omega)
    · by_cases hq : q = j
      · subst hq
        rw [sj, so p hp h4]
        exact h.srt p (q - 1) h1 (by omega) (by omega) hp (by omega)
      · rw [so p hp h4, so q hq h5]
        exact h.srt p q h1 h2 h3 hp hq
  · rw [sj1]
    by_cases hq : q = j
    · subst hq; rw [sj]; omega
    · rw [so q hq (by omega)]
      exact h.up q (by omega) h2
theorem Ins.done {a i j : Nat} {d : Nat → Int} (h : Ins a i j d) (hd : j = a ∨ d (j - 1) ≤ d j) (hja : a ≤ j) (hji : j ≤ i) : Srt a (i + 1) d := fun p q h1 h2 h3 => by
  by_cases hp : p = j
  · subst hp; exact h.up q h2 (by omega)
  · by_cases hq : q = j
    · subst hq
      rcases hd with hd | hd
      · omega
      · by_cases e : p = q - 1
        · rw [e]; exact hd
        · exact Int.le_trans (h.srt p (q - 1) h1 (by omega) (by omega) hp (by omega)) hd
    · exact h.srt p q h1 h2 (by omega) hp hq

abbrev vuF (d : Nat → Int) : Nat → V := fun i => vu (d i)
/-- The cells hold some d' of which p holds; nothing comes back. -/
def unitR (p : (Nat → Int) → Prop) (D' : Nat → V) (v : Value) : Prop := ∃ d', D' = vuF d' ∧ p d' ∧ v = .tuple #[]
end Go.Proofs.Yteapdildbfimnaa
namespace Go.Proofs.Yteapdildbfimnaa
set_option linter.unusedSimpArgs false
set_option linter.unusedVariables false

/-- Node k of the heap of hi numbers that begins at f is not less than its children. -/
def HpAt (f hi : Nat) (d : Nat → Int) (k : Nat) : Prop := ∀ c, (c = 2 * k + 1 ∨ c = 2 * k + 2) → c < hi → d (f + c) ≤ d (f + k)
/-- All nodes from lo on are so but r, and what stands under r is not greater than what stands over it. -/
structure HpX (f lo hi r : Nat) (d : Nat → Int) : Prop where
  oth : ∀ k, lo ≤ k → k ≠ r → HpAt f hi d k
  two : ∀ p, lo ≤ p → (r = 2 * p + 1 ∨ r = 2 * p + 2) → ∀ c, (c = 2 * r + 1 ∨ c = 2 * r + 2) → c < hi → d (f + c) ≤ d (f + p)
theorem HpX.start {f lo hi : Nat} {d : Nat → Int} (h : ∀ k, lo < k → HpAt f hi d k) : HpX f lo hi lo d := ⟨fun k h1 h2 => h k (by omega), fun p h1 h2 => by omega⟩
theorem HpX.done {f lo hi r : Nat} {d : Nat → Int} (h : HpX f lo hi r d) (hr : HpAt f hi d r) : ∀ k, lo ≤ k → HpAt f hi d k := fun k hk => by
  by_cases e : k = r
  · rw [e]; exact hr
  · exact h.oth k hk e
theorem HpX.step {f lo hi r c : Nat} {d : Nat → Int} (h : HpX f lo hi r d) (hlo : lo ≤ r) (hc : c = 2 * r + 1 ∨ c = 2 * r + 2) (hch : c < hi) (hlt : d (f + r) ≤ d (f + c)) (hmax : ∀ s, (s = 2 * r + 1 ∨ s = 2 * r + 2) → s < hi → d (f + s) ≤ d (f + c)) : HpX f lo hi c (swF d (f + r) (f + c)) := by
  have sr : swF d (f + r) (f + c) (f + r) = d (f + c) := if_pos rfl
  have sc' : swF d (f + r) (f + c) (f + c) = d (f + r) := by unfold swF; rw [if_neg (by omega), if_pos rfl]
  have so : ∀ k, k ≠ r → k ≠ c → swF d (f + r) (f + c) (f + k) = d (f + k) := fun k h1 h2 => by unfold swF; rw [if_neg (by omega), if_neg (by omega)]
  refine ⟨fun k hk hkc s hs hsh => ?_, fun p hp hcp s hs hsh => ?_⟩
  · by_cases hkr : k = r
    · subst hkr
      rw [sr]
      by_cases hsc : s = c
      · subst hsc; rw [sc']; exact hlt
      · rw [so s (by omega) hsc]; exact hmax s hs hsh
    · rw [so k hkr hkc]
      by_cases hsr : s = r
      · subst hsr
        rw [sr]
        exact h.two k hk hs c hc hch
      · by_cases hsc : s = c
        · subst hsc
          omega
        · rw [so s hsr hsc]
          exact h.oth k hk hkr s hs hsh
  · have hpr : p = r := by omega
    subst hpr
    rw [sr, so s (by omega) (by omega)]
    exact h.oth c (by omega) (by omega) s hs hsh
theorem heap_root {f hi : Nat} {d : Nat → Int} (h : ∀ k, HpAt f hi d k) : ∀ k, k < hi → d (f + k) ≤ d f := by
  intro k
  induction k using Nat.strongRecOn with
  | _ k ih =>
    intro hk
    by_cases e : k = 0
    · subst e; exact Int.le_refl _
    · have h1 := h ((k - 1) / 2) k (by omega) hk
      exact Int.le_trans h1 (ih ((k - 1) / 2) (by omega) (by omega))
/-- The second half of a heap sort. -/
structure HpS (f hi j : Nat) (d : Nat → Int) : Prop where
  hp : ∀ k, HpAt f j d k
  suf : ∀ p q, p < q → q < hi → j ≤ q → d (f + p) ≤ d (f + q)
theorem HpS.start {f hi : Nat} {d : Nat → Int} (h : ∀ k, HpAt f hi d k) : HpS f hi hi d := ⟨h, fun p q h1 h2 h3 => by omega⟩
theorem HpS.swap {f hi j : Nat} {d : Nat → Int} (h : HpS f hi (j + 1) d) : ∀ k, 0 < k → HpAt f j (swF d f (f + j)) k := fun k hk c hc hcj => by
  have so : ∀ k, 0 < k → k < j → swF d f (f + j) (f + k) = d (f + k) := fun k h1 h2 => by unfold swF; rw [if_neg (by omega), if_neg (by omega)]
  rw [so c (by omega) hcj, so k hk (by omega)]
  exact h.hp k c hc (by omega)
theorem HpS.step {f hi j : Nat} {d e : Nat → Int} (h : HpS f hi (j + 1) d) (hj : j < hi) (hpm : Pm f (f + j) (swF d f (f + j)) e) (hp : ∀ k, HpAt f j e k) : HpS f hi j e := by
  refine ⟨hp, fun p q h1 h2 h3 => ?_⟩
  have hroot := heap_root h.hp
  have eq' : ∀ q, j ≤ q → e (f + q) = swF d f (f + j) (f + q) := fun q hq => hpm.out (f + q) (by omega)
  have ej : swF d f (f + j) (f + j) = d f := by
    unfold swF
    by_cases e0 : f + j = f
    · rw [if_pos e0, e0]
    · rw [if_neg e0, if_pos rfl]
  have sq : ∀ q, j < q → swF d f (f + j) (f + q) = d (f + q) := fun q hq => by unfold swF; rw [if_neg (by omega), if_neg (by omega)]
  have bnd : ∀ p, p ≤ j → ∃ r, r ≤ j ∧ swF d f (f + j) (f + p) = d (f + r) := fun p hp => by
    unfold swF
    split
    · exact ⟨j, Nat.le_refl _, rfl⟩
    · split
      · exact ⟨0, by omega, rfl⟩
      · exact ⟨p, hp, rfl⟩
  by_cases hq : q = j
  · subst hq
    rw [eq' q (Nat.le_refl _), ej]
    obtain ⟨r, r1, r2, r3⟩ := hpm.mem (f + p) (by omega) (by omega)
    obtain ⟨s, s1, s2⟩ := bnd (r - f) (by omega)
    rw [r3, show r = f + (r - f) by omega, s2]
    exact hroot s (by omega)
  · rw [eq' q h3, sq q (by omega)]
    by_cases hpj : p < j
    · obtain ⟨r, r1, r2, r3⟩ := hpm.mem (f + p) (by omega) (by omega)
      obtain ⟨s, s1, s2⟩ := bnd (r - f) (by omega)
      rw [r3, show r = f + (r - f) by omega, s2]
      exact h.suf s q (by omega) h2 (by omega)
    · rw [eq' p (by omega)]
      by_cases hpe : p = j
      · subst hpe
        rw [ej]
        have := h.suf 0 q (by omega) h2 (by omega)
        simpa using this
      · rw [sq p (by omega)]
        exact h.suf p q h1 h2 (by omega)

/-- Pairs of which one stands left of a' or right of b' are in order. -/
def Sp (a b a' b' : Nat) (d : Nat → Int) : Prop := ∀ i j, a ≤ i → i < j → j < b → (i < a' ∨ b' ≤ j) → d i ≤ d j
theorem Sp.start (a b : Nat) (d : Nat → Int) : Sp a b a b d := fun i j h1 h2 h3 h4 => by omega
theorem Sp.perm {a b a' b' : Nat} {d e : Nat → Int} (h : Sp a b a' b' d) (ha : a ≤ a') (hb : b' ≤ b) (hpm : Pm a' b' d e) : Sp a b a' b' e := fun i j h1 h2 h3 h4 => by
  by_cases hi : a' ≤ i ∧ i < b'
  · obtain ⟨r, r1, r2, r3⟩ := hpm.mem i hi.1 hi.2
    rw [r3, hpm.out j (by omega)]
    exact h r j (by omega) (by omega) h3 (by omega)
  · rw [hpm.out i hi]
    by_cases hj : a' ≤ j ∧ j < b'
    · obtain ⟨r, r1, r2, r3⟩ := hpm.mem j hj.1 hj.2
      rw [r3]
      exact h i r h1 (by omega) (by omega) (by omega)
    · rw [hpm.out j hj]
      exact h i j h1 h2 h3 h4
theorem Sp.done {a b a' b' : Nat} {d : Nat → Int} (h : Sp a b a' b' d) (hs : Srt a' b' d) : Srt a b d := fun i j h1 h2 h3 => by
  by_cases h4 : i < a' ∨ b' ≤ j
  · exact h i j h1 h2 h3 h4
  · exact hs i j (by omega) h2 (by omega)
/-- What stands ahead is not greater. -/
def Ahd (a b : Nat) (d : Nat → Int) : Prop := 0 < a → ∀ i, a ≤ i → i < b → d (a - 1) ≤ d i
theorem Ahd.perm {a b : Nat} {d e : Nat → Int} (h : Ahd a b d) (hpm : Pm a b d e) : Ahd a b e := fun h0 i h1 h2 => by
  rw [hpm.out (a - 1) (by omega)]
  exact hpm.all (p := fun x => d (a - 1) ≤ x) (h h0) i h1 h2
theorem Sp.ahd {a b a' b' : Nat} {d : Nat → Int} (h : Sp a b a' b' d) (h0 : Ahd a b d) (ha : a ≤ a') (hb : b' ≤ b) : Ahd a' b' d := fun hp i h1 h2 => by
  by_cases e : a' = a
  · subst e; exact h0 hp i h1 (by omega)
  · exact h (a' - 1) i (by omega) (by omega) (by omega) (by omega)
/-- A part is put about m. -/
structure Prt (a m b : Nat) (d : Nat → Int) : Prop where
  lo : ∀ i, a ≤ i → i < m → d i ≤ d m
  hi : ∀ i, m < i → i < b → d m ≤ d i
theorem Sp.left {a b a' b' m : Nat} {d e : Nat → Int} (h : Sp a b a' b' d) (ha : a ≤ a') (hb : b' ≤ b) (hm : a' ≤ m ∧ m < b') (hp : Prt a' m b' d) (hpm : Pm a' m d e) (hs : Srt a' m e) : Sp a b (m + 1) b' e := fun i j h1 h2 h3 h4 => by
  have hsp := h.perm ha hb (hpm.widen (Nat.le_refl _) (by omega))
  by_cases h5 : i < a' ∨ b' ≤ j
  · exact hsp i j h1 h2 h3 h5
  · have hi : i < m + 1 := by omega
    by_cases hj : j < m
    · exact hs i j (by omega) h2 hj
    · have ejm : e m = d m := hpm.out m (by omega)
      by_cases hjm : j = m
      · subst hjm
        rw [ejm]
        exact hpm.all (p := fun x => x ≤ d j) hp.lo i (by omega) (by omega)
      · have e2 : e j = d j := hpm.out j (by omega)
        have h6 := hp.hi j (by omega) (by omega)
        by_cases him : i = m
        · subst him; rw [ejm, e2]; exact h6
        · have := hpm.all (p := fun x => x ≤ d m) hp.lo i (by omega) (by omega)
          rw [e2]; exact Int.le_trans this h6
theorem Sp.right {a b a' b' m : Nat} {d e : Nat → Int} (h : Sp a b a' b' d) (ha : a ≤ a') (hb : b' ≤ b) (hm : a' ≤ m ∧ m < b') (hp : Prt a' m b' d) (hpm : Pm (m + 1) b' d e) (hs : Srt (m + 1) b' e) : Sp a b a' m e := fun i j h1 h2 h3 h4 => by
  have hsp := h.perm ha hb (hpm.widen (by omega) (Nat.le_refl _))
  by_cases h5 : i < a' ∨ b' ≤ j
  · exact hsp i j h1 h2 h3 h5
  · have hj : m ≤ j := by omega
    have ejm : e m = d m := hpm.out m (by omega)
    by_cases hi : m < i
    · exact hs i j (by omega) h2 (by omega)
    · by_cases hjm : j = m
      · subst hjm
        rw [ejm, hpm.out i (by omega)]
        exact hp.lo i (by omega) (by omega)
      · have h6 := hpm.all (p := fun x => d m ≤ x) (fun i h1 h2 => hp.hi i (by omega) h2) j (by omega) (by omega)
        by_cases him : i = m
        · subst him; rw [ejm]; exact h6
        · rw [hpm.out i (by omega)]
          exact Int.le_trans (hp.lo i (by omega) (by omega)) h6
theorem Prt.ahd {a m b : Nat} {d : Nat → Int} (hp : Prt a m b d) : Ahd (m + 1) b d := fun _ i h1 h2 => hp.hi i (by omega) h2
theorem Ahd.short {a b c : Nat} {d : Nat → Int} (h : Ahd a b d) (hc : c ≤ b) : Ahd a c d := fun h0 i h1 h2 => h h0 i h1 (by omega)
/-- Equal ones left of m. -/
theorem Sp.equal {a b a' b' m : Nat} {d e : Nat → Int} {p : Int} (h : Sp a b a' b' d) (ha : a ≤ a') (hb : b' ≤ b) (hpm : Pm a' b' d e) (hm : a' ≤ m ∧ m ≤ b') (hlo : ∀ i, a' ≤ i → i < m → e i ≤ p) (hge : ∀ i, a' ≤ i → i < b' → p ≤ e i) : Sp a b m b' e := fun i j h1 h2 h3 h4 => by
  by_cases h5 : i < a' ∨ b' ≤ j
  · exact h.perm ha hb hpm i j h1 h2 h3 h5
  · exact Int.le_trans (hlo i (by omega) (by omega)) (hge j (by omega) (by omega))
/-- Between two marks nothing is known; left of i what is less than the first, from j on what is not. -/
structure Ptn (a b i j : Nat) (d : Nat → Int) : Prop where
  lo : ∀ k, a < k → k < i → d k < d a
  hi : ∀ k, j ≤ k → k < b → d a ≤ d k
  h1 : a + 1 ≤ i
  h2 : i ≤ j
  h3 : j ≤ b
theorem Ptn.right {a b i j : Nat} {d : Nat → Int} (h : Ptn a b i j d) (hij : i < j) (hl : d i < d a) : Ptn a b (i + 1) j d :=
  ⟨fun k h1 h2 => by by_cases e : k = i
                     · rw [e]; exact hl
                     · exact h.lo k h1 (by omega), h.hi, by have := h.h1; omega, by omega, h.h3⟩
theorem Ptn.left {a b i j : Nat} {d : Nat → Int} (h : Ptn a b i j d) (hij : i < j) (hl : d a ≤ d (j - 1)) : Ptn a b i (j - 1) d :=
  ⟨h.lo, fun k h1 h2 => by by_cases e : k = j - 1
                           · rw [e]; exact hl
                           · exact h.hi k (by omega) h2, h.h1, by omega, by have := h.h3; omega⟩
theorem Ptn.swap {a b i j : Nat} {d : Nat → Int} (h : Ptn a b i j d) (hij : i < j) (h1 : d a ≤ d i) (h2 : d (j - 1) < d a) : Ptn a b (i + 1) (j - 1) (swF d i (j - 1)) := by
  have hne : i ≠ j - 1 := fun e => by rw [← e] at h2; omega
  have k1 := h.h1
  have k3 := h.h3
  have ea : swF d i (j - 1) a = d a := by unfold swF; rw [if_neg (by omega), if_neg (by omega)]
  refine ⟨fun k k1 k2 => ?_, fun k k1 k2 => ?_, by omega, by omega, by omega⟩
  · rw [ea]
    unfold swF
    split
    · exact h2
    · rw [if_neg (by omega)]; exact h.lo k k1 (by omega)
  · rw [ea]
    unfold swF
    rw [if_neg (by omega)]
    split
    · exact h1
    · exact h.hi k (by omega) k2
theorem Ptn.fin {a b i : Nat} {d : Nat → Int} (h : Ptn a b i i d) : Prt a (i - 1) b (swF d (i - 1) a) := by
  have k1 := h.h1
  have em : swF d (i - 1) a (i - 1) = d a := if_pos rfl
  refine ⟨fun k h1 h2 => ?_, fun k h1 h2 => ?_⟩
  · rw [em]
    unfold swF
    rw [if_neg (by omega)]
    split
    · exact Int.le_of_lt (h.lo (i - 1) (by omega) (by omega))
    · exact Int.le_of_lt (h.lo k (by omega) (by omega))
  · rw [em]
    unfold swF
    rw [if_neg (by omega), if_neg (by omega)]
    exact h.hi k (by omega) h2
/-- The same, equal ones to the left. -/
structure Pe (a b i j : Nat) (d : Nat → Int) : Prop where
  lo : ∀ k, a ≤ k → k < i → d k ≤ d a
  h1 : a + 1 ≤ i
  h2 : i ≤ j
  h3 : j ≤ b
theorem Pe.right {a b i j : Nat} {d : Nat → Int} (h : Pe a b i j d) (hij : i < j) (hl : d i ≤ d a) : Pe a b (i + 1) j d :=
  ⟨fun k h1 h2 => by by_cases e : k = i
                     · rw [e]; exact hl
                     · exact h.lo k h1 (by omega), by have := h.h1; omega, by omega, h.h3⟩
theorem Pe.swap {a b i j : Nat} {d : Nat → Int} (h : Pe a b i j d) (hij : i < j) (h1 : d a < d i) (h2 : d (j - 1) ≤ d a) : Pe a b (i + 1) (j - 1) (swF d i (j - 1)) := by
  have hne : i ≠ j - 1 := fun e => by rw [← e] at h2; omega
  have k1 := h.h1
  have k3 := h.h3
  have ea : swF d i (j - 1) a = d a := by unfold swF; rw [if_neg (by omega), if_neg (by omega)]
  refine ⟨fun k k1 k2 => ?_, by omega, by omega, by omega⟩
  rw [ea]
  unfold swF
  split
  · exact h2
  · rw [if_neg (by omega)]; exact h.lo k k1 (by omega)
end Go.Proofs.Yteapdildbfimnaa
namespace Go.Proofs.Yteapdildbfimnaa
open Go.RowKit Go.Proofs
set_option linter.unusedSimpArgs false
set_option linter.unusedVariables false
set_option maxRecDepth 20000

theorem isNaN_fn (x : Int) : Fn Try.prog 168 [vu x] (.one (.pv (vb false))) := by
  refine Fn.of_body Try.call168 Try.func168 rfl Try.ntmps168 (ts := [2]) rfl (by simp) rfl (fun N => ?_)
  repeat' (first | (with_reducible first | refine then_normal ?_ | refine then_ret ?_ | refine then_exit ?_ | refine block_normal ?_ | refine block_ret ?_) | ((with_reducible show blockQ _ _ _ _); first | refine block_exit ?_ | refine block_exit_ne rfl ?_) | ((with_reducible show AWP _ _ _ _ _); first | (with_reducible first | refine AWP.seq ?_ | refine AWP.block ?_ | refine AWP.region ?_ | refine AWP.ret ?_ | refine AWP.exit ?_ | refine AWP.skip ?_) | refine AWP.drawn rfl (by kernel_rfl) ?_ | refine AWP.cond rfl ?_ ?_) | with_reducible refine ev_nil ?_ | ((first | ((with_reducible show evOps _ _ _ _ _ _); (first | refine ev_step rfl ?_ | refine ev_undef rfl rfl rfl ?_); intro K hK) | ((with_reducible show EvOpen _ _ _ _ _ _ _); refine ev_open ?_; intro K hK) | ((with_reducible show SkOpen _ _ _ _ _ _ _); refine sk_open ?_; intro K hK) | ((with_reducible show callK _ _ _ _ _ _ _ _); first | fail)); simp only [evOp, evQ, binK, withS, opd, kput, putS, upd, lookup, slotsOf, upd, Nat.reduceEqDiff, Nat.reduceLT, ↓reduceIte, eq_self, true_and]) | refine ev_guard rfl rfl rfl ?_ ?_ | ((with_reducible show retQ _ _ _ _); simp only [retQ, retOk, getL, lookup, Option.map_some, fitsL, fits, ND, srcs, Res.list, VE, Value.bool.injEq, Nat.reduceEqDiff, ↓reduceIte, and_true]) | (with_reducible refine hK _ ?_; clear hK K) | (with_reducible refine And.intro ?_ ?_) | (with_reducible intro hc; try simp only [eq_self] at hc) | omega)
  all_goals first
    | rfl
    | (simp; done)
    | trace_state
theorem less_fn (x y : Int) : Fn Try.prog 135 [vu x, vu y] (.one (.pv (vb (decide (x < y))))) := by
  refine Fn.of_body Try.call135 Try.func135 rfl Try.ntmps135 (ts := [4]) rfl (by simp) rfl (fun N => ?_)
  repeat' (first | (with_reducible first | refine then_normal ?_ | refine then_ret ?_ | refine then_exit ?_ | refine block_normal ?_ | refine block_ret ?_) | ((with_reducible show blockQ _ _ _ _); first | refine block_exit ?_ | refine block_exit_ne rfl ?_) | ((with_reducible show AWP _ _ _ _ _); first | (with_reducible first | refine AWP.seq ?_ | refine AWP.block ?_ | refine AWP.region ?_ | refine AWP.ret ?_ | refine AWP.exit ?_ | refine AWP.skip ?_) | refine AWP.drawn rfl (by kernel_rfl) ?_ | refine AWP.cond rfl ?_ ?_) | with_reducible refine ev_nil ?_ | ((first | ((with_reducible show evOps _ _ _ _ _ _); (first | refine ev_step rfl ?_ | refine ev_undef rfl rfl rfl ?_); intro K hK) | ((with_reducible show EvOpen _ _ _ _ _ _ _); refine ev_open ?_; intro K hK) | ((with_reducible show SkOpen _ _ _ _ _ _ _); refine sk_open ?_; intro K hK) | ((with_reducible show callK _ _ _ _ _ _ _ _); first  | (refine call_scalar (isNaN_fn x) (Nat.le_of_ble_eq_true rfl) rfl ?_) | (refine call_scalar (isNaN_fn y) (Nat.le_of_ble_eq_true rfl) rfl ?_))); simp only [evOp, evQ, binK, withS, opd, kput, putS, upd, lookup, skipOp, argsK, bringIn, bring, Res.list, Res.slot, slotsOf, upd, List.reverse_cons, List.reverse_nil, List.nil_append, Nat.reduceEqDiff, Nat.reduceLT, Nat.zero_add, ↓reduceIte, eq_self, true_and, Bool.not_true, Bool.false_eq_true, false_implies, forall_const]) | refine ev_guard rfl rfl rfl ?_ ?_ | ((with_reducible show retQ _ _ _ _); simp only [retQ, retOk, getL, lookup, Option.map_some, fitsL, fits, ND, srcs, Res.list, VE, Nat.reduceEqDiff, ↓reduceIte, and_true]) | (with_reducible refine hK _ ?_; clear hK K) | (with_reducible refine And.intro ?_ ?_) | (with_reducible intro hc; try simp only [Bool.not_true, Bool.not_false, reduceCtorEq] at hc) | omega)
  all_goals first
    | rfl
    | (simp; done)
    | trace_state

theorem vuF_val {d : Nat → Int} {n : Nat} : ∀ i, i < n → ∃ x, vuF d i = .val x := fun i _ => ⟨_, rfl⟩

theorem vi_eq {x y : Int} (h : x = y) : VE (vi x) (vi y) := by rw [h]; rfl
theorem sw_ve {u : Value} {Z : Nat → Prop} {e : TypeId} {n i j : Nat} {d : Nat → Int} {f : Nat → V} (h : ∀ k, k < n → f k = if k = i then vu (d j) else if k = j then vu (d i) else vu (d k)) : VE (.grow u Z e 1 n f) (.grow u Z e 1 n (vuF (swF d i j))) :=
  ⟨rfl, rfl, rfl, rfl, rfl, fun k hk => VE.of_eq (by
    rw [h k (by omega)]
    show _ = vu (swF d i j k)
    unfold swF
    (repeat' split) <;> rfl)⟩

set_option maxHeartbeats 4000000 in
theorem insertion_m (n : Nat) (d : Nat → Int) (a b : Nat) (hab : a ≤ b) (hbn : b ≤ n) (hn : n ≤ 1099511627776) : FnM Try.prog 129 n (vuF d) [.int .i64 a, .int .i64 b] (unitR fun d' => Pm a b d d' ∧ Srt a b d') := by
  refine FnM.of_body (ts := []) Try.call129 Try.func129 rfl Try.ntmps129 rfl (by simp) vuF_val (fun N bk c e cx hcx hbN hnc => ?_)
  repeat' (first | (with_reducible first | refine then_normal ?_ | refine then_ret ?_ | refine then_exit ?_ | refine block_normal ?_ | refine block_ret ?_) | ((with_reducible show blockQ _ _ _ _); first | refine block_exit ?_ | refine block_exit_ne rfl ?_) | ((with_reducible show AWP _ _ _ _ _); first | (with_reducible first | refine AWP.seq ?_ | refine AWP.block ?_ | refine AWP.region ?_ | refine AWP.ret ?_ | refine AWP.exit ?_ | refine AWP.skip ?_) | refine AWP.drawn rfl (by kernel_rfl) ?_ | refine AWP.cond rfl ?_ ?_) | with_reducible refine ev_nil ?_ | ((first | ((with_reducible show evOps _ _ _ _ _ _); (first | refine ev_step rfl ?_ | refine ev_undef rfl rfl rfl ?_); intro K hK) | ((with_reducible show EvOpen _ _ _ _ _ _ _); refine ev_open ?_; intro K hK) | ((with_reducible show SkOpen _ _ _ _ _ _ _); refine sk_open ?_; intro K hK) | ((with_reducible show callK _ _ _ _ _ _ _ _); first | fail)); simp only [evOp, evQ, binK, withS, opd, kput, putS, upd, lookup, slotsOf, InK_i64, upd, List.map_cons, List.map_nil, Nat.reduceEqDiff, Nat.reduceAdd, Nat.reduceLT, Nat.zero_add, ↓reduceIte, eq_self, true_and]) | refine ev_guard rfl rfl rfl ?_ ?_ | ((with_reducible show retQ _ _ _ _); simp only [eq_self]) | (with_reducible refine hK _ ?_; clear hK K) | (with_reducible refine And.intro ?_ ?_) | (with_reducible intro hc; try simp only [eq_self] at hc) | omega)
  refine AWP.loop_entR [] (fun y : Nat × (Nat → Int) => ⟨[(0, .one (.pv (.grow (.slice (some ⟨bk, 0, none⟩) n c) (isB bk) e 1 n (vuF y.2)))), (1, sc (.int .i64 a)), (2, sc (.int .i64 b)), (6, sc (.int .i64 y.1))], [], 49⟩)
    (fun y => a + 1 ≤ y.1 ∧ (y.1 ≤ b ∨ y.1 = a + 1) ∧ Pm a b d y.2 ∧ Srt a y.1 y.2) (fun y => b - y.1) (a + 1, d) ⟨by simp, by simp, Pm.refl _ _ _, Srt.short (by simp)⟩ (by simp [EntR, EntSR, EntHR, SlR, VE, VE.rfl', lookup, BE, upd, sc]) ?_
  rintro ⟨i, d1⟩ ⟨hi1, hi2, hpm, hsr⟩
  dsimp only at hi1 hi2 hpm hsr ⊢
  by_cases hib : i < b
  · repeat' (first | (with_reducible first | refine then_normal ?_ | refine then_ret ?_ | refine then_exit ?_ | refine block_normal ?_ | refine block_ret ?_) | ((with_reducible show blockQ _ _ _ _); first | refine block_exit ?_ | refine block_exit_ne rfl ?_) | ((with_reducible show AWP _ _ _ _ _); first | (with_reducible first | refine AWP.seq ?_ | refine AWP.block ?_ | refine AWP.region ?_ | refine AWP.ret ?_ | refine AWP.exit ?_ | refine AWP.skip ?_) | refine AWP.drawn rfl (by kernel_rfl) ?_ | refine AWP.cond rfl ?_ ?_) | with_reducible refine ev_nil ?_ | ((first | ((with_reducible show evOps _ _ _ _ _ _); (first | refine ev_step rfl ?_ | refine ev_undef rfl rfl rfl ?_); intro K hK) | ((with_reducible show EvOpen _ _ _ _ _ _ _); refine ev_open ?_; intro K hK) | ((with_reducible show SkOpen _ _ _ _ _ _ _); refine sk_open ?_; intro K hK) | ((with_reducible show callK _ _ _ _ _ _ _ _); first | fail)); simp only [evOp, evQ, binK, withS, opd, kput, putS, upd, lookup, upd, Nat.reduceEqDiff, Nat.reduceLT, ↓reduceIte, eq_self, true_and]) | refine ev_guard rfl rfl rfl ?_ ?_ | ((with_reducible show retQ _ _ _ _); simp only [eq_self]) | (with_reducible refine hK _ ?_; clear hK K) | (with_reducible refine And.intro ?_ ?_) | (with_reducible intro hc; try simp only [decide_eq_true_eq, decide_eq_false_iff_not, Int.not_lt] at hc) | omega)
    all_goals try (exfalso; omega; done)
    refine AWP.loop_entR [] (fun y : Nat × (Nat → Int) => ⟨[(0, .one (.pv (.grow (.slice (some ⟨bk, 0, none⟩) n c) (isB bk) e 1 n (vuF y.2)))), (1, sc (.int .i64 a)), (2, sc (.int .i64 b)), (6, sc (.int .i64 i)), (7, sc (.int .i64 y.1))], [], 49⟩)
      (fun y => a ≤ y.1 ∧ y.1 ≤ i ∧ Pm a b d y.2 ∧ Ins a i y.1 y.2) (fun y => y.1) (i, d1) ⟨by show a ≤ i; omega, Nat.le_refl _, hpm, Ins.start hsr⟩ (by simp [EntR, EntSR, EntHR, SlR, VE, VE.rfl', lookup, BE, upd, sc]) ?_
    rintro ⟨j, d2⟩ ⟨hj1, hj2, hpm2, hin⟩
    dsimp only at hj1 hj2 hpm2 hin ⊢
    by_cases hja : a < j
    · have ej : ((j : Int) - 1).toNat = j - 1 := by omega
      repeat' (first | ((with_reducible show Ax _ _ _ _ _); (first | ((with_reducible show Ax _ _ _ (Oper.mk _ (Op.indexAddr _ _ _) _ _ _ _) _); refine ax_addr rfl rfl sz_bytes (by omega) (by omega) rfl ?_; simp only [putS, upd, upd, Nat.reduceEqDiff, ↓reduceIte, Int.toNat_natCast]) | ((with_reducible show Ax _ _ _ (Oper.mk none (Op.store _ _ _) _ _ _ _) _); refine ax_storeR 0 rfl rfl rfl rfl c_u8 (by omega) hcx (by intro i hi; (try dsimp only); (repeat' split) <;> exact ⟨_, rfl⟩) rfl (by simp only [okRS, okR]; repeat' (first | exact trivial | exact rfl | refine And.intro ?_ ?_)) trivial ?_; simp only [rwS, rwSl]))) | ((with_reducible show evNx _ _ _ _ _ _); first | (with_reducible refine nx_done ?_) | (refine nx_one rfl ?_) | (refine nx_alt rfl ?_ ?_) | (with_reducible refine nx_st ?_)) | ((with_reducible show evSx _ _ _ _ _ _); first | (with_reducible refine sx_done ?_) | (with_reducible refine sx_st ?_) | (with_reducible refine sx_op ?_)) | ((with_reducible show evTake _ _ _ _ _); with_reducible refine take_nil ?_) | ((with_reducible show evSy _ _ _ _ _ _ _); first | (with_reducible refine sy_done ?_) | (refine sy_last rfl ?_) | (refine sy_one (by decide) rfl ?_) | (refine sy_alt (by decide) rfl ?_ ?_) | (with_reducible refine sy_st ?_)) | ((with_reducible show StK _ _ _); first | fail) | (with_reducible first | refine then_normal ?_ | refine then_ret ?_ | refine then_exit ?_ | refine block_normal ?_ | refine block_ret ?_) | ((with_reducible show blockQ _ _ _ _); first | refine block_exit ?_ | refine block_exit_ne rfl ?_) | ((with_reducible show AWP _ _ _ _ _); first | (refine AWP.drawn_nx (id := 6) (.take 0 (.take 1 (.take 2 (.take 3 (.take 4 (.take 5 (.take 6 (.take 7 (.take 8 (.take 10 (.take 11 (.take 12 (.alt 9 (.one 13 (.one 14 (.one 15 (.one 16 (.one 17 .done))))) (.one 13 (.one 9 (.one 14 (.one 15 (.one 16 (.one 17 .done))))))))))))))))))) rfl (by kernel_rfl) ?_) | (with_reducible first | refine AWP.seq ?_ | refine AWP.block ?_ | refine AWP.region ?_ | refine AWP.ret ?_ | refine AWP.exit ?_ | refine AWP.skip ?_) | refine AWP.drawn rfl (by kernel_rfl) ?_ | refine AWP.cond rfl ?_ ?_) | with_reducible refine ev_nil ?_ | ((first | ((with_reducible show evNx _ _ _ _ _ _); refine nx_take rfl ?_; intro K hK) | ((with_reducible show Ax _ _ _ _ _); first | (refine ax_op rfl ?_; intro K hK)) | ((with_reducible show evTake _ _ _ _ _); refine take_step rfl ?_; intro K hK) | ((with_reducible show evSy _ _ _ _ _ _ _); refine sy_take rfl ?_; intro K hK) | ((with_reducible show AxB _ _ _ _ _); first | (refine axb_op rfl rfl ?_; intro K hK)) | ((with_reducible show evOps _ _ _ _ _ _); (first | refine ev_step rfl ?_ | refine ev_undef rfl rfl rfl ?_); intro K hK) | ((with_reducible show EvOpen _ _ _ _ _ _ _); refine ev_open ?_; intro K hK) | ((with_reducible show SkOpen _ _ _ _ _ _ _); refine sk_open ?_; intro K hK) | ((with_reducible show callK _ _ _ _ _ _ _ _); first  | (refine call_scalar (less_fn _ _) (Nat.le_of_ble_eq_true rfl) rfl ?_))); simp only [evOp, evQ, binK, withS, opd, kput, putS, upd, lookup, skipOp, argsK, bringIn, bring, Res.list, Res.slot, InK_i64, sz_bytes, c_u8, upd, List.reverse_cons, List.reverse_nil, List.nil_append, List.cons_append, Nat.reduceEqDiff, Nat.reduceLT, Nat.mul_one, Nat.add_zero, ↓reduceIte, eq_self, true_and, and_true, Bool.not_true, Bool.true_eq_false, Bool.false_eq_true, false_implies, forall_const, Int.toNat_natCast]) | refine ev_guard rfl rfl rfl ?_ ?_ | ((with_reducible show retQ _ _ _ _); simp only [eq_self]) | (with_reducible refine hK _ ?_; clear hK K) | (with_reducible refine And.intro ?_ ?_) | (with_reducible intro hc; try simp only [decide_eq_true_eq, decide_eq_false_iff_not, Bool.not_true, Int.not_lt, gt_iff_lt, reduceCtorEq, Bool.true_eq_false] at hc) | omega)
      all_goals simp only [ej] at *
      all_goals first
        | (exfalso; omega; done)
        | exact ⟨(j - 1, swF d2 j (j - 1)), ⟨by show a ≤ j - 1; omega, by show j - 1 ≤ i; omega, hpm2.trans (Pm.sw d2 (by omega) (by omega)), hin.step hja hj2 (by assumption)⟩, by show j - 1 < j; omega, [], rfl, by decide, ⟨sw_ve fun k hk => by (try dsimp only); (repeat' split) <;> first | rfl | (exfalso; omega), rfl, rfl, rfl, vi_eq (by omega), trivial⟩, trivial⟩
        | exact ⟨(i + 1, d2), ⟨by show a + 1 ≤ i + 1; omega, by show i + 1 ≤ b ∨ _; omega, hpm2, hin.done (.inr (by assumption)) hj1 hj2⟩, by show b - (i + 1) < b - i; omega, [], rfl, by decide, ⟨VE.rfl' _, rfl, rfl, vi_eq (by simp), trivial⟩, trivial⟩
        | trace_state
    · obtain rfl : j = a := by omega
      repeat' (first | (with_reducible first | refine then_normal ?_ | refine then_ret ?_ | refine then_exit ?_ | refine block_normal ?_ | refine block_ret ?_) | ((with_reducible show blockQ _ _ _ _); first | refine block_exit ?_ | refine block_exit_ne rfl ?_) | ((with_reducible show AWP _ _ _ _ _); first | (with_reducible first | refine AWP.seq ?_ | refine AWP.block ?_ | refine AWP.region ?_ | refine AWP.ret ?_ | refine AWP.exit ?_ | refine AWP.skip ?_) | refine AWP.drawn rfl (by kernel_rfl) ?_ | refine AWP.cond rfl ?_ ?_) | with_reducible refine ev_nil ?_ | ((first | ((with_reducible show evOps _ _ _ _ _ _); (first | refine ev_step rfl ?_ | refine ev_undef rfl rfl rfl ?_); intro K hK) | ((with_reducible show EvOpen _ _ _ _ _ _ _); refine ev_open ?_; intro K hK) | ((with_reducible show SkOpen _ _ _ _ _ _ _); refine sk_open ?_; intro K hK) | ((with_reducible show callK _ _ _ _ _ _ _ _); first | fail)); simp only [evOp, evQ, binK, withS, opd, kput, putS, upd, lookup, skipOp, argsK, InK_i64, sz_bytes, c_u8, upd, List.reverse_cons, List.reverse_nil, List.nil_append, List.cons_append, Nat.reduceEqDiff, Nat.reduceLT, Nat.mul_one, Nat.add_zero, ↓reduceIte, eq_self, true_and, Bool.not_true, Bool.false_eq_true, false_implies, forall_const, Int.toNat_natCast]) | refine ev_guard rfl rfl rfl ?_ ?_ | ((with_reducible show retQ _ _ _ _); simp only [eq_self]) | (with_reducible refine hK _ ?_; clear hK K) | (with_reducible refine And.intro ?_ ?_) | (with_reducible intro hc; try simp only [decide_eq_true_eq, decide_eq_false_iff_not, Bool.not_true, Int.not_lt, gt_iff_lt, reduceCtorEq, Bool.true_eq_false] at hc) | omega)
      all_goals first
        | (exfalso; omega; done)
        | exact ⟨(i + 1, d2), ⟨by show j + 1 ≤ i + 1; omega, by show i + 1 ≤ b ∨ _; omega, hpm2, hin.done (.inl rfl) hj1 hj2⟩, by show b - (i + 1) < b - i; omega, [], rfl, by decide, ⟨VE.rfl' _, rfl, rfl, vi_eq (by simp), trivial⟩, trivial⟩
        | trace_state
  · repeat' (first | (with_reducible first | refine then_normal ?_ | refine then_ret ?_ | refine then_exit ?_ | refine block_normal ?_ | refine block_ret ?_) | ((with_reducible show blockQ _ _ _ _); first | refine block_exit ?_ | refine block_exit_ne rfl ?_) | ((with_reducible show AWP _ _ _ _ _); first | (with_reducible first | refine AWP.seq ?_ | refine AWP.block ?_ | refine AWP.region ?_ | refine AWP.ret ?_ | refine AWP.exit ?_ | refine AWP.skip ?_) | refine AWP.drawn rfl (by kernel_rfl) ?_ | refine AWP.cond rfl ?_ ?_) | with_reducible refine ev_nil ?_ | ((first | ((with_reducible show evOps _ _ _ _ _ _); (first | refine ev_step rfl ?_ | refine ev_undef rfl rfl rfl ?_); intro K hK) | ((with_reducible show EvOpen _ _ _ _ _ _ _); refine ev_open ?_; intro K hK) | ((with_reducible show SkOpen _ _ _ _ _ _ _); refine sk_open ?_; intro K hK) | ((with_reducible show callK _ _ _ _ _ _ _ _); first | fail)); simp only [evOp, evQ, binK, withS, opd, kput, putS, upd, lookup, upd, Nat.reduceEqDiff, Nat.reduceLT, ↓reduceIte, eq_self, true_and]) | refine ev_guard rfl rfl rfl ?_ ?_ | ((with_reducible show retQ _ _ _ _); simp only [eq_self]) | (with_reducible refine hK _ ?_; clear hK K) | (with_reducible refine And.intro ?_ ?_) | (with_reducible intro hc; try simp only [decide_eq_true_eq, decide_eq_false_iff_not, Int.not_lt] at hc) | omega)
    all_goals first
      | (exfalso; omega; done)
      | exact ⟨_, _, rfl, vuF_val, rfl, d1, rfl, ⟨hpm, fun p q h1 h2 h3 => hsr p q h1 h2 (by omega)⟩, rfl⟩
      | trace_state
end Go.Proofs.Yteapdildbfimnaa
namespace Go.Proofs.Yteapdildbfimnaa
open Go.RowKit Go.Proofs
set_option linter.unusedSimpArgs false
set_option linter.unusedVariables false
set_option maxRecDepth 20000

set_option maxHeartbeats 8000000 in
theorem siftDown_m (n : Nat) (d : Nat → Int) (lo hi f : Nat) (hf : f + hi ≤ n) (hlo : lo ≤ n) (hn : n ≤ 1099511627776) (hp : ∀ k, lo < k → HpAt f hi d k) : FnM Try.prog 163 n (vuF d) [.int .i64 lo, .int .i64 hi, .int .i64 f] (unitR fun d' => Pm f (f + hi) d d' ∧ ∀ k, lo ≤ k → HpAt f hi d' k) := by
  refine FnM.of_body (ts := []) Try.call163 Try.func163 rfl Try.ntmps163 rfl (by simp) vuF_val (fun N bk c e cx hcx hbN hnc => ?_)
  repeat' (first | (with_reducible first | refine then_normal ?_ | refine then_ret ?_ | refine then_exit ?_ | refine block_normal ?_ | refine block_ret ?_) | ((with_reducible show blockQ _ _ _ _); first | refine block_exit ?_ | refine block_exit_ne rfl ?_) | ((with_reducible show AWP _ _ _ _ _); first | (with_reducible first | refine AWP.seq ?_ | refine AWP.block ?_ | refine AWP.region ?_ | refine AWP.ret ?_ | refine AWP.exit ?_ | refine AWP.skip ?_) | refine AWP.drawn rfl (by kernel_rfl) ?_ | refine AWP.cond rfl ?_ ?_) | with_reducible refine ev_nil ?_ | ((first | ((with_reducible show evOps _ _ _ _ _ _); (first | refine ev_step rfl ?_ | refine ev_undef rfl rfl rfl ?_); intro K hK) | ((with_reducible show EvOpen _ _ _ _ _ _ _); refine ev_open ?_; intro K hK) | ((with_reducible show SkOpen _ _ _ _ _ _ _); refine sk_open ?_; intro K hK) | ((with_reducible show callK _ _ _ _ _ _ _ _); first | fail)); simp only [evOp, evQ, withS, opd, kput, putS, upd, lookup, slotsOf, upd, List.map_cons, List.map_nil, Nat.reduceEqDiff, Nat.reduceAdd, Nat.reduceLT, Nat.zero_add, ↓reduceIte, eq_self, true_and]) | refine ev_guard rfl rfl rfl ?_ ?_ | ((with_reducible show retQ _ _ _ _); simp only [eq_self]) | (with_reducible refine hK _ ?_; clear hK K) | (with_reducible refine And.intro ?_ ?_) | (with_reducible intro hc; try simp only [eq_self] at hc) | omega)
  refine AWP.loop_entR [] (fun y : Nat × (Nat → Int) => ⟨[(0, .one (.pv (.grow (.slice (some ⟨bk, 0, none⟩) n c) (isB bk) e 1 n (vuF y.2)))), (1, sc (.int .i64 lo)), (2, sc (.int .i64 hi)), (3, sc (.int .i64 f)), (8, sc (.int .i64 y.1))], [], 76⟩)
    (fun y => lo ≤ y.1 ∧ (y.1 < hi ∨ y.1 = lo) ∧ Pm f (f + hi) d y.2 ∧ HpX f lo hi y.1 y.2) (fun y => hi - y.1) (lo, d) ⟨Nat.le_refl _, .inr rfl, Pm.refl _ _ _, HpX.start hp⟩ (by simp [EntR, EntSR, EntHR, SlR, VE, VE.rfl', lookup, BE, upd, sc]) ?_
  rintro ⟨r, d1⟩ ⟨hr1, hr2, hpm, hx⟩
  dsimp only at hr1 hr2 hpm hx ⊢
  have hrn : r ≤ n := by omega
  have e0 : ((f : Int) + r).toNat = f + r := by omega
  have e1 : ((f : Int) + (2 * (r : Int) + 1)).toNat = f + (2 * r + 1) := by omega
  have e2 : ((f : Int) + (2 * (r : Int) + 1) + 1).toNat = f + (2 * r + 2) := by omega
  have e3 : ((f : Int) + (2 * (r : Int) + 1 + 1)).toNat = f + (2 * r + 2) := by omega
  by_cases h1 : 2 * r + 1 < hi
  · have fin : ∀ k, (k = 2 * r + 1 ∨ k = 2 * r + 2) → k < hi → (∀ s, (s = 2 * r + 1 ∨ s = 2 * r + 2) → s < hi → d1 (f + s) ≤ d1 (f + k)) → d1 (f + r) < d1 (f + k) → lo ≤ k ∧ (k < hi ∨ k = lo) ∧ Pm f (f + hi) d (swF d1 (f + r) (f + k)) ∧ HpX f lo hi k (swF d1 (f + r) (f + k)) := fun k hk hkh hmax hlt =>
      ⟨by omega, .inl hkh, hpm.trans (Pm.sw d1 ⟨by omega, by omega⟩ ⟨by omega, by omega⟩), hx.step hr1 hk hkh (Int.le_of_lt hlt) hmax⟩
    repeat' (first | ((with_reducible show Ax _ _ _ _ _); (first | ((with_reducible show Ax _ _ _ (Oper.mk _ (Op.indexAddr _ _ _) _ _ _ _) _); refine ax_addr rfl rfl sz_bytes (by omega) (by omega) rfl ?_; simp only [putS, upd, upd, Nat.reduceEqDiff, ↓reduceIte]) | ((with_reducible show Ax _ _ _ (Oper.mk none (Op.store _ _ _) _ _ _ _) _); refine ax_storeR 0 rfl rfl rfl rfl c_u8 (by omega) hcx (by intro i hi; (try dsimp only); (repeat' split) <;> exact ⟨_, rfl⟩) rfl (by simp only [okRS, okR]; repeat' (first | exact trivial | exact rfl | refine And.intro ?_ ?_)) trivial ?_; simp only [rwS, rwSl]))) | ((with_reducible show evNx _ _ _ _ _ _); first | (with_reducible refine nx_done ?_) | (refine nx_one rfl ?_) | (refine nx_alt rfl ?_ ?_) | (with_reducible refine nx_st ?_)) | ((with_reducible show evSx _ _ _ _ _ _); first | (with_reducible refine sx_done ?_) | (with_reducible refine sx_st ?_) | (with_reducible refine sx_op ?_)) | ((with_reducible show evTake _ _ _ _ _); with_reducible refine take_nil ?_) | ((with_reducible show evSy _ _ _ _ _ _ _); first | (with_reducible refine sy_done ?_) | (refine sy_last rfl ?_) | (refine sy_one (by decide) rfl ?_) | (refine sy_alt (by decide) rfl ?_ ?_) | (with_reducible refine sy_st ?_)) | ((with_reducible show StK _ _ _); first | fail) | (with_reducible first | refine then_normal ?_ | refine then_ret ?_ | refine then_exit ?_ | refine block_normal ?_ | refine block_ret ?_) | ((with_reducible show blockQ _ _ _ _); first | refine block_exit ?_ | refine block_exit_ne rfl ?_) | ((with_reducible show AWP _ _ _ _ _); first | (refine AWP.drawn_nx (id := 6) (.take 0 (.take 1 (.take 2 (.take 3 (.take 4 (.take 5 (.take 6 (.take 7 (.take 8 (.take 9 (.take 10 (.take 11 (.take 12 (.take 14 (.take 15 (.take 16 (.take 17 (.take 18 (.alt 13 (.one 19 (.one 20 (.one 21 (.one 22 (.one 23 .done))))) (.one 19 (.one 13 (.one 20 (.one 21 (.one 22 (.one 23 .done))))))))))))))))))))))))) rfl (by kernel_rfl) ?_) | (with_reducible first | refine AWP.seq ?_ | refine AWP.block ?_ | refine AWP.region ?_ | refine AWP.ret ?_ | refine AWP.exit ?_ | refine AWP.skip ?_) | refine AWP.drawn rfl (by kernel_rfl) ?_ | refine AWP.cond rfl ?_ ?_) | with_reducible refine ev_nil ?_ | ((first | ((with_reducible show evNx _ _ _ _ _ _); refine nx_take rfl ?_; intro K hK) | ((with_reducible show Ax _ _ _ _ _); first | (refine ax_op rfl ?_; intro K hK)) | ((with_reducible show evTake _ _ _ _ _); refine take_step rfl ?_; intro K hK) | ((with_reducible show evSy _ _ _ _ _ _ _); refine sy_take rfl ?_; intro K hK) | ((with_reducible show AxB _ _ _ _ _); first | (refine axb_op rfl rfl ?_; intro K hK)) | ((with_reducible show evOps _ _ _ _ _ _); (first | refine ev_step rfl ?_ | refine ev_undef rfl rfl rfl ?_); intro K hK) | ((with_reducible show EvOpen _ _ _ _ _ _ _); refine ev_open ?_; intro K hK) | ((with_reducible show SkOpen _ _ _ _ _ _ _); refine sk_open ?_; intro K hK) | ((with_reducible show callK _ _ _ _ _ _ _ _); first  | (refine call_scalar (less_fn _ _) (Nat.le_of_ble_eq_true rfl) rfl ?_))); simp only [evOp, evQ, binK, withS, opd, kput, putS, upd, lookup, skipOp, argsK, bringIn, bring, Res.list, Res.slot, InK_i64, sz_bytes, c_u8, upd, List.reverse_cons, List.reverse_nil, List.nil_append, List.cons_append, Nat.reduceEqDiff, Nat.reduceLT, Nat.mul_one, Nat.add_zero, ↓reduceIte, eq_self, true_and, and_true, Bool.not_true, Bool.true_eq_false, Bool.false_eq_true, false_implies, forall_const]) | refine ev_guard rfl rfl rfl ?_ ?_ | ((with_reducible show retQ _ _ _ _); simp only [eq_self]) | (with_reducible refine hK _ ?_; clear hK K) | (with_reducible refine And.intro ?_ ?_) | (with_reducible intro hc; try simp only [decide_eq_true_eq, decide_eq_false_iff_not, Bool.not_eq_true', Bool.not_eq_false', Bool.not_true, Int.not_lt, Int.not_le, ge_iff_le, reduceCtorEq, Bool.true_eq_false] at hc) | omega)
    all_goals simp only [e0, e1, e2, e3] at *
    all_goals first
      | (exfalso; omega; done)
      | (refine ⟨(2 * r + 1, swF d1 (f + r) (f + (2 * r + 1))), fin (2 * r + 1) (.inl rfl) h1 (fun s hs hsh => ?_) (by assumption), by show hi - (2 * r + 1) < hi - r; omega, [], rfl, by decide, ⟨sw_ve fun k hk => by (try dsimp only); (repeat' split) <;> first | rfl | (exfalso; omega), rfl, rfl, rfl, vi_eq (by first | omega | (simp; done) | (simp; omega) | (dsimp only; push_cast; omega)), trivial⟩, trivial⟩
         rcases hs with rfl | rfl
         · exact Int.le_refl _
         · first | omega | (exfalso; omega))
      | (refine ⟨(2 * r + 2, swF d1 (f + r) (f + (2 * r + 2))), fin (2 * r + 2) (.inr rfl) (by omega) (fun s hs hsh => ?_) (by assumption), by show hi - (2 * r + 2) < hi - r; omega, [], rfl, by decide, ⟨sw_ve fun k hk => by (try dsimp only); (repeat' split) <;> first | rfl | (exfalso; omega), rfl, rfl, rfl, vi_eq (by first | omega | (simp; done) | (simp; omega) | (dsimp only; push_cast; omega)), trivial⟩, trivial⟩
         rcases hs with rfl | rfl
         · exact Int.le_of_lt (by assumption)
         · exact Int.le_refl _)
      | (refine ⟨_, _, rfl, vuF_val, rfl, d1, rfl, ⟨hpm, hx.done fun s hs hsh => ?_⟩, rfl⟩
         rcases hs with rfl | rfl <;> first | omega | (exfalso; omega))
      | trace_state
  · repeat' (first | (with_reducible first | refine then_normal ?_ | refine then_ret ?_ | refine then_exit ?_ | refine block_normal ?_ | refine block_ret ?_) | ((with_reducible show blockQ _ _ _ _); first | refine block_exit ?_ | refine block_exit_ne rfl ?_) | ((with_reducible show AWP _ _ _ _ _); first | (with_reducible first | refine AWP.seq ?_ | refine AWP.block ?_ | refine AWP.region ?_ | refine AWP.ret ?_ | refine AWP.exit ?_ | refine AWP.skip ?_) | refine AWP.drawn rfl (by kernel_rfl) ?_ | refine AWP.cond rfl ?_ ?_) | with_reducible refine ev_nil ?_ | ((first | ((with_reducible show evOps _ _ _ _ _ _); (first | refine ev_step rfl ?_ | refine ev_undef rfl rfl rfl ?_); intro K hK) | ((with_reducible show EvOpen _ _ _ _ _ _ _); refine ev_open ?_; intro K hK) | ((with_reducible show SkOpen _ _ _ _ _ _ _); refine sk_open ?_; intro K hK) | ((with_reducible show callK _ _ _ _ _ _ _ _); first | fail)); simp only [evOp, evQ, binK, withS, opd, kput, putS, upd, lookup, skipOp, argsK, InK_i64, sz_bytes, c_u8, upd, List.reverse_cons, List.reverse_nil, List.nil_append, List.cons_append, Nat.reduceEqDiff, Nat.reduceLT, Nat.mul_one, Nat.add_zero, ↓reduceIte, eq_self, true_and, Bool.not_true, Bool.false_eq_true, false_implies, forall_const]) | refine ev_guard rfl rfl rfl ?_ ?_ | ((with_reducible show retQ _ _ _ _); simp only [eq_self]) | (with_reducible refine hK _ ?_; clear hK K) | (with_reducible refine And.intro ?_ ?_) | (with_reducible intro hc; try simp only [decide_eq_true_eq, decide_eq_false_iff_not, Bool.not_true, Int.not_lt, Int.not_le, ge_iff_le, reduceCtorEq, Bool.true_eq_false] at hc) | omega)
    all_goals first
      | (exfalso; omega; done)
      | exact ⟨_, _, rfl, vuF_val, rfl, d1, rfl, ⟨hpm, hx.done fun s hs hsh => by omega⟩, rfl⟩
      | trace_state

set_option maxHeartbeats 4000000 in
theorem reverse_m (n : Nat) (d : Nat → Int) (a b : Nat) (hab : a < b) (hbn : b ≤ n) (hn : n ≤ 1099511627776) : FnM Try.prog 133 n (vuF d) [.int .i64 a, .int .i64 b] (unitR fun d' => Pm a b d d') := by
  refine FnM.of_body (ts := []) Try.call133 Try.func133 rfl Try.ntmps133 rfl (by simp) vuF_val (fun N bk c e cx hcx hbN hnc => ?_)
  repeat' (first | (with_reducible first | refine then_normal ?_ | refine then_ret ?_ | refine then_exit ?_ | refine block_normal ?_ | refine block_ret ?_) | ((with_reducible show blockQ _ _ _ _); first | refine block_exit ?_ | refine block_exit_ne rfl ?_) | ((with_reducible show AWP _ _ _ _ _); first | (with_reducible first | refine AWP.seq ?_ | refine AWP.block ?_ | refine AWP.region ?_ | refine AWP.ret ?_ | refine AWP.exit ?_ | refine AWP.skip ?_) | refine AWP.drawn rfl (by kernel_rfl) ?_ | refine AWP.cond rfl ?_ ?_) | with_reducible refine ev_nil ?_ | ((first | ((with_reducible show evOps _ _ _ _ _ _); (first | refine ev_step rfl ?_ | refine ev_undef rfl rfl rfl ?_); intro K hK) | ((with_reducible show EvOpen _ _ _ _ _ _ _); refine ev_open ?_; intro K hK) | ((with_reducible show SkOpen _ _ _ _ _ _ _); refine sk_open ?_; intro K hK) | ((with_reducible show callK _ _ _ _ _ _ _ _); first | fail)); simp only [evOp, evQ, binK, withS, opd, kput, putS, upd, lookup, slotsOf, InK_i64, upd, List.map_cons, List.map_nil, Nat.reduceEqDiff, Nat.reduceAdd, Nat.reduceLT, Nat.zero_add, ↓reduceIte, eq_self, true_and]) | refine ev_guard rfl rfl rfl ?_ ?_ | ((with_reducible show retQ _ _ _ _); simp only [eq_self]) | (with_reducible refine hK _ ?_; clear hK K) | (with_reducible refine And.intro ?_ ?_) | (with_reducible intro hc; try simp only [eq_self] at hc) | omega)
  refine AWP.loop_entR [] (fun y : (Nat × Nat) × (Nat → Int) => ⟨[(0, .one (.pv (.grow (.slice (some ⟨bk, 0, none⟩) n c) (isB bk) e 1 n (vuF y.2)))), (1, sc (.int .i64 a)), (2, sc (.int .i64 b)), (6, sc (.int .i64 y.1.1)), (7, sc (.int .i64 ((y.1.2 : Int) - 1)))], [], 32⟩)
    (fun y => a ≤ y.1.1 ∧ a ≤ y.1.2 ∧ y.1.1 ≤ b ∧ y.1.2 ≤ b ∧ Pm a b d y.2) (fun y => y.1.2) ((a, b), d) ⟨Nat.le_refl _, by show a ≤ b; omega, by show a ≤ b; omega, Nat.le_refl _, Pm.refl _ _ _⟩ (by simp [EntR, EntSR, EntHR, SlR, VE, VE.rfl', lookup, BE, upd, sc]) ?_
  rintro ⟨⟨i, j⟩, d1⟩ ⟨hi1, hj1, hi2, hj2, hpm⟩
  dsimp only at hi1 hj1 hi2 hj2 hpm ⊢
  have e1 : ((j : Int) - 1).toNat = j - 1 := by omega
  repeat' (first | ((with_reducible show Ax _ _ _ _ _); (first | ((with_reducible show Ax _ _ _ (Oper.mk _ (Op.indexAddr _ _ _) _ _ _ _) _); refine ax_addr rfl rfl sz_bytes (by omega) (by omega) rfl ?_; simp only [putS, upd, upd, Nat.reduceEqDiff, ↓reduceIte, Int.toNat_natCast]) | ((with_reducible show Ax _ _ _ (Oper.mk none (Op.store _ _ _) _ _ _ _) _); refine ax_storeR 0 rfl rfl rfl rfl c_u8 (by omega) hcx (by intro i hi; (try dsimp only); (repeat' split) <;> exact ⟨_, rfl⟩) rfl (by simp only [okRS, okR]; repeat' (first | exact trivial | exact rfl | refine And.intro ?_ ?_)) trivial ?_; simp only [rwS, rwSl]))) | ((with_reducible show evNx _ _ _ _ _ _); first | (with_reducible refine nx_done ?_) | (refine nx_one rfl ?_) | (refine nx_alt rfl ?_ ?_) | (with_reducible refine nx_st ?_)) | ((with_reducible show evSx _ _ _ _ _ _); first | (with_reducible refine sx_done ?_) | (with_reducible refine sx_st ?_) | (with_reducible refine sx_op ?_)) | ((with_reducible show evTake _ _ _ _ _); with_reducible refine take_nil ?_) | ((with_reducible show evSy _ _ _ _ _ _ _); first | (with_reducible refine sy_done ?_) | (refine sy_last rfl ?_) | (refine sy_one (by decide) rfl ?_) | (refine sy_alt (by decide) rfl ?_ ?_) | (with_reducible refine sy_st ?_)) | ((with_reducible show StK _ _ _); first | fail) | (with_reducible first | refine then_normal ?_ | refine then_ret ?_ | refine then_exit ?_ | refine block_normal ?_ | refine block_ret ?_) | ((with_reducible show blockQ _ _ _ _); first | refine block_exit ?_ | refine block_exit_ne rfl ?_) | ((with_reducible show AWP _ _ _ _ _); first | (refine AWP.drawn_nx (id := 3) (.take 0 (.take 1 (.take 2 (.take 3 (.take 4 (.take 5 (.take 6 (.take 8 (.take 9 (.take 10 (.alt 7 (.one 11 (.one 12 (.one 13 (.one 14 (.one 15 .done))))) (.one 11 (.one 7 (.one 12 (.one 13 (.one 14 (.one 15 .done))))))))))))))))) rfl (by kernel_rfl) ?_) | (with_reducible first | refine AWP.seq ?_ | refine AWP.block ?_ | refine AWP.region ?_ | refine AWP.ret ?_ | refine AWP.exit ?_ | refine AWP.skip ?_) | refine AWP.drawn rfl (by kernel_rfl) ?_ | refine AWP.cond rfl ?_ ?_) | with_reducible refine ev_nil ?_ | ((first | ((with_reducible show evNx _ _ _ _ _ _); refine nx_take rfl ?_; intro K hK) | ((with_reducible show Ax _ _ _ _ _); first | (refine ax_op rfl ?_; intro K hK)) | ((with_reducible show evTake _ _ _ _ _); refine take_step rfl ?_; intro K hK) | ((with_reducible show evSy _ _ _ _ _ _ _); refine sy_take rfl ?_; intro K hK) | ((with_reducible show AxB _ _ _ _ _); first | (refine axb_op rfl rfl ?_; intro K hK)) | ((with_reducible show evOps _ _ _ _ _ _); (first | refine ev_step rfl ?_ | refine ev_undef rfl rfl rfl ?_); intro K hK) | ((with_reducible show EvOpen _ _ _ _ _ _ _); refine ev_open ?_; intro K hK) | ((with_reducible show SkOpen _ _ _ _ _ _ _); refine sk_open ?_; intro K hK) | ((with_reducible show callK _ _ _ _ _ _ _ _); first  | fail)); simp only [evOp, evQ, binK, withS, opd, kput, putS, upd, lookup, InK_i64, sz_bytes, c_u8, upd, Nat.reduceEqDiff, Nat.reduceLT, Nat.mul_one, Nat.add_zero, ↓reduceIte, eq_self, true_and, Int.toNat_natCast]) | refine ev_guard rfl rfl rfl ?_ ?_ | ((with_reducible show retQ _ _ _ _); simp only [eq_self]) | (with_reducible refine hK _ ?_; clear hK K) | (with_reducible refine And.intro ?_ ?_) | (with_reducible intro hc; try simp only [decide_eq_true_eq, decide_eq_false_iff_not, Int.not_lt] at hc) | omega)
  all_goals simp only [e1, Int.toNat_natCast] at *
  all_goals first
    | (exfalso; omega; done)
    | exact ⟨((i + 1, j - 1), swF d1 i (j - 1)), ⟨by show a ≤ i + 1; omega, by show a ≤ j - 1; omega, by show i + 1 ≤ b; omega, by show j - 1 ≤ b; omega, hpm.trans (Pm.sw d1 (by omega) (by omega))⟩, by show j - 1 < j; omega, [], rfl, by decide, ⟨sw_ve fun k hk => by (try dsimp only); (repeat' split) <;> first | rfl | (exfalso; omega), rfl, rfl, vi_eq (by first | omega | (simp; done) | (simp; omega) | (dsimp only; push_cast; omega)), vi_eq (by first | omega | (simp; done) | (simp; omega) | (dsimp only; push_cast; omega)), trivial⟩, trivial⟩
    | exact ⟨_, _, rfl, vuF_val, rfl, d1, rfl, hpm, rfl⟩
    | trace_state
end Go.Proofs.Yteapdildbfimnaa
