/- markText, markStringS and heldStringS. Conditions: numbers no greater than 2^62. -/
import Derived.Test.YtmfkclfeolpndaaDoorFnPic
import Derived.Test.YtmfkclfeolpndaaDoorMark
import Derived.Test.YtmfkclfeolpndaaDoorEngH
namespace Go.Proofs.YtmfkclfeolpndaaDoor
open Go.RowKit Go.Proofs
set_option linter.unusedSimpArgs false
set_option linter.unusedVariables false

/-- The digits of k ahead of o. -/
def dig (k : Nat) (o : ByteArray) : ByteArray := if h : k = 0 then o else dig (k / 10) (strOfNums [48 + ((k % 10 : Nat) : Int)] ++ o)
termination_by k
decreasing_by omega
theorem dig_zero (o : ByteArray) : dig 0 o = o := by rw [dig]; simp
theorem dig_pos {k : Nat} (h : ¬ k = 0) (o : ByteArray) : dig k o = dig (k / 10) (strOfNums [48 + ((k % 10 : Nat) : Int)] ++ o) := by
  conv => lhs; rw [dig]
  rw [dif_neg h]
def mtx (k : Int) : ByteArray := if k ≤ 0 then ByteArray.mk #[109, 48] else ByteArray.mk #[109] ++ dig k.toNat (ByteArray.mk #[])
theorem mtx_no {k : Int} (h : k ≤ 0) : mtx k = ByteArray.mk #[109, 48] := by unfold mtx; rw [if_pos h]
theorem mtx_yes {k : Int} (h : 0 < k) : mtx k = ByteArray.mk #[109] ++ dig k.toNat (ByteArray.mk #[]) := by unfold mtx; rw [if_neg (by omega)]

theorem size_one (z : Int) (o : ByteArray) : (strOfNums [z] ++ o).size = o.size + 1 := by
  rw [ByteArray.size_append, strOfNums_size]; simp; omega

theorem markText_fn (k : Int) (hk : k ≤ 4611686018427387904) : Fn Tryd.prog 19 [vi k] (.one (.pv (vs (mtx k)))) := by
  refine Fn.of_body Tryd.call19 Tryd.func19 rfl Tryd.ntmps19 (ts := [2]) rfl (by simp) rfl (fun N => ?_)
  repeat' (first | ((with_reducible show thenQ _ _ _ _); first | with_reducible refine then_normal ?_ | with_reducible refine then_ret ?_ | with_reducible refine then_exit ?_) | ((with_reducible show blockQ _ _ _ _); first | with_reducible refine block_normal ?_ | with_reducible refine block_ret ?_ | refine block_exit ?_ | refine block_exit_ne rfl ?_) | ((with_reducible show AWP _ _ _ _ _); first | with_reducible refine AWP.seq ?_ | with_reducible refine AWP.block ?_ | with_reducible refine AWP.region ?_ | (refine AWP.drawn rfl (by kernel_rfl) ?_) | with_reducible refine AWP.ret ?_ | with_reducible refine AWP.exit ?_ | with_reducible refine AWP.skip ?_ | refine AWP.cond rfl ?_ ?_) | with_reducible refine ev_nil ?_ | ((first | ((with_reducible show evOps _ _ _ _ _ _); (first | refine ev_step rfl ?_ | refine ev_undef rfl rfl rfl ?_); intro K hK) | ((with_reducible show EvOpen _ _ _ _ _ _ _); refine ev_open ?_; intro K hK) | ((with_reducible show SkOpen _ _ _ _ _ _ _); refine sk_open ?_; intro K hK) | ((with_reducible show callK _ _ _ _ _ _ _ _); first | fail)); simp only [evOp, oldZ, evQ, evB, capsK, dynK, tabV, bytesK, eqStK, vInt, binK, withS, opd, kput, putS, upd, lookup, skipOp, argsK, loadOwn, bringIn, bring, Res.list, Res.slot, slotsOf, InK_i64, appendK, srcK, growK, storeK, frz, storeV, setBlk, makeK, newBlk, boxV, allocK, buildK, partsK, buildSliceK, plSlice, cutK, boundK, V.one, Value.oneCell', List.set_cons_zero, List.set_cons_succ, c_int, u_bool, bints, u_int, sz_strs, c_string, ei_strs, ea_strs, u_string, bs_bytes, ei_bytes, ea_bytes, sz_bytes, c_u8, u_u8, bstrs, tf_0, tf_1, tf_2, tf_00, tf_01, tf_02, t3_0, t3_1, t3_2, retCell, retCell.cellOk, Nat.zero_le, lenB_is, byteI_is, InK_u8, List.getElem?_cons_zero, List.getElem?_cons_succ, Option.bind_some, List.reverse_cons, List.reverse_nil, List.nil_append, List.cons_append, List.length_cons, List.length_nil, Nat.reduceEqDiff, Nat.reduceAdd, Nat.reduceLT, Nat.reduceLeDiff, Nat.reduceMul, Nat.mul_one, Nat.one_mul, Nat.zero_mul, Nat.add_zero, Nat.zero_add, Nat.sub_zero, Nat.mod_one, Nat.not_lt_zero, List.getD_cons_zero, ↓reduceIte, if_true, if_false, eq_self, true_and, and_true, Bool.not_true, Bool.not_false, Bool.true_eq_false, Bool.false_eq_true, false_implies, forall_const, implies_true, Int.toNat_natCast, Int.toNat_zero, Int.toNat_one, Option.isSome_some]) | refine ev_guard rfl rfl rfl ?_ ?_ | ((with_reducible show retQ _ _ _ _); simp only [retQ, retOk, getL, lookup, Option.map_some, fitsL, fits, ND, srcs, Res.list, VE, List.getElem?_cons_zero, List.getElem?_cons_succ, Value.bool.injEq, Value.int.injEq, Nat.reduceEqDiff, ↓reduceIte, and_true, true_and]) | (with_reducible refine hK _ ?_; clear hK K) | (with_reducible refine And.intro ?_ ?_) | (with_reducible intro hc; try simp only [decide_eq_true_eq, decide_eq_false_iff_not, beq_iff_eq, beq_eq_false_iff_ne, bne_iff_ne, bne_eq_false_iff_eq, Bool.not_eq_true', Bool.not_eq_false', Bool.not_true, Bool.not_false, Int.not_lt, Int.not_le, gt_iff_lt, ge_iff_le, ne_eq, Decidable.not_not, reduceCtorEq, inB_true, inB_false, finB_true, finB_false, not_true_eq_false, eqB_refl, Bool.true_eq_false] at hc) | omega)
  · rw [mtx_no ‹_›]
  refine AWP.loop_entR [] (fun x : Nat × ByteArray => ⟨[(0, sc (.int .i64 x.1)), (3, .one (.pv (vs x.2)))], [], 20⟩)
    (fun x => x.2.size + x.1 ≤ k.toNat ∧ dig x.1 x.2 = dig k.toNat (ByteArray.mk #[])) (fun x => x.1) (k.toNat, ByteArray.mk #[]) ⟨by show 0 + k.toNat ≤ _; omega, rfl⟩ (by simp [EntR, EntSR, EntHR, SlR, VE, VE.rfl', lookup, BE, upd, sc]; omega) ?_
  rintro ⟨n, o⟩ ⟨hs, hd⟩
  simp only at hs hd ⊢
  repeat' (first | ((with_reducible show thenQ _ _ _ _); first | with_reducible refine then_normal ?_ | with_reducible refine then_ret ?_ | with_reducible refine then_exit ?_) | ((with_reducible show blockQ _ _ _ _); first | with_reducible refine block_normal ?_ | with_reducible refine block_ret ?_ | refine block_exit ?_ | refine block_exit_ne rfl ?_) | ((with_reducible show AWP _ _ _ _ _); first | with_reducible refine AWP.seq ?_ | with_reducible refine AWP.block ?_ | with_reducible refine AWP.region ?_ | (refine AWP.drawn rfl (by kernel_rfl) ?_) | with_reducible refine AWP.ret ?_ | with_reducible refine AWP.exit ?_ | with_reducible refine AWP.skip ?_ | refine AWP.cond rfl ?_ ?_) | with_reducible refine ev_nil ?_ | ((first | ((with_reducible show evOps _ _ _ _ _ _); (first | refine ev_step rfl ?_ | refine ev_undef rfl rfl rfl ?_); intro K hK) | ((with_reducible show EvOpen _ _ _ _ _ _ _); refine ev_open ?_; intro K hK) | ((with_reducible show SkOpen _ _ _ _ _ _ _); refine sk_open ?_; intro K hK) | ((with_reducible show callK _ _ _ _ _ _ _ _); first | fail)); simp only [evOp, oldZ, evQ, evB, capsK, dynK, tabV, bytesK, eqStK, vInt, binK, withS, opd, kput, putS, upd, lookup, skipOp, argsK, loadOwn, bringIn, bring, Res.list, Res.slot, slotsOf, InK_i64, appendK, srcK, growK, storeK, frz, storeV, setBlk, makeK, newBlk, boxV, allocK, buildK, partsK, buildSliceK, plSlice, cutK, boundK, V.one, Value.oneCell', List.set_cons_zero, List.set_cons_succ, c_int, u_bool, bints, u_int, sz_strs, c_string, ei_strs, ea_strs, u_string, bs_bytes, ei_bytes, ea_bytes, sz_bytes, c_u8, u_u8, bstrs, tf_0, tf_1, tf_2, tf_00, tf_01, tf_02, t3_0, t3_1, t3_2, retCell, retCell.cellOk, Nat.zero_le, lenB_is, byteI_is, InK_u8, List.getElem?_cons_zero, List.getElem?_cons_succ, Option.bind_some, List.reverse_cons, List.reverse_nil, List.nil_append, List.cons_append, List.length_cons, List.length_nil, Nat.reduceEqDiff, Nat.reduceAdd, Nat.reduceLT, Nat.reduceLeDiff, Nat.reduceMul, Nat.mul_one, Nat.one_mul, Nat.zero_mul, Nat.add_zero, Nat.zero_add, Nat.sub_zero, Nat.mod_one, Nat.not_lt_zero, List.getD_cons_zero, ↓reduceIte, if_true, if_false, eq_self, true_and, and_true, Bool.not_true, Bool.not_false, Bool.true_eq_false, Bool.false_eq_true, false_implies, forall_const, implies_true, Int.toNat_natCast, Int.toNat_zero, Int.toNat_one, Option.isSome_some]) | refine ev_guard rfl rfl rfl ?_ ?_ | ((with_reducible show retQ _ _ _ _); simp only [retQ, retOk, getL, lookup, Option.map_some, fitsL, fits, ND, srcs, Res.list, VE, List.getElem?_cons_zero, List.getElem?_cons_succ, Value.bool.injEq, Value.int.injEq, Nat.reduceEqDiff, ↓reduceIte, and_true, true_and]) | (with_reducible refine hK _ ?_; clear hK K) | (with_reducible refine And.intro ?_ ?_) | (with_reducible intro hc; try simp only [decide_eq_true_eq, decide_eq_false_iff_not, beq_iff_eq, beq_eq_false_iff_ne, bne_iff_ne, bne_eq_false_iff_eq, Bool.not_eq_true', Bool.not_eq_false', Bool.not_true, Bool.not_false, Int.not_lt, Int.not_le, gt_iff_lt, ge_iff_le, ne_eq, Decidable.not_not, reduceCtorEq, inB_true, inB_false, finB_true, finB_false, not_true_eq_false, eqB_refl, Bool.true_eq_false] at hc) | omega)
  all_goals first
    | (rename_i i; obtain rfl : i = 0 := (by omega); rfl)
    | (show (strOfNums [48 + (n : Int) % 10]).size + o.size ≤ _
       rw [strOfNums_size]
       simp only [List.length_cons, List.length_nil]
       omega)
    | (refine ⟨(n / 10, strOfNums [48 + ((n % 10 : Nat) : Int)] ++ o), ⟨?_, ?_⟩, by show n / 10 < n; omega, [], rfl, by decide, ⟨?_, ?_, trivial⟩, trivial⟩
       · show (strOfNums [48 + ((n % 10 : Nat) : Int)] ++ o).size + n / 10 ≤ _
         rw [size_one]; omega
       · show dig (n / 10) (strOfNums [48 + ((n % 10 : Nat) : Int)] ++ o) = _
         rw [← hd, ← dig_pos (by omega)]
       · exact VE.of_eq (by show vi ((n : Int) / 10) = vi ((n / 10 : Nat) : Int); congr 2)
       · exact VE.of_eq rfl)
    | (show 1 + o.size ≤ _; omega)
    | (obtain rfl : n = 0 := by omega
       rw [dig_zero] at hd
       rw [mtx_yes (by omega), hd])
    | trace_state

/-- The world behind k rounds of marking block b from m on. -/
def MarkedS (b : Nat) (cur : Array Value) (e : TypeId) (w : World) (k : Nat) (m : Int) (wr : World) : Prop :=
  AllBut b w wr ∧ ∃ cur' : Array Value, wr.heap[b]? = some (.cells cur' e (0, 0)) ∧ cur'.size = cur.size ∧ ∀ i, i < k → cur'[i]? = some (.string (mtx (m + i)))

theorem MarkedS.cell {b : Nat} {cur : Array Value} {e : TypeId} {w wr : World} {k : Nat} {m : Int} (h : MarkedS b cur e w k m wr) (hk : k < cur.size) : (∃ x, wr.cell? ⟨b, k, none⟩ = some x) ∧ wr.frozen? ⟨b, k, none⟩ = false := by
  obtain ⟨_, cur', h1, h2, _⟩ := h
  exact ⟨⟨cur'[k], cell_of_blk h1 (Array.getElem?_eq_getElem (by omega))⟩, by simp [World.frozen?, h1]⟩

theorem MarkedS.step {b : Nat} {cur : Array Value} {e : TypeId} {w wr : World} {k : Nat} {m : Int} (h : MarkedS b cur e w k m wr) (hk : k < cur.size) :
    MarkedS b cur e w (k + 1) m (wr.setCell ⟨b, k, none⟩ (.string (mtx (m + k)))) := by
  obtain ⟨ha, cur', h1, h2, h3⟩ := h
  refine ⟨⟨ha.os, ha.tape, ha.output, by rw [setCell_size]; exact ha.size, fun j hj hne => (Below.heap_setCell _ _ _ _ hne).trans (ha.oth j hj hne)⟩, _, setCell_at h1, by simpa using h2, fun i hi => ?_⟩
  by_cases e : i = k
  · subst e; simp [show i < cur'.size by omega]
  · rw [Array.getElem?_setIfInBounds_ne (fun h => e h.symm)]; exact h3 i (by omega)

theorem MarkedS.below {b : Nat} {cur : Array Value} {e : TypeId} {w wr w' : World} {k : Nat} {m : Int} (h : MarkedS b cur e w k m wr) (hb : Below wr.heap.size wr w') : MarkedS b cur e w k m w' := by
  obtain ⟨ha, cur', h1, h2, h3⟩ := h
  refine ⟨⟨hb.os.trans ha.os, hb.tape.trans ha.tape, hb.output.trans ha.output, Nat.le_trans ha.size hb.size, fun j hj hne => ?_⟩, cur', ?_, h2, h3⟩
  · rw [hb.block j (by have := ha.size; omega)]; exact ha.oth j hj hne
  · rw [hb.block b (block_lt h1)]; exact h1

theorem markS_nil (m : Int) (w : World) : Calls Tryd.prog 10 #[.slice none 0 0, .int .i64 m] w fun e w' => e = .returned (.int .i64 m) ∧ w' = w := by
  go_enter Tryd.func10, Tryd.ntmps10
  go_wp2
  go_loopg [1, 5] 0 (fun _ s1 s5 wr => s1 = .int .i64 m ∧ s5 = .int .i64 0 ∧ wr = w)
  case atStart => exact ⟨rfl, rfl, rfl⟩
  case round =>
    obtain ⟨rfl, rfl, rfl⟩ := hrel
    go_wp2
    go_ret
    exact ⟨rfl, rfl⟩

theorem markS_some (b n c : Nat) (cur : Array Value) (e : TypeId) (m : Int) (w : World) (hm : 0 ≤ m) (hmn : m + n ≤ 4611686018427387904) (hb : w.heap[b]? = some (.cells cur e (0, 0))) (hn : n ≤ cur.size) :
    Calls Tryd.prog 10 #[.slice (some ⟨b, 0, none⟩) n c, .int .i64 m] w fun e' w' => e' = .returned (.int .i64 (m + n)) ∧ MarkedS b cur e w n m w' := by
  go_enter Tryd.func10, Tryd.ntmps10
  go_wp2
  go_loopg [1, 5] n (fun g s1 s5 wr => ∃ k : Nat, s1 = .int .i64 (m + k) ∧ s5 = .int .i64 k ∧ g + k = n ∧ MarkedS b cur e w k m wr)
  case atStart => exact ⟨0, by simp, rfl, by omega, ⟨⟨rfl, rfl, rfl, Nat.le_refl _, fun _ _ _ => rfl⟩, cur, hb, rfl, fun i hi => by omega⟩⟩
  case round =>
    obtain ⟨k, rfl, rfl, hgk, hM⟩ := hrel
    have A : Aside (gk + k = n ∧ MarkedS b cur e w k m wr ∧ 0 ≤ m ∧ m + n ≤ 4611686018427387904 ∧ n ≤ cur.size) := ⟨hgk, hM, hm, hmn, hn⟩
    by_cases hlt : (k : Int) < n
    · have hcall := markText_fn (m + k) (by omega)
      clear hgk hM hm hmn hn hb
      go_wp2_with fail
      refine Calls.mono (hcall.runs wr (fun _ => True) [.int .i64 (m + k)] ⟨rfl, trivial⟩) ?_
      rintro e' w'' ⟨u', φ, rfl, hh, hr⟩
      obtain rfl : u' = .string (mtx (m + k)) := hr
      have hbel := hh.below
      have A2 : Aside (Below wr.heap.size wr w'') := hbel
      obtain ⟨⟨x, hx⟩, hf⟩ := (A.out.2.1.below hbel).cell (show k < cur.size by have := A.out.2.2.2.2; omega)
      clear hbel hh
      go_wp2
      go_roundg (n - (k + 1))
      case measure => obtain ⟨hgk, _⟩ := A.out; omega
      case rel =>
        obtain ⟨hgk, hM, hm, hmn, hn⟩ := A.out
        exact ⟨k + 1, by rw [wrap64_id _ (by omega)]; congr 1; omega, by rw [wrap64_id _ (by omega)]; congr 1, by omega, (hM.below A2.out).step (by omega)⟩
    · clear hgk hM hm hmn hn hb
      go_wp2
      go_ret
      obtain ⟨hgk, hM, _⟩ := A.out
      obtain rfl : k = n := by omega
      exact ⟨rfl, hM⟩

theorem markS_mk (blk : Blk) (n : Nat) (m : Int) (hm : 0 ≤ m) (hmn : m + n ≤ 4611686018427387904) (hb : n ≤ blk.n) : FnMk Tryd.prog 10 n blk ⟨blk.elem, n, fun i => vs (mtx (m + i))⟩ (.int .i64 m) (.int .i64 (m + n)) := by
  refine ⟨Tryd.call10, rfl, hb, fun hn w => ?_, fun w b c cur hcur hle => ?_⟩
  · subst hn
    refine (markS_nil m w).mono ?_
    rintro e w' ⟨rfl, rfl⟩
    exact ⟨by simp, Below.refl _ _⟩
  · refine (markS_some b n c cur blk.elem m w hm hmn hcur (by omega)).mono ?_
    rintro e w' ⟨rfl, h1, cur', h2, h3, h4⟩
    exact ⟨rfl, h1, cur', h2, h3, fun i hi => ⟨_, h4 i hi, rfl⟩⟩

theorem heldS_fn (n : Nat) (m : Int) (hm : 0 ≤ m) (hmn : m + n ≤ 4611686018427387904) : Fn Tryd.prog 11 [.seq 1 n fun i => vs (mtx (m + i)), vi m] (.one (.pv (vi (m + n)))) := by
  refine Fn.of_body Tryd.call11 Tryd.func11 rfl Tryd.ntmps11 (ts := [4]) rfl (by simp) rfl (fun N => ?_)
  repeat' (first | ((with_reducible show thenQ _ _ _ _); first | with_reducible refine then_normal ?_ | with_reducible refine then_ret ?_ | with_reducible refine then_exit ?_) | ((with_reducible show blockQ _ _ _ _); first | with_reducible refine block_normal ?_ | with_reducible refine block_ret ?_ | refine block_exit ?_ | refine block_exit_ne rfl ?_) | ((with_reducible show AWP _ _ _ _ _); first | with_reducible refine AWP.seq ?_ | with_reducible refine AWP.block ?_ | with_reducible refine AWP.region ?_ | (refine AWP.drawn rfl (by kernel_rfl) ?_) | with_reducible refine AWP.ret ?_ | with_reducible refine AWP.exit ?_ | with_reducible refine AWP.skip ?_ | refine AWP.cond rfl ?_ ?_) | with_reducible refine ev_nil ?_ | ((first | ((with_reducible show evOps _ _ _ _ _ _); (first | refine ev_step rfl ?_ | refine ev_undef rfl rfl rfl ?_); intro K hK) | ((with_reducible show EvOpen _ _ _ _ _ _ _); refine ev_open ?_; intro K hK) | ((with_reducible show SkOpen _ _ _ _ _ _ _); refine sk_open ?_; intro K hK) | ((with_reducible show callK _ _ _ _ _ _ _ _); first | fail)); simp only [evOp, oldZ, evQ, evB, capsK, dynK, tabV, bytesK, eqStK, vInt, binK, withS, opd, kput, putS, upd, lookup, skipOp, argsK, loadOwn, bringIn, bring, Res.list, Res.slot, slotsOf, InK_i64, appendK, srcK, growK, storeK, frz, storeV, setBlk, makeK, newBlk, boxV, allocK, buildK, partsK, buildSliceK, plSlice, cutK, boundK, V.one, Value.oneCell', List.set_cons_zero, List.set_cons_succ, c_int, u_bool, bints, u_int, sz_strs, c_string, ei_strs, ea_strs, u_string, bs_bytes, ei_bytes, ea_bytes, sz_bytes, c_u8, u_u8, bstrs, tf_0, tf_1, tf_2, tf_00, tf_01, tf_02, t3_0, t3_1, t3_2, retCell, retCell.cellOk, Nat.zero_le, lenB_is, byteI_is, InK_u8, List.getElem?_cons_zero, List.getElem?_cons_succ, Option.bind_some, List.reverse_cons, List.reverse_nil, List.nil_append, List.cons_append, List.length_cons, List.length_nil, Nat.reduceEqDiff, Nat.reduceAdd, Nat.reduceLT, Nat.reduceLeDiff, Nat.reduceMul, Nat.mul_one, Nat.one_mul, Nat.zero_mul, Nat.add_zero, Nat.zero_add, Nat.sub_zero, Nat.mod_one, Nat.not_lt_zero, List.getD_cons_zero, ↓reduceIte, if_true, if_false, eq_self, true_and, and_true, Bool.not_true, Bool.not_false, Bool.true_eq_false, Bool.false_eq_true, false_implies, forall_const, implies_true, Int.toNat_natCast, Int.toNat_zero, Int.toNat_one, Option.isSome_some]) | refine ev_guard rfl rfl rfl ?_ ?_ | ((with_reducible show retQ _ _ _ _); simp only [retQ, retOk, getL, lookup, Option.map_some, fitsL, fits, ND, srcs, Res.list, VE, List.getElem?_cons_zero, List.getElem?_cons_succ, Value.bool.injEq, Value.int.injEq, Nat.reduceEqDiff, ↓reduceIte, and_true, true_and]) | (with_reducible refine hK _ ?_; clear hK K) | (with_reducible refine And.intro ?_ ?_) | (with_reducible intro hc; try simp only [decide_eq_true_eq, decide_eq_false_iff_not, beq_iff_eq, beq_eq_false_iff_ne, bne_iff_ne, bne_eq_false_iff_eq, Bool.not_eq_true', Bool.not_eq_false', Bool.not_true, Bool.not_false, Int.not_lt, Int.not_le, gt_iff_lt, ge_iff_le, ne_eq, Decidable.not_not, reduceCtorEq, inB_true, inB_false, finB_true, finB_false, not_true_eq_false, eqB_refl, Bool.true_eq_false] at hc) | omega)
  refine AWP.loop_ent (fun k : Nat => ⟨[(0, .one (.pv (.seq 1 n fun i => vs (mtx (m + i))))), (1, sc (.int .i64 (m + k))), (5, sc (.int .i64 k))], [], 22⟩)
    (fun k => k ≤ n) (fun k => n - k) 0 (by omega) (by simp [Ent, EntS, EntH, SlE, VE, lookup, BE, VE.rfl']) ?_
  intro k hk
  repeat' (first | ((with_reducible show thenQ _ _ _ _); first | with_reducible refine then_normal ?_ | with_reducible refine then_ret ?_ | with_reducible refine then_exit ?_) | ((with_reducible show blockQ _ _ _ _); first | with_reducible refine block_normal ?_ | with_reducible refine block_ret ?_ | refine block_exit ?_ | refine block_exit_ne rfl ?_) | ((with_reducible show AWP _ _ _ _ _); first | with_reducible refine AWP.seq ?_ | with_reducible refine AWP.block ?_ | with_reducible refine AWP.region ?_ | (refine AWP.drawn rfl (by kernel_rfl) ?_) | with_reducible refine AWP.ret ?_ | with_reducible refine AWP.exit ?_ | with_reducible refine AWP.skip ?_ | refine AWP.cond rfl ?_ ?_) | with_reducible refine ev_nil ?_ | ((first | ((with_reducible show evOps _ _ _ _ _ _); (first | refine ev_step rfl ?_ | refine ev_undef rfl rfl rfl ?_); intro K hK) | ((with_reducible show EvOpen _ _ _ _ _ _ _); refine ev_open ?_; intro K hK) | ((with_reducible show SkOpen _ _ _ _ _ _ _); refine sk_open ?_; intro K hK) | ((with_reducible show callK _ _ _ _ _ _ _ _); first  | (refine call_scalar (markText_fn (m + k) (by omega)) (Nat.le_of_ble_eq_true rfl) rfl ?_))); simp only [evOp, oldZ, evQ, evB, capsK, dynK, tabV, bytesK, eqStK, vInt, binK, withS, opd, kput, putS, upd, lookup, skipOp, argsK, loadOwn, bringIn, bring, Res.list, Res.slot, slotsOf, InK_i64, appendK, srcK, growK, storeK, frz, storeV, setBlk, makeK, newBlk, boxV, allocK, buildK, partsK, buildSliceK, plSlice, cutK, boundK, V.one, Value.oneCell', List.set_cons_zero, List.set_cons_succ, c_int, u_bool, bints, u_int, sz_strs, c_string, ei_strs, ea_strs, u_string, bs_bytes, ei_bytes, ea_bytes, sz_bytes, c_u8, u_u8, bstrs, tf_0, tf_1, tf_2, tf_00, tf_01, tf_02, t3_0, t3_1, t3_2, retCell, retCell.cellOk, Nat.zero_le, lenB_is, byteI_is, InK_u8, List.getElem?_cons_zero, List.getElem?_cons_succ, Option.bind_some, List.reverse_cons, List.reverse_nil, List.nil_append, List.cons_append, List.length_cons, List.length_nil, Nat.reduceEqDiff, Nat.reduceAdd, Nat.reduceLT, Nat.reduceLeDiff, Nat.reduceMul, Nat.mul_one, Nat.one_mul, Nat.zero_mul, Nat.add_zero, Nat.zero_add, Nat.sub_zero, Nat.mod_one, Nat.not_lt_zero, List.getD_cons_zero, ↓reduceIte, if_true, if_false, eq_self, true_and, and_true, Bool.not_true, Bool.not_false, Bool.true_eq_false, Bool.false_eq_true, false_implies, forall_const, implies_true, Int.toNat_natCast, Int.toNat_zero, Int.toNat_one, Option.isSome_some]) | refine ev_guard rfl rfl rfl ?_ ?_ | ((with_reducible show retQ _ _ _ _); simp only [retQ, retOk, getL, lookup, Option.map_some, fitsL, fits, ND, srcs, Res.list, VE, List.getElem?_cons_zero, List.getElem?_cons_succ, Value.bool.injEq, Value.int.injEq, Nat.reduceEqDiff, ↓reduceIte, and_true, true_and]) | (with_reducible refine hK _ ?_; clear hK K) | (with_reducible refine And.intro ?_ ?_) | (with_reducible intro hc; try simp only [decide_eq_true_eq, decide_eq_false_iff_not, beq_iff_eq, beq_eq_false_iff_ne, bne_iff_ne, bne_eq_false_iff_eq, Bool.not_eq_true', Bool.not_eq_false', Bool.not_true, Bool.not_false, Int.not_lt, Int.not_le, gt_iff_lt, ge_iff_le, ne_eq, Decidable.not_not, reduceCtorEq, inB_true, inB_false, finB_true, finB_false, not_true_eq_false, eqB_refl, Bool.true_eq_false] at hc) | omega)
  all_goals first
    | (exfalso; omega)
    | exact ⟨k + 1, by omega, by omega, by simp [Ent, EntS, EntH, SlE, VE, lookup, BE, VE.rfl']; omega⟩
    | (rw [show k = n by omega]; done)
    | (exfalso; simp_all; done)
    | trace_state

end Go.Proofs.YtmfkclfeolpndaaDoor
