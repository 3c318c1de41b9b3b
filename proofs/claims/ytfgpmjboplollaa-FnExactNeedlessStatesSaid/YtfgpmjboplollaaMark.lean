/- markIntS: writes m, m + 1, .. into a slice of integers. -/
import Derived.Test.YtfgpmjboplollaaFnA
import Derived.Test.YtfgpmjboplollaaEngH
import Derived.WalkKit
import Derived.Deep.LoopGhost
import Derived.Lib.Walk
namespace Go.Proofs.Ytfgpmjboplollaa
open Go.RowKit Go.Proofs
set_option linter.unusedSimpArgs false
set_option linter.unusedVariables false

theorem wrap64_id (n : Int) (h : -9223372036854775808 ≤ n ∧ n ≤ 9223372036854775807) : wrap64 n = n := by unfold wrap64; omega

/-- The world behind k rounds of marking block b from m on. -/
def Marked (b : Nat) (cur : Array Value) (e : TypeId) (w : World) (k : Nat) (m : Int) (wr : World) : Prop :=
  AllBut b w wr ∧ ∃ cur' : Array Value, wr.heap[b]? = some (.cells cur' e (0, 0)) ∧ cur'.size = cur.size ∧ ∀ i, i < k → cur'[i]? = some (.int .i64 (m + i))

theorem Marked.cell {b : Nat} {cur : Array Value} {e : TypeId} {w wr : World} {k : Nat} {m : Int} (h : Marked b cur e w k m wr) (hk : k < cur.size) : (∃ x, wr.cell? ⟨b, k, none⟩ = some x) ∧ wr.frozen? ⟨b, k, none⟩ = false := by
  obtain ⟨_, cur', h1, h2, _⟩ := h
  exact ⟨⟨cur'[k], cell_of_blk h1 (Array.getElem?_eq_getElem (by omega))⟩, by simp [World.frozen?, h1]⟩

theorem Marked.step {b : Nat} {cur : Array Value} {e : TypeId} {w wr : World} {k : Nat} {m : Int} (h : Marked b cur e w k m wr) (hk : k < cur.size) :
    Marked b cur e w (k + 1) m (wr.setCell ⟨b, k, none⟩ (.int .i64 (m + k))) := by
  obtain ⟨ha, cur', h1, h2, h3⟩ := h
  refine ⟨⟨ha.os, ha.tape, ha.output, by rw [setCell_size]; exact ha.size, fun j hj hne => (Below.heap_setCell _ _ _ _ hne).trans (ha.oth j hj hne)⟩, _, setCell_at h1, by simpa using h2, fun i hi => ?_⟩
  by_cases e : i = k
  · subst e; simp [show i < cur'.size by omega]
  · rw [Array.getElem?_setIfInBounds_ne (fun h => e h.symm)]; exact h3 i (by omega)

theorem mark_nil (m : Int) (w : World) : Calls Try.prog 20 #[.slice none 0 0, .int .i64 m] w fun e w' => e = .returned (.int .i64 m) ∧ w' = w := by
  go_enter Try.func20, Try.ntmps20
  go_wp2
  go_loopg [1, 5] 0 (fun _ s1 s5 wr => s1 = .int .i64 m ∧ s5 = .int .i64 0 ∧ wr = w)
  case atStart => exact ⟨rfl, rfl, rfl⟩
  case round =>
    obtain ⟨rfl, rfl, rfl⟩ := hrel
    go_wp2
    go_ret
    exact ⟨rfl, rfl⟩

theorem mark_some (b n c : Nat) (cur : Array Value) (e : TypeId) (m : Int) (w : World) (hm : 0 ≤ m) (hmn : m + n ≤ 4611686018427387904) (hb : w.heap[b]? = some (.cells cur e (0, 0))) (hn : n ≤ cur.size) :
    Calls Try.prog 20 #[.slice (some ⟨b, 0, none⟩) n c, .int .i64 m] w fun e' w' => e' = .returned (.int .i64 (m + n)) ∧ Marked b cur e w n m w' := by
  go_enter Try.func20, Try.ntmps20
  go_wp2
  go_loopg [1, 5] n (fun g s1 s5 wr => ∃ k : Nat, s1 = .int .i64 (m + k) ∧ s5 = .int .i64 k ∧ g + k = n ∧ Marked b cur e w k m wr)
  case atStart => exact ⟨0, by simp, rfl, by omega, ⟨⟨rfl, rfl, rfl, Nat.le_refl _, fun _ _ _ => rfl⟩, cur, hb, rfl, fun i hi => by omega⟩⟩
  case round =>
    obtain ⟨k, rfl, rfl, hgk, hM⟩ := hrel
    have A : Aside (gk + k = n ∧ Marked b cur e w k m wr ∧ 0 ≤ m ∧ m + n ≤ 4611686018427387904 ∧ n ≤ cur.size) := ⟨hgk, hM, hm, hmn, hn⟩
    by_cases hlt : (k : Int) < n
    · obtain ⟨⟨x, hx⟩, hf⟩ := hM.cell (by omega)
      clear hgk hM hm hmn hn hb
      go_wp2
      go_roundg (n - (k + 1))
      case measure => obtain ⟨hgk, _⟩ := A.out; omega
      case rel =>
        obtain ⟨hgk, hM, hm, hmn, hn⟩ := A.out
        exact ⟨k + 1, by rw [wrap64_id _ (by omega)]; congr 1; omega, by rw [wrap64_id _ (by omega)]; congr 1, by omega, hM.step (by omega)⟩
    · clear hgk hM hm hmn hn hb
      go_wp2
      go_ret
      obtain ⟨hgk, hM, _⟩ := A.out
      obtain rfl : k = n := by omega
      exact ⟨rfl, hM⟩

/-- What markIntS does to a block. -/
theorem mark_mk (blk : Blk) (n : Nat) (m : Int) (hm : 0 ≤ m) (hmn : m + n ≤ 4611686018427387904) (hb : n ≤ blk.n) : FnMk Try.prog 20 n blk ⟨blk.elem, n, fun i => vi (m + i)⟩ (.int .i64 m) (.int .i64 (m + n)) := by
  refine ⟨Try.call20, rfl, hb, fun hn w => ?_, fun w b c cur hcur hle => ?_⟩
  · subst hn
    refine (mark_nil m w).mono ?_
    rintro e w' ⟨rfl, rfl⟩
    exact ⟨by simp, Below.refl _ _⟩
  · refine (mark_some b n c cur blk.elem m w hm hmn hcur (by omega)).mono ?_
    rintro e w' ⟨rfl, h1, cur', h2, h3, h4⟩
    exact ⟨rfl, h1, cur', h2, h3, fun i hi => ⟨_, h4 i hi, rfl⟩⟩

/-- heldIntS, over what markIntS wrote. -/
theorem held_fn (n : Nat) (m : Int) (hm : 0 ≤ m) (hmn : m + n ≤ 4611686018427387904) : Fn Try.prog 21 [.seq 1 n fun i => vi (m + i), vi m] (.one (.pv (vi (m + n)))) := by
  refine Fn.of_body Try.call21 Try.func21 rfl Try.ntmps21 (ts := [4]) rfl (by simp) rfl (fun N => ?_)
  repeat' (first | ((with_reducible show thenQ _ _ _ _); first | with_reducible refine then_normal ?_ | with_reducible refine then_ret ?_ | with_reducible refine then_exit ?_) | ((with_reducible show blockQ _ _ _ _); first | with_reducible refine block_normal ?_ | with_reducible refine block_ret ?_ | refine block_exit ?_ | refine block_exit_ne rfl ?_) | ((with_reducible show AWP _ _ _ _ _); first | with_reducible refine AWP.seq ?_ | with_reducible refine AWP.block ?_ | with_reducible refine AWP.region ?_ | (refine AWP.drawn rfl (by kernel_rfl) ?_) | with_reducible refine AWP.ret ?_ | with_reducible refine AWP.exit ?_ | with_reducible refine AWP.skip ?_ | refine AWP.cond rfl ?_ ?_) | with_reducible refine ev_nil ?_ | ((first | ((with_reducible show evOps _ _ _ _ _ _); (first | refine ev_step rfl ?_ | refine ev_undef rfl rfl rfl ?_); intro K hK) | ((with_reducible show EvOpen _ _ _ _ _ _ _); refine ev_open ?_; intro K hK) | ((with_reducible show SkOpen _ _ _ _ _ _ _); refine sk_open ?_; intro K hK) | ((with_reducible show callK _ _ _ _ _ _ _ _); first | fail)); simp only [evOp, oldZ, evQ, evB, capsK, dynK, tabV, bytesK, eqStK, vInt, binK, withS, opd, kput, putS, upd, lookup, skipOp, argsK, loadOwn, bringIn, bring, Res.list, Res.slot, slotsOf, InK_i64, appendK, srcK, growK, storeK, frz, storeV, setBlk, makeK, newBlk, boxV, allocK, buildK, partsK, buildSliceK, plSlice, cutK, boundK, V.one, Value.oneCell', List.set_cons_zero, List.set_cons_succ, sz_ints, c_int, ei_ints, ea_ints, u_bool, bints, u_int, sz_strs, c_string, ei_strs, ea_strs, u_string, sz_rows, c_ints, ei_rows, ea_rows, c_rows, sz_lterms, sz_terms, ei_terms, ea_terms, c_lterm, c_term, fl0, fl1, fl2, fi0, fi1, fi2, z_term, pl_term, is_term, bs_bytes, ei_bytes, ea_bytes, sz_bytes, c_u8, u_u8, bstrs, brows, tf_0, tf_1, tf_2, tf_00, tf_01, tf_02, t3_0, t3_1, t3_2, bterms, retCell, retCell.cellOk, Nat.zero_le, lenB_is, byteI_is, InK_u8, List.getElem?_cons_zero, List.getElem?_cons_succ, Option.bind_some, List.reverse_cons, List.reverse_nil, List.nil_append, List.cons_append, List.length_cons, List.length_nil, Nat.reduceEqDiff, Nat.reduceAdd, Nat.reduceLT, Nat.reduceLeDiff, Nat.reduceMul, Nat.mul_one, Nat.one_mul, Nat.zero_mul, Nat.add_zero, Nat.zero_add, Nat.sub_zero, Nat.mod_one, Nat.not_lt_zero, List.getD_cons_zero, ↓reduceIte, if_true, if_false, eq_self, true_and, and_true, Bool.not_true, Bool.not_false, Bool.true_eq_false, Bool.false_eq_true, false_implies, forall_const, implies_true, Int.toNat_natCast, Int.toNat_zero, Int.toNat_one, Option.isSome_some]) | refine ev_guard rfl rfl rfl ?_ ?_ | ((with_reducible show retQ _ _ _ _); simp only [retQ, retOk, getL, lookup, Option.map_some, fitsL, fits, ND, srcs, Res.list, VE, List.getElem?_cons_zero, List.getElem?_cons_succ, Value.bool.injEq, Value.int.injEq, Nat.reduceEqDiff, ↓reduceIte, and_true, true_and]) | (with_reducible refine hK _ ?_; clear hK K) | (with_reducible refine And.intro ?_ ?_) | (with_reducible intro hc; try simp only [decide_eq_true_eq, decide_eq_false_iff_not, beq_iff_eq, beq_eq_false_iff_ne, bne_iff_ne, bne_eq_false_iff_eq, Bool.not_eq_true', Bool.not_eq_false', Bool.not_true, Bool.not_false, Int.not_lt, Int.not_le, gt_iff_lt, ge_iff_le, ne_eq, Decidable.not_not, reduceCtorEq, inB_true, inB_false, finB_true, finB_false, not_true_eq_false, eqB_refl, Bool.true_eq_false] at hc) | omega)
  refine AWP.loop_ent (fun k : Nat => ⟨[(0, .one (.pv (.seq 1 n fun i => vi (m + i)))), (1, sc (.int .i64 (m + k))), (5, sc (.int .i64 k))], [], 21⟩)
    (fun k => k ≤ n) (fun k => n - k) 0 (by omega) (by (simp [Ent, EntS, EntH, SlE, VE, lookup, BE])) ?_
  intro k hk
  repeat' (first | ((with_reducible show thenQ _ _ _ _); first | with_reducible refine then_normal ?_ | with_reducible refine then_ret ?_ | with_reducible refine then_exit ?_) | ((with_reducible show blockQ _ _ _ _); first | with_reducible refine block_normal ?_ | with_reducible refine block_ret ?_ | refine block_exit ?_ | refine block_exit_ne rfl ?_) | ((with_reducible show AWP _ _ _ _ _); first | with_reducible refine AWP.seq ?_ | with_reducible refine AWP.block ?_ | with_reducible refine AWP.region ?_ | (refine AWP.drawn rfl (by kernel_rfl) ?_) | with_reducible refine AWP.ret ?_ | with_reducible refine AWP.exit ?_ | with_reducible refine AWP.skip ?_ | refine AWP.cond rfl ?_ ?_) | with_reducible refine ev_nil ?_ | ((first | ((with_reducible show evOps _ _ _ _ _ _); (first | refine ev_step rfl ?_ | refine ev_undef rfl rfl rfl ?_); intro K hK) | ((with_reducible show EvOpen _ _ _ _ _ _ _); refine ev_open ?_; intro K hK) | ((with_reducible show SkOpen _ _ _ _ _ _ _); refine sk_open ?_; intro K hK) | ((with_reducible show callK _ _ _ _ _ _ _ _); first | fail)); simp only [evOp, oldZ, evQ, evB, capsK, dynK, tabV, bytesK, eqStK, vInt, binK, withS, opd, kput, putS, upd, lookup, skipOp, argsK, loadOwn, bringIn, bring, Res.list, Res.slot, slotsOf, InK_i64, appendK, srcK, growK, storeK, frz, storeV, setBlk, makeK, newBlk, boxV, allocK, buildK, partsK, buildSliceK, plSlice, cutK, boundK, V.one, Value.oneCell', List.set_cons_zero, List.set_cons_succ, sz_ints, c_int, ei_ints, ea_ints, u_bool, bints, u_int, sz_strs, c_string, ei_strs, ea_strs, u_string, sz_rows, c_ints, ei_rows, ea_rows, c_rows, sz_lterms, sz_terms, ei_terms, ea_terms, c_lterm, c_term, fl0, fl1, fl2, fi0, fi1, fi2, z_term, pl_term, is_term, bs_bytes, ei_bytes, ea_bytes, sz_bytes, c_u8, u_u8, bstrs, brows, tf_0, tf_1, tf_2, tf_00, tf_01, tf_02, t3_0, t3_1, t3_2, bterms, retCell, retCell.cellOk, Nat.zero_le, lenB_is, byteI_is, InK_u8, List.getElem?_cons_zero, List.getElem?_cons_succ, Option.bind_some, List.reverse_cons, List.reverse_nil, List.nil_append, List.cons_append, List.length_cons, List.length_nil, Nat.reduceEqDiff, Nat.reduceAdd, Nat.reduceLT, Nat.reduceLeDiff, Nat.reduceMul, Nat.mul_one, Nat.one_mul, Nat.zero_mul, Nat.add_zero, Nat.zero_add, Nat.sub_zero, Nat.mod_one, Nat.not_lt_zero, List.getD_cons_zero, ↓reduceIte, if_true, if_false, eq_self, true_and, and_true, Bool.not_true, Bool.not_false, Bool.true_eq_false, Bool.false_eq_true, false_implies, forall_const, implies_true, Int.toNat_natCast, Int.toNat_zero, Int.toNat_one, Option.isSome_some]) | refine ev_guard rfl rfl rfl ?_ ?_ | ((with_reducible show retQ _ _ _ _); simp only [retQ, retOk, getL, lookup, Option.map_some, fitsL, fits, ND, srcs, Res.list, VE, List.getElem?_cons_zero, List.getElem?_cons_succ, Value.bool.injEq, Value.int.injEq, Nat.reduceEqDiff, ↓reduceIte, and_true, true_and]) | (with_reducible refine hK _ ?_; clear hK K) | (with_reducible refine And.intro ?_ ?_) | (with_reducible intro hc; try simp only [decide_eq_true_eq, decide_eq_false_iff_not, beq_iff_eq, beq_eq_false_iff_ne, bne_iff_ne, bne_eq_false_iff_eq, Bool.not_eq_true', Bool.not_eq_false', Bool.not_true, Bool.not_false, Int.not_lt, Int.not_le, gt_iff_lt, ge_iff_le, ne_eq, Decidable.not_not, reduceCtorEq, inB_true, inB_false, finB_true, finB_false, not_true_eq_false, eqB_refl, Bool.true_eq_false] at hc) | omega)
  all_goals first
    | (exfalso; omega)
    | exact ⟨k + 1, by omega, by omega, by simp [Ent, EntS, EntH, SlE, VE, lookup, BE]; omega⟩
    | omega
    | trace_state

end Go.Proofs.Ytfgpmjboplollaa
