/- Places of a picture as keys of a map; the sum of two places. Conditions: small numbers. -/
import Derived.Test.YtpimjkhfookipaaPurePt
import Derived.Test.YtpimjkhfookipaaEngP
import Derived.Test.YtpimjkhfookipaaEngOs
import Derived.Test.YtpimjkhfookipaaFnPic
namespace Go.Proofs.Ytpimjkhfookipaa
open Go.RowKit Go.Proofs
set_option linter.unusedSimpArgs false
set_option linter.unusedVariables false

theorem z_part : zeroOf Try.prog 105 = some [.int .u8 0, .int .i64 0] := by kernel_rfl
theorem pl_part : placesOf Try.prog 105 = some [(0, 1), (1, 1)] := by kernel_rfl
theorem c_part : cellsIn Try.prog 105 = some (some 2) := by kernel_rfl
theorem fp0 : fieldIn Try.prog 105 0 = some (0, none) := by kernel_rfl
theorem fp1 : fieldIn Try.prog 105 1 = some (1, none) := by kernel_rfl
theorem z_pt : zeroOf Try.prog 172 = some [.int .i64 0, .int .i64 0] := by kernel_rfl
theorem pl_pt : placesOf Try.prog 172 = some [(0, 1), (1, 1)] := by kernel_rfl
theorem c_pt : cellsIn Try.prog 172 = some (some 2) := by kernel_rfl
theorem fq0 : fieldIn Try.prog 172 0 = some (0, none) := by kernel_rfl
theorem fq1 : fieldIn Try.prog 172 1 = some (1, none) := by kernel_rfl
theorem sz_pts : elemSz Try.prog 173 = some 2 := by kernel_rfl
theorem ei_pts : elemInfo Try.prog 173 = some (172, [.int .i64 0, .int .i64 0]) := by kernel_rfl
theorem ea_pts : elemAgg Try.prog 173 = some true := by kernel_rfl
theorem sz_parts : elemSz Try.prog 102 = some 2 := by kernel_rfl
theorem ei_parts : elemInfo Try.prog 102 = some (105, [.int .u8 0, .int .i64 0]) := by kernel_rfl
theorem ea_parts : elemAgg Try.prog 102 = some true := by kernel_rfl
theorem u_mpt : Try.prog.underlying 170 = some (.map 172 4) := by kernel_rfl
theorem zv_bool (w : World) : (zeroValue 4).run Try.prog w = .ok (.bool false) w := by kernel_rfl

/-- A place as a value that is read. -/
abbrev ptV (q : Pt) : V := .agg 2 fun i => vi (if i = 0 then q.1 else q.2)
def encP (q : Pt) : Value := .agg #[.int .i64 q.1, .int .i64 q.2]

theorem ve_agg2 {f g : Nat → V} (h0 : f 0 = g 0) (h1 : f 1 = g 1) : VE (.agg 2 f) (.agg 2 g) := ⟨rfl, fun i hi => by
  rcases (show i = 0 ∨ i = 1 by omega) with rfl | rfl
  · rw [h0]; exact VE.rfl' _
  · rw [h1]; exact VE.rfl' _⟩

theorem plus_fn (p q : Pt) (hp : -1000 ≤ p.1 ∧ p.1 ≤ 1000 ∧ -1000 ≤ p.2 ∧ p.2 ≤ 1000) (hq : -1000 ≤ q.1 ∧ q.1 ≤ 1000 ∧ -1000 ≤ q.2 ∧ q.2 ≤ 1000) : Fn Try.prog 184 [ptV p, ptV q] (.one (.pv (ptV (p.1 + q.1, p.2 + q.2)))) := by
  refine Fn.of_body_cell Try.call184 Try.func184 rfl Try.ntmps184 (t := 4) (ty := 172) rfl c_pt (by simp) (fun N => ?_)
  repeat' (first | ((with_reducible show thenQ _ _ _ _); first | with_reducible refine then_normal ?_ | with_reducible refine then_ret ?_ | with_reducible refine then_exit ?_) | ((with_reducible show blockQ _ _ _ _); first | with_reducible refine block_normal ?_ | with_reducible refine block_ret ?_ | refine block_exit ?_ | refine block_exit_ne rfl ?_) | ((with_reducible show AWP _ _ _ _ _); first | with_reducible refine AWP.seq ?_ | with_reducible refine AWP.block ?_ | with_reducible refine AWP.region ?_ | (refine AWP.drawn rfl (by kernel_rfl) ?_) | with_reducible refine AWP.ret ?_ | with_reducible refine AWP.exit ?_ | with_reducible refine AWP.skip ?_ | refine AWP.cond rfl ?_ ?_) | with_reducible refine ev_nil ?_ | ((first | ((with_reducible show evOps _ _ _ _ _ _); (first | refine ev_step rfl ?_ | refine ev_undef rfl rfl rfl ?_); intro K hK) | ((with_reducible show EvOpen _ _ _ _ _ _ _); refine ev_open ?_; intro K hK) | ((with_reducible show SkOpen _ _ _ _ _ _ _); refine sk_open ?_; intro K hK) | ((with_reducible show callK _ _ _ _ _ _ _ _); first | fail)); simp only [evOp, oldZ, evQ, evB, capsK, dynK, tabV, bytesK, eqStK, vInt, binK, withS, opd, kput, putS, upd, lookup, skipOp, argsK, loadOwn, bringIn, bring, Res.list, Res.slot, slotsOf, InK_i64, appendK, srcK, growK, storeK, frz, storeV, setBlk, makeK, newBlk, boxV, allocK, buildK, partsK, buildSliceK, plSlice, cutK, boundK, V.one, Value.oneCell', List.set_cons_zero, List.set_cons_succ, sz_ints, c_int, ei_ints, ea_ints, u_bool, bints, u_int, sz_strs, c_string, ei_strs, ea_strs, u_string, sz_rows, c_ints, ei_rows, ea_rows, c_rows, sz_terms, ei_terms, ea_terms, c_term, fi0, fi1, fi2, z_term, pl_term, is_term, bs_bytes, ei_bytes, ea_bytes, sz_bytes, c_u8, u_u8, bstrs, brows, tf_0, tf_1, tf_2, tf_00, tf_01, tf_02, t3_0, t3_1, t3_2, bterms, retCell, retCell.cellOk, Nat.zero_le, lenB_is, byteI_is, InK_u8, z_part, pl_part, c_part, fp0, fp1, z_pt, pl_pt, c_pt, fq0, fq1, sz_pts, ei_pts, ea_pts, sz_parts, ei_parts, ea_parts, List.getElem?_cons_zero, List.getElem?_cons_succ, Option.bind_some, List.reverse_cons, List.reverse_nil, List.nil_append, List.cons_append, List.length_cons, List.length_nil, Nat.reduceEqDiff, Nat.reduceAdd, Nat.reduceLT, Nat.reduceLeDiff, Nat.reduceMul, Nat.mul_one, Nat.one_mul, Nat.zero_mul, Nat.add_zero, Nat.zero_add, Nat.sub_zero, Nat.mod_one, Nat.not_lt_zero, List.getD_cons_zero, ↓reduceIte, if_true, if_false, eq_self, true_and, and_true, Bool.not_true, Bool.not_false, Bool.true_eq_false, Bool.false_eq_true, false_implies, forall_const, implies_true, Int.toNat_natCast, Int.toNat_zero, Int.toNat_one, Option.isSome_some]) | refine ev_guard rfl rfl rfl ?_ ?_ | ((with_reducible show retQ _ _ _ _); simp only [retQ, retOk, getL, lookup, Option.map_some, fitsL, fits, ND, srcs, Res.list, VE, List.getElem?_cons_zero, List.getElem?_cons_succ, Value.bool.injEq, Value.int.injEq, Nat.reduceEqDiff, ↓reduceIte, and_true, true_and]) | (with_reducible refine hK _ ?_; clear hK K) | (with_reducible refine And.intro ?_ ?_) | (with_reducible intro hc; try simp only [decide_eq_true_eq, decide_eq_false_iff_not, beq_iff_eq, beq_eq_false_iff_ne, bne_iff_ne, bne_eq_false_iff_eq, Bool.not_eq_true', Bool.not_eq_false', Bool.not_true, Bool.not_false, Int.not_lt, Int.not_le, gt_iff_lt, ge_iff_le, ne_eq, Decidable.not_not, reduceCtorEq, inB_true, inB_false, finB_true, finB_false, not_true_eq_false, eqB_refl, Bool.true_eq_false] at hc) | omega)
  all_goals first
    | omega
    | (rename_i i; rcases (show i = 0 ∨ i = 1 by omega) with rfl | rfl <;> rfl)
    | (refine ⟨by simp, fun i hi => ?_⟩; rcases (show i = 0 ∨ i = 1 by omega) with rfl | rfl <;> exact VE.of_eq rfl)
    | trace_state
theorem plus_at {f g : Nat → V} (p q : Pt) (hf0 : f 0 = vi p.1) (hf1 : f 1 = vi p.2) (hg0 : g 0 = vi q.1) (hg1 : g 1 = vi q.2) (hp : -1000 ≤ p.1 ∧ p.1 ≤ 1000 ∧ -1000 ≤ p.2 ∧ p.2 ≤ 1000) (hq : -1000 ≤ q.1 ∧ q.1 ≤ 1000 ∧ -1000 ≤ q.2 ∧ q.2 ≤ 1000) :
    Fn Try.prog 184 [.agg 2 f, .agg 2 g] (.one (.pv (ptV (p.1 + q.1, p.2 + q.2)))) :=
  (plus_fn p q hp hq).of_ve ⟨ve_agg2 (by rw [hf0]; rfl) (by rw [hf1]; rfl), ve_agg2 (by rw [hg0]; rfl) (by rw [hg1]; rfl), trivial⟩

theorem isv_pt {f : Nat → V} (q : Pt) (h0 : f 0 = vi q.1) (h1 : f 1 = vi q.2) : IsV (.agg 2 f) (encP q) := by
  rintro w S x ⟨cs, rfl, hn, hc⟩
  obtain ⟨x0, e0, r0⟩ := hc 0 (by omega)
  obtain ⟨x1, e1, r1⟩ := hc 1 (by omega)
  rw [h0] at r0
  rw [h1] at r1
  obtain rfl : x0 = _ := r0
  obtain rfl : x1 = _ := r1
  unfold encP
  congr 1
  apply Array.ext_getElem?
  intro i
  rcases (show i = 0 ∨ i = 1 ∨ 2 ≤ i by omega) with rfl | rfl | hi
  · rw [e0]; rfl
  · rw [e1]; rfl
  · rw [Array.getElem?_eq_none (by omega), Array.getElem?_eq_none (by simpa using hi)]

theorem eq_pt (q p : Pt) (w : World) : (Op.equal 172 (encP q) (encP p)).run Try.prog w = .ok (decide (p = q)) w := by
  obtain ⟨q1, q2⟩ := q
  obtain ⟨p1, p2⟩ := p
  have e : Op.equal 172 (encP (q1, q2)) (encP (p1, p2)) = Op.equalIn (9999 + 1) 172 (encP (q1, q2)) (encP (p1, p2)) := rfl
  rw [e]
  unfold encP
  rw [run_equalIn_struct w 9999 172 _ _ (by kernel_rfl) (by kernel_rfl)]
  by_cases h1 : q1 = p1 <;> by_cases h2 : q2 = p2 <;> simp [go_sem, h1, h2] <;> omega
theorem ask_pt (k : Pt) (w : World) : ∀ (es : List MapEntry) (ks : List Pt) (i : Nat), es.map (·.key) = ks.map encP → (Instr.findAsking 172 (encP k) es i).run Try.prog w = .ok (findP k ks es i) w
  | [], ks, i, h => by cases ks <;> rfl
  | e :: es, [], i, h => by simp at h
  | e :: es, p :: ks, i, h => by
    simp only [List.map_cons, List.cons.injEq] at h
    unfold Instr.findAsking
    rw [h.1]
    simp only [Sem.run_bind, eq_pt, Result.andThen_ok]
    show _ = Result.ok (if p = k then _ else _) w
    by_cases e : p = k
    · rw [if_pos (decide_eq_true e), if_pos e]; rfl
    · rw [if_neg (by simpa using e), if_neg e]; exact ask_pt k w es ks (i + 1) h.2
theorem key_pt : KeyT Try.prog 172 encP where
  find k es ks w h := by
    obtain ⟨fs, hu⟩ : ∃ fs, Try.prog.underlying 172 = some (.struct fs) := ⟨_, Try.underlying172⟩
    unfold Instr.findKey
    simp only [Sem.run_bind, run_underlying hu, Result.andThen_ok]
    cases es with
    | nil =>
      cases ks with
      | nil => rfl
      | cons p ks => simp at h
    | cons e es =>
      have : Instr.findNow (.struct fs) (encP k) (e :: es) 0 = none := by
        unfold Instr.findNow Instr.sameNow
        rfl
      rw [this]
      exact ask_pt k w _ _ 0 h
  chk b k w := by
    obtain ⟨k1, k2⟩ := k
    kernel_rfl
  bits k := by
    obtain ⟨k1, k2⟩ := k
    simp [encP, Instr.sameBits]
end Go.Proofs.Ytpimjkhfookipaa
