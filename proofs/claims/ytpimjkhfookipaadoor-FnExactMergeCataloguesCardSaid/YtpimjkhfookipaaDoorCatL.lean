/- What the laws of CatalogueOf and MergeCatalogues ask of lists of lists. Conditions: lists no longer than 2^40. -/
import Derived.Test.YtpimjkhfookipaaDoorFnCtm
import Derived.Test.YtpimjkhfookipaaDoorMarkTZ
namespace Go.Proofs.YtpimjkhfookipaaDoor
open Go.RowKit Go.Proofs
set_option linter.unusedSimpArgs false
set_option linter.unusedVariables false

def HoldS (p : Prop) : Prop := p
theorem AWP.holdS [Cx] {P : Program} {N : Nat} {id : Nat} {ops : Array Oper} {b : Bool} {y : Code} {Q : Exit → ASt → Prop} {s : ASt} (h : HoldS (AWP N P (.seq (.region id ops b) y) Q s)) : AWP N P (.seq (.region id ops b) y) Q s := h
theorem AWP.letRow_seqT [Cx] {P : Program} {N : Nat} {id : Nat} {ops : Array Oper} {b : Bool} {y : Code} {Q : Exit → ASt → Prop} {s : ASt} (t : Nat) {i sz len : Nat} {blk : Blk} (h1 : lookup s.σ t = some (.one (.own i sz 0 len))) (h2 : s.h[i]? = some (some blk)) (h3 : len * sz ≤ blk.n)
    (h : ∀ (u0 : Value) (Z : Nat → Prop), (∀ b, Z b → N ≤ b) → (∀ Z', ZSt Z' s → Disj Z' Z) → AWP N P (.seq (.region id ops b) y) Q ⟨upd s.σ t (.one (.pv (.row u0 Z sz len blk.f))), s.h.set i none, s.nt⟩) : AWP N P (.seq (.region id ops b) y) Q s :=
  AWP.letRow t ⟨i, sz, len, blk, h1, h2, h3, h⟩
/-- A result that may be nil is told as a list in memory that stands. -/
theorem AWP.oldRes_seq [Cx] {P : Program} {N : Nat} {id : Nat} {ops : Array Oper} {b : Bool} {y : Code} {Q : Exit → ASt → Prop} {s : ASt} (t : Nat) {v : V} {m : List (List T3)} (hv : v = termss m ∨ (v = .val (.slice none 0 0) ∧ m = [])) (ht : lookup s.σ t = some (.one (.pv v)))
    (h : ∀ Z : Nat → Prop, AWP N P (.seq (.region id ops b) y) Q ⟨upd s.σ t (.one (.pv (.old Z (termss m)))), s.h, s.nt⟩) : AWP N P (.seq (.region id ops b) y) Q s := by
  refine AWP.of_step fun w0 S0 φ a w hN sim => ⟨_, φ, h (fun b => Stab w0 S0 s.h φ b ∧ b < w.heap.size), ⟨sim.heap, fun t' x hx => ?_, sim.defers, sim.size⟩⟩
  rw [lookup_upd] at hx
  split at hx
  · rename_i e; subst e; injection hx with hx; subst hx
    obtain ⟨u, hu, hr⟩ := sim.slots _ _ ht
    refine ⟨u, hu, fun b hb => hb, ?_⟩
    have hr2 : Rd w (Stab w0 S0 s.h φ) (termss m) u := by
      rcases hv with rfl | ⟨rfl, rfl⟩
      · exact hr
      · have hr : u = .slice none 0 0 := hr
        exact ⟨none, 0, hr, Nat.le_refl _, fun h => by simp at h⟩
    exact Rd.mono (fun b hb hlt => ⟨⟨hb, hlt⟩, rfl⟩) _ _ hr2
  · exact sim.slots t' x hx
theorem resV_or (R : List (List T3) × Bool) (h : R.2 = false → R.1 = []) : resV R = termss R.1 ∨ (resV R = .val (.slice none 0 0) ∧ R.1 = []) := by
  unfold resV
  cases e : R.2 with
  | true => exact .inl rfl
  | false => exact .inr ⟨rfl, h e⟩

theorem isTS.of_let {s : ASt} {i : Nat} {e : TypeId} {m : List (List T3)} {F : Nat → V} {u0 : Value} {Z : Nat → Prop} (hb : s.h[i]? = some (some ⟨e, m.length, F⟩)) (hZ : ∀ Z', ZSt Z' s → Disj Z' Z)
    (h : ∀ i, i < m.length → isT (tsAt m i) (F i) ∧ ∀ j, j < m.length → j ≠ i → Apart (F i) (F j)) : isTS m (.row u0 Z 1 m.length F) :=
  ⟨u0, Z, F, rfl, fun j hj => ⟨(h j hj).1, fun b hb1 ⟨Z', hZ', hb'⟩ => hZ Z' (zst_blk (i := j) hb hj rfl hZ') b hb' hb1, (h j hj).2⟩⟩
theorem rowT_ge {N n : Nat} {u0 : Value} {Z : Nat → Prop} {F : Nat → V} {q : (Nat → Prop) → Prop} (hZ : ∀ b, Z b → N ≤ b) (hF : ∀ i, i < n → NewV (fun Z => (∀ b, Z b → N ≤ b) ∧ q Z) (F i)) : ∀ b, Zof (.row u0 Z 1 n F) b → N ≤ b := fun b hb => by
  rcases Zof.row hb with hb | ⟨i, hi, hb⟩
  · exact hZ b hb
  · exact NewV.ge (hF i hi) b hb
theorem rowT_apart {N n : Nat} {s s' : ASt} {u0 : Value} {Z : Nat → Prop} {F : Nat → V} {v : V} (hZ : ∀ Z', ZSt Z' s' → Disj Z' Z) (hF : ∀ i, i < n → NewV (fun Z => (∀ b, Z b → N ≤ b) ∧ ∀ Z', ZSt Z' s → Disj Z' Z) (F i)) (h1 : ∀ Z', ZIn Z' v → ZSt Z' s) (h2 : ∀ Z', ZIn Z' v → ZSt Z' s') : Apart v (.row u0 Z 1 n F) := fun b hv hr => by
  rcases Zof.row hr with hb | ⟨i, hi, hb⟩
  · obtain ⟨Z', hZ', hb'⟩ := hv
    exact hZ Z' (h2 Z' hZ') b hb' hb
  · exact NewV.apart (hF i hi) h1 b hv hb
theorem keeps_oldT {N : Nat} {v : V} {T : Nat → Prop} (hT : ∀ b, T b → N ≤ b) : Keeps T (.old (fun b => b < N) v) := fun b hb hb' => by
  have h1 := hT b (by first | exact hb' | exact hb)
  have h2 : b < N := (by first | exact hb | exact hb')
  omega
theorem keeps_oldA {Z : Nat → Prop} {v x : V} (h : Apart (.old Z v) x) : Keeps (Zof x) (.old Z v) := fun b hb hb' => by
  first | exact h b ⟨Z, .old _, hb⟩ hb' | exact h b ⟨Z, .old _, hb'⟩ hb

/-- What a marked list of lists reads as. -/
def heldTT (m : List (List T3)) (k : Int) : V := .seq 1 m.length fun i => .seq 3 (tsAt m i).length fun j => vi (k + ((sumTT m i * 3 : Nat) : Int) + j)
theorem mkTS_bare {m : List (List T3)} {v : V} (h : isTS m v) (k : Int) : Bare (mkTS m k v) (heldTT m k) := by
  obtain ⟨u, Z, F, rfl, h⟩ := h
  refine ⟨rfl, rfl, fun i hi => ?_⟩
  obtain ⟨ui, Zi, e⟩ := (h i (by omega)).1
  show Bare (mk1 (k + ((sumTT m i * 3 : Nat) : Int)) (F i)) _
  rw [e]
  exact ⟨rfl, rfl, fun j hj => rfl⟩
set_option maxRecDepth 20000 in
theorem heldTSS_fn (m : List (List T3)) (k : Int) (hk : 0 ≤ k) (hl : m.length ≤ 1099511627776) (hkn : k + ((sumTT m m.length * 3 : Nat) : Int) ≤ 4611686018427387904) : Fn Tryd.prog 15 [heldTT m k, vi k] (.one (.pv (vi (k + ((sumTT m m.length * 3 : Nat) : Int))))) := by
  unfold heldTT
  refine Fn.of_body Tryd.call15 Tryd.func15 rfl Tryd.ntmps15 (ts := [4]) rfl (by simp) rfl (fun N => ?_)
  repeat' (first | (with_reducible first | refine then_normal ?_ | refine then_ret ?_ | refine then_exit ?_ | refine block_normal ?_ | refine block_ret ?_) | ((with_reducible show blockQ _ _ _ _); first | refine block_exit ?_ | refine block_exit_ne rfl ?_) | ((with_reducible show AWP _ _ _ _ _); first | (with_reducible first | refine AWP.seq ?_ | refine AWP.block ?_ | refine AWP.region ?_ | refine AWP.ret ?_ | refine AWP.exit ?_ | refine AWP.skip ?_) | refine AWP.drawn rfl (by kernel_rfl) ?_ | refine AWP.cond rfl ?_ ?_) | with_reducible refine ev_nil ?_ | ((first | ((with_reducible show evOps _ _ _ _ _ _); (first | refine ev_step rfl ?_ | refine ev_undef rfl rfl rfl ?_); intro K hK) | ((with_reducible show EvOpen _ _ _ _ _ _ _); refine ev_open ?_; intro K hK) | ((with_reducible show SkOpen _ _ _ _ _ _ _); refine sk_open ?_; intro K hK) | ((with_reducible show callK _ _ _ _ _ _ _ _); first | fail)); simp only [evOp, oldZ, evQ, evB, capsK, dynK, tabV, bytesK, eqStK, vInt, binK, withS, opd, kput, putS, upd, lookup, skipOp, argsK, loadOwn, bringIn, bring, Res.list, Res.slot, slotsOf, InK_i64, appendK, srcK, growK, storeK, frz, storeV, setBlk, makeK, newBlk, boxV, allocK, buildK, partsK, buildSliceK, plSlice, cutK, boundK, V.one, Value.oneCell', List.set_cons_zero, List.set_cons_succ, sz_ints, c_int, ei_ints, ea_ints, u_bool, bints, u_int, sz_strs, c_string, ei_strs, ea_strs, u_string, c_ints, sz_lterms, sz_terms, ei_terms, ea_terms, c_lterm, c_term, fl0, fl1, fl2, fi0, fi1, fi2, z_term, pl_term, is_term, bs_bytes, ei_bytes, ea_bytes, sz_bytes, c_u8, u_u8, bstrs, brows, tf_0, tf_1, tf_2, tf_00, tf_01, tf_02, t3_0, t3_1, t3_2, bterms, retCell, retCell.cellOk, Nat.zero_le, lenB_is, byteI_is, InK_u8, del, sz_termss, sz_ltermss, c_terms, c_lterms, c_termss, ei_termss, ea_termss, List.getElem?_cons_zero, List.getElem?_cons_succ, Option.bind_some, List.reverse_cons, List.reverse_nil, List.nil_append, List.cons_append, List.length_cons, List.length_nil, Nat.reduceEqDiff, Nat.reduceAdd, Nat.reduceLT, Nat.reduceLeDiff, Nat.reduceMul, Nat.mul_one, Nat.one_mul, Nat.zero_mul, Nat.add_zero, Nat.zero_add, Nat.sub_zero, Nat.mod_one, Nat.not_lt_zero, List.getD_cons_zero, ↓reduceIte, if_true, if_false, eq_self, true_and, and_true, Bool.not_true, Bool.not_false, Bool.true_eq_false, Bool.false_eq_true, false_implies, forall_const, implies_true, Int.toNat_natCast, Int.toNat_zero, Int.toNat_one, Option.isSome_some]) | refine ev_guard rfl rfl rfl ?_ ?_ | ((with_reducible show retQ _ _ _ _); simp only [retQ, retOk, getL, lookup, Option.map_some, fitsL, fits, ND, srcs, Res.list, VE, List.getElem?_cons_zero, List.getElem?_cons_succ, Value.bool.injEq, Value.int.injEq, Nat.reduceEqDiff, ↓reduceIte, and_true, true_and]) | (with_reducible refine hK _ ?_; clear hK K) | (with_reducible refine And.intro ?_ ?_) | (with_reducible intro hc; try simp only [decide_eq_true_eq, decide_eq_false_iff_not, beq_iff_eq, beq_eq_false_iff_ne, bne_iff_ne, bne_eq_false_iff_eq, Bool.not_eq_true', Bool.not_eq_false', Bool.not_true, Bool.not_false, Int.not_lt, Int.not_le, gt_iff_lt, ge_iff_le, ne_eq, Decidable.not_not, reduceCtorEq, inB_true, inB_false, finB_true, finB_false, not_true_eq_false, eqB_refl, Bool.true_eq_false] at hc) | omega)
  refine AWP.loop_ent (fun i : Nat => ⟨[(0, .one (.pv (.seq 1 m.length fun i => .seq 3 (tsAt m i).length fun j => vi (k + ((sumTT m i * 3 : Nat) : Int) + j)))), (1, sc (.int .i64 (k + ((sumTT m i * 3 : Nat) : Int)))), (5, sc (.int .i64 i))], [], 21⟩)
    (fun i => i ≤ m.length) (fun i => m.length - i) 0 (by omega) (by simp [Ent, EntS, EntH, SlE, VE, VE.rfl', lookup, BE, sumTT]) ?_
  intro i hi
  by_cases him : i < m.length
  · have h1 := sumTT_mono m (show i + 1 ≤ m.length by omega)
    have h2 : sumTT m (i + 1) = sumTT m i + (tsAt m i).length := rfl
    repeat' (first | (with_reducible first | refine then_normal ?_ | refine then_ret ?_ | refine then_exit ?_ | refine block_normal ?_ | refine block_ret ?_) | ((with_reducible show blockQ _ _ _ _); first | refine block_exit ?_ | refine block_exit_ne rfl ?_) | ((with_reducible show AWP _ _ _ _ _); first | (with_reducible first | refine AWP.seq ?_ | refine AWP.block ?_ | refine AWP.region ?_ | refine AWP.ret ?_ | refine AWP.exit ?_ | refine AWP.skip ?_) | refine AWP.drawn rfl (by kernel_rfl) ?_ | refine AWP.cond rfl ?_ ?_) | with_reducible refine ev_nil ?_ | ((first | ((with_reducible show evOps _ _ _ _ _ _); (first | refine ev_step rfl ?_ | refine ev_undef rfl rfl rfl ?_); intro K hK) | ((with_reducible show EvOpen _ _ _ _ _ _ _); refine ev_open ?_; intro K hK) | ((with_reducible show SkOpen _ _ _ _ _ _ _); refine sk_open ?_; intro K hK) | ((with_reducible show callK _ _ _ _ _ _ _ _); first  | (refine call_scalar (heldT_fn (tsAt m i).length (k + ((sumTT m i * 3 : Nat) : Int)) (by omega) (by omega)) (Nat.le_of_ble_eq_true rfl) rfl ?_))); simp only [evOp, oldZ, evQ, evB, capsK, dynK, tabV, bytesK, eqStK, vInt, binK, withS, opd, kput, putS, upd, lookup, skipOp, argsK, loadOwn, bringIn, bring, Res.list, Res.slot, slotsOf, InK_i64, appendK, srcK, growK, storeK, frz, storeV, setBlk, makeK, newBlk, boxV, allocK, buildK, partsK, buildSliceK, plSlice, cutK, boundK, V.one, Value.oneCell', List.set_cons_zero, List.set_cons_succ, sz_ints, c_int, ei_ints, ea_ints, u_bool, bints, u_int, sz_strs, c_string, ei_strs, ea_strs, u_string, c_ints, sz_lterms, sz_terms, ei_terms, ea_terms, c_lterm, c_term, fl0, fl1, fl2, fi0, fi1, fi2, z_term, pl_term, is_term, bs_bytes, ei_bytes, ea_bytes, sz_bytes, c_u8, u_u8, bstrs, brows, tf_0, tf_1, tf_2, tf_00, tf_01, tf_02, t3_0, t3_1, t3_2, bterms, retCell, retCell.cellOk, Nat.zero_le, lenB_is, byteI_is, InK_u8, del, sz_termss, sz_ltermss, c_terms, c_lterms, c_termss, ei_termss, ea_termss, List.getElem?_cons_zero, List.getElem?_cons_succ, Option.bind_some, List.reverse_cons, List.reverse_nil, List.nil_append, List.cons_append, List.length_cons, List.length_nil, Nat.reduceEqDiff, Nat.reduceAdd, Nat.reduceLT, Nat.reduceLeDiff, Nat.reduceMul, Nat.mul_one, Nat.one_mul, Nat.zero_mul, Nat.add_zero, Nat.zero_add, Nat.sub_zero, Nat.mod_one, Nat.not_lt_zero, List.getD_cons_zero, ↓reduceIte, if_true, if_false, eq_self, true_and, and_true, Bool.not_true, Bool.not_false, Bool.true_eq_false, Bool.false_eq_true, false_implies, forall_const, implies_true, Int.toNat_natCast, Int.toNat_zero, Int.toNat_one, Option.isSome_some]) | refine ev_guard rfl rfl rfl ?_ ?_ | ((with_reducible show retQ _ _ _ _); simp only [retQ, retOk, getL, lookup, Option.map_some, fitsL, fits, ND, srcs, Res.list, VE, List.getElem?_cons_zero, List.getElem?_cons_succ, Value.bool.injEq, Value.int.injEq, Nat.reduceEqDiff, ↓reduceIte, and_true, true_and]) | (with_reducible refine hK _ ?_; clear hK K) | (with_reducible refine And.intro ?_ ?_) | (with_reducible intro hc; try simp only [decide_eq_true_eq, decide_eq_false_iff_not, beq_iff_eq, beq_eq_false_iff_ne, bne_iff_ne, bne_eq_false_iff_eq, Bool.not_eq_true', Bool.not_eq_false', Bool.not_true, Bool.not_false, Int.not_lt, Int.not_le, gt_iff_lt, ge_iff_le, ne_eq, Decidable.not_not, reduceCtorEq, inB_true, inB_false, finB_true, finB_false, not_true_eq_false, eqB_refl, Bool.true_eq_false] at hc) | omega)
    all_goals first
      | (exfalso; omega)
      | (refine ⟨i + 1, by omega, by omega, ?_⟩
         simp [Ent, EntS, EntH, SlE, VE, VE.rfl', lookup, BE, h2]; omega)
      | trace_state
  · obtain rfl : i = m.length := by omega
    repeat' (first | (with_reducible first | refine then_normal ?_ | refine then_ret ?_ | refine then_exit ?_ | refine block_normal ?_ | refine block_ret ?_) | ((with_reducible show blockQ _ _ _ _); first | refine block_exit ?_ | refine block_exit_ne rfl ?_) | ((with_reducible show AWP _ _ _ _ _); first | (with_reducible first | refine AWP.seq ?_ | refine AWP.block ?_ | refine AWP.region ?_ | refine AWP.ret ?_ | refine AWP.exit ?_ | refine AWP.skip ?_) | refine AWP.drawn rfl (by kernel_rfl) ?_ | refine AWP.cond rfl ?_ ?_) | with_reducible refine ev_nil ?_ | ((first | ((with_reducible show evOps _ _ _ _ _ _); (first | refine ev_step rfl ?_ | refine ev_undef rfl rfl rfl ?_); intro K hK) | ((with_reducible show EvOpen _ _ _ _ _ _ _); refine ev_open ?_; intro K hK) | ((with_reducible show SkOpen _ _ _ _ _ _ _); refine sk_open ?_; intro K hK) | ((with_reducible show callK _ _ _ _ _ _ _ _); first | fail)); simp only [evOp, oldZ, evQ, evB, capsK, dynK, tabV, bytesK, eqStK, vInt, binK, withS, opd, kput, putS, upd, lookup, skipOp, argsK, loadOwn, bringIn, bring, Res.list, Res.slot, slotsOf, InK_i64, appendK, srcK, growK, storeK, frz, storeV, setBlk, makeK, newBlk, boxV, allocK, buildK, partsK, buildSliceK, plSlice, cutK, boundK, V.one, Value.oneCell', List.set_cons_zero, List.set_cons_succ, sz_ints, c_int, ei_ints, ea_ints, u_bool, bints, u_int, sz_strs, c_string, ei_strs, ea_strs, u_string, c_ints, sz_lterms, sz_terms, ei_terms, ea_terms, c_lterm, c_term, fl0, fl1, fl2, fi0, fi1, fi2, z_term, pl_term, is_term, bs_bytes, ei_bytes, ea_bytes, sz_bytes, c_u8, u_u8, bstrs, brows, tf_0, tf_1, tf_2, tf_00, tf_01, tf_02, t3_0, t3_1, t3_2, bterms, retCell, retCell.cellOk, Nat.zero_le, lenB_is, byteI_is, InK_u8, del, sz_termss, sz_ltermss, c_terms, c_lterms, c_termss, ei_termss, ea_termss, List.getElem?_cons_zero, List.getElem?_cons_succ, Option.bind_some, List.reverse_cons, List.reverse_nil, List.nil_append, List.cons_append, List.length_cons, List.length_nil, Nat.reduceEqDiff, Nat.reduceAdd, Nat.reduceLT, Nat.reduceLeDiff, Nat.reduceMul, Nat.mul_one, Nat.one_mul, Nat.zero_mul, Nat.add_zero, Nat.zero_add, Nat.sub_zero, Nat.mod_one, Nat.not_lt_zero, List.getD_cons_zero, ↓reduceIte, if_true, if_false, eq_self, true_and, and_true, Bool.not_true, Bool.not_false, Bool.true_eq_false, Bool.false_eq_true, false_implies, forall_const, implies_true, Int.toNat_natCast, Int.toNat_zero, Int.toNat_one, Option.isSome_some]) | refine ev_guard rfl rfl rfl ?_ ?_ | ((with_reducible show retQ _ _ _ _); simp only [retQ, retOk, getL, lookup, Option.map_some, fitsL, fits, ND, srcs, Res.list, VE, List.getElem?_cons_zero, List.getElem?_cons_succ, Value.bool.injEq, Value.int.injEq, Nat.reduceEqDiff, ↓reduceIte, and_true, true_and]) | (with_reducible refine hK _ ?_; clear hK K) | (with_reducible refine And.intro ?_ ?_) | (with_reducible intro hc; try simp only [decide_eq_true_eq, decide_eq_false_iff_not, beq_iff_eq, beq_eq_false_iff_ne, bne_iff_ne, bne_eq_false_iff_eq, Bool.not_eq_true', Bool.not_eq_false', Bool.not_true, Bool.not_false, Int.not_lt, Int.not_le, gt_iff_lt, ge_iff_le, ne_eq, Decidable.not_not, reduceCtorEq, inB_true, inB_false, finB_true, finB_false, not_true_eq_false, eqB_refl, Bool.true_eq_false] at hc) | omega)
    all_goals first
      | (exfalso; omega)
      | rfl
      | trace_state

theorem co_none {L : List (List T3)} (h : (coR L).2 = false) : (coR L).1 = [] := by
  cases hb : nfB L with
  | false => rw [co_no hb]
  | true => unfold coR at h; rw [hb] at h; cases h
theorem ctd_none {L : List (List T3)} (h : (ctdR L).2 = false) : (ctdR L).1 = [] := by
  by_cases h10 : (catX L L.length).length ≤ 10
  · rw [ctd_yes h10] at h; cases h
  · rw [ctd_no h10]
theorem mc_none {A B : List (List T3)} (h : (mcR A B).2 = false) : (mcR A B).1 = [] := by
  cases ha : ctB A with
  | false => rw [mc_no1 ha]
  | true =>
    cases hb : ctB B with
    | false => rw [mc_no2 hb]
    | true => rw [mc_yes ha hb] at h ⊢; exact ctd_none h
theorem ctd_small {L : List (List T3)} (h : ∀ i, i < L.length → (tsAt L i).length ≤ 12) : (ctdR L).1.length ≤ 10 ∧ ∀ i, (tsAt (ctdR L).1 i).length ≤ 12 := by
  by_cases h10 : (catX L L.length).length ≤ 10
  · rw [ctd_yes h10]
    refine ⟨h10, fun i => ?_⟩
    show (tsAt (catX L L.length) i).length ≤ 12
    by_cases hi : i < (catX L L.length).length
    · obtain ⟨j, hj, e⟩ := (catX_mem L _ (Nat.le_refl _)).1 (ts_mem hi)
      rw [e]; exact h j hj
    · simp [tsAt, List.getD, List.getElem?_eq_none (Nat.le_of_not_lt hi)]
  · rw [ctd_no h10]
    exact ⟨by simp, fun i => by simp [tsAt]⟩
theorem co_small (L : List (List T3)) : (coR L).1.length ≤ 10 ∧ ∀ i, (tsAt (coR L).1 i).length ≤ 12 := by
  cases hb : nfB L with
  | false => rw [co_no hb]; exact ⟨by simp, fun i => by simp [tsAt]⟩
  | true =>
    rw [co_yes hb]
    refine ctd_small fun i hi => ?_
    rw [fmL_len] at hi
    rw [fmL_at hi]
    exact nf_len ((nfB_get hb).2 i hi)
theorem mc_small (A B : List (List T3)) : (mcR A B).1.length ≤ 10 ∧ ∀ i, (tsAt (mcR A B).1 i).length ≤ 12 := by
  cases ha : ctB A with
  | false => rw [mc_no1 ha]; exact ⟨by simp, fun i => by simp [tsAt]⟩
  | true =>
    cases hb : ctB B with
    | false => rw [mc_no2 hb]; exact ⟨by simp, fun i => by simp [tsAt]⟩
    | true =>
      rw [mc_yes ha hb]
      refine ctd_small fun i hi => ?_
      rw [List.length_append] at hi
      by_cases h : i < A.length
      · have e : tsAt (A ++ B) i = tsAt A i := by simp only [tsAt]; rw [List.getD, List.getElem?_append_left h]; rfl
        rw [e]; exact (ct_row ha h).2.1
      · have e : tsAt (A ++ B) i = tsAt B (i - A.length) := by simp only [tsAt]; rw [List.getD, List.getElem?_append_right (by omega)]; rfl
        rw [e]; exact (ct_row hb (by omega)).2.1
theorem sumTT_12 {m : List (List T3)} (h : ∀ i, (tsAt m i).length ≤ 12) : ∀ k, sumTT m k ≤ 12 * k
  | 0 => by simp [sumTT]
  | k + 1 => by have := sumTT_12 h k; have := h k; rw [sumTT]; omega
end Go.Proofs.YtpimjkhfookipaaDoor
