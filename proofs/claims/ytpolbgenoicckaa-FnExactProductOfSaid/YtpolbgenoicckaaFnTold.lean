/- Automata handed on if they are good. Conditions: lists no longer than 2^40. -/
import Derived.Test.YtpolbgenoicckaaEngS
import Derived.Test.YtpolbgenoicckaaFnRevB
namespace Go.Proofs.Ytpolbgenoicckaa
open Go.RowKit Go.Proofs
set_option linter.unusedSimpArgs false
set_option linter.unusedVariables false

/-- A struct result in a variable beside a bool. -/
def cell2At (t n tb : Nat) (g : Nat → V) (b : Bool) (s : ASt) : Prop := retCell.cellOk t n g s ∧ lookup s.σ tb = some (sc (.bool b))
def retCell2 (t n tb : Nat) (g : Nat → V) (b : Bool) : Exit → ASt → Prop
  | .normal, s => cell2At t n tb g b s
  | .ret, s => cell2At t n tb g b s
  | _, _ => False
theorem Fn.of_body_cell2 {P : Program} {f : FuncId} {fn : Func} {c : Code} {nt t ty tb n : Nat} {vs : List V} {g : Nat → V} {bb : Bool}
    (hcall : ∀ (args : Array Value) (w : World), (callFunc f args).run P w = .ok (.enter f args) w) (hf : P.funcs[f]? = some fn) (hb : fn.body = some c) (hnt : fn.ntmps = nt)
    (hres : fn.results = #[ResultVar.cell t ty, ResultVar.tmp tb]) (hc : cellsIn P ty = some (some n)) (hlen : vs.length ≤ nt) (h : ∀ N, AWP N P c (retCell2 t n tb g bb) ⟨slotsOf 0 vs, [], nt⟩) : Fn P f vs (.many [.pv (.agg n g), .pv (.val (.bool bb))]) := by
  refine ⟨hcall, fun w S0 us hus => calls_of_wp hf hb ?_⟩
  have hul := hus.len
  have sim : SimAt w S0 ⟨slotsOf 0 vs, [], nt⟩ [] { tmps := us.toArray ++ Array.replicate (fn.ntmps - us.toArray.size) undef, defers := [] } w := by
    refine ⟨⟨rfl, Below.refl _ _, fun id blk hi => by simp at hi, fun i j bi bj b z z' hi => by simp at hi⟩, fun t x ht => ?_, rfl, by simp [hnt]; omega⟩
    obtain ⟨v, rfl, _, hv⟩ := slotsOf_get vs 0 t ht
    obtain ⟨u, hu, hr⟩ := RdL.get vs us t hus (by simpa using hv)
    refine ⟨u, ?_, ?_⟩
    · have : t < us.length := (List.getElem?_eq_some_iff.1 hu).1
      rw [Array.getElem?_append_left (by simpa using this)]; simpa using hu
    · refine Rd.mono (fun b hb hlt => ⟨⟨.inl hb, ?_⟩, rfl⟩) _ _ hr
      rintro ⟨id, blk, z, hi, _⟩; simp at hi
  refine wp_mono (h _ w S0 _ w rfl ⟨[], sim⟩) fun e a' w' ⟨s', hq, φ, sim'⟩ => ?_
  have fin : cell2At t n tb g bb s' → a'.defers = [] ∧ ∃ v, (results fn a'.tmps).run P w' = .ok v w' ∧
      ∃ u φ, Ending.returned v = .returned u ∧ Heap w S0 (bring (Res.many [.pv (.agg n g), .pv (.val (.bool bb))]).list []).2 φ w' ∧ RdSlot w' (Stab w S0 (bring (Res.many [.pv (.agg n g), .pv (.val (.bool bb))]).list []).2 φ) φ ((Res.many [.pv (.agg n g), .pv (.val (.bool bb))]).slot (bring (Res.many [.pv (.agg n g), .pv (.val (.bool bb))]).list []).1) u := fun ⟨hq, hbool⟩ => by
    obtain ⟨ub, hub, hrb⟩ := sim'.slots tb _ hbool
    obtain rfl : ub = .bool bb := hrb
    unfold retCell.cellOk at hq
    split at hq
    · rename_i id off hl
      split at hq
      · rename_i blk hblk
        obtain ⟨hle, hve⟩ := hq
        obtain ⟨u, hu, b, z, hφ, rfl⟩ := sim'.slots t _ hl
        obtain ⟨cur, _, hB, hcur, hn, hx⟩ := sim'.blkAt hblk hφ
        have hst : ∀ b, Stab w S0 s'.h φ b → Stab w S0 [] [] b := fun b hb => ⟨hb.1, fun ⟨i, x, z, h1, _⟩ => by simp at h1⟩
        have hg : ∀ j, j < n → w'.cell? ⟨b, off + j, none⟩ = some (cur.getD (off + j) undef) ∧ Rd w' (Stab w S0 [] []) (g j) (cur.getD (off + j) undef) := fun j hj => by
          obtain ⟨x, hx1, hx2⟩ := hx (off + j) (by omega)
          have e : cur.getD (off + j) undef = x := by simp [hx1]
          rw [e]
          exact ⟨cell_of_blk hcur hx1, VE.rd _ _ _ (hve j hj) (Rd.mono (fun b hb _ => ⟨hst b hb, rfl⟩) _ _ hx2)⟩
        refine ⟨sim'.defers, _, run_results_cell2 hres hc _ b off (by simp [hu]) (.bool bb) (by simp [hub]) (fun j => cur.getD (off + j) undef) w' fun j hj => (hg j hj).1, _, [], rfl, ⟨rfl, sim'.heap.below, fun id blk hi => by simp [bring, Res.list] at hi, fun i j bi bj b z z' hi => by simp [bring, Res.list] at hi⟩, ?_⟩
        exact ⟨_, rfl, rd_agg fun j hj => (hg j hj).2, rfl, trivial⟩
      · exact hq.elim
    · exact hq.elim
  cases e with
  | normal => exact fin hq
  | ret => exact fin hq
  | _ => exact hq.elim

theorem cellOk_at {t id n : Nat} {g : Nat → V} {s : ASt} {blk : Blk} (ht : lookup s.σ t = some (.one (.ptr id 0))) (hb : s.h[id]? = some (some blk)) (hn : blk.n = n) (hf : ∀ i, i < n → VE (blk.f i) (g i)) : retCell.cellOk t n g s := by
  unfold retCell.cellOk
  rw [ht]
  simp only [hb]
  exact ⟨by omega, fun i hi => by rw [Nat.zero_add]; exact hf i hi⟩

/-- What is handed on. -/
def toldF (ok : Bool) (F : Nat → V) : Nat → V := fun i => if ok then F i else .val (.slice none 0 0)

set_option maxRecDepth 100000 in
theorem toldAut_fn (a e : List Int) (s : List (List (List Int))) (ha : a.length ≤ 1099511627776) (he : e.length ≤ 1099511627776) (hs : s.length ≤ 1099511627776) (hm : ∀ i, i < s.length → lenM (matAt s i)) {F : Nat → V} (hF : Bare (.agg 3 F) (autV a e s)) (h1 : ∀ i, i < 3 → (F i).one = true) :
    Fn Try.prog 89 [.agg 3 F] (.many [.pv (.agg 3 (toldF (autB a e s) F)), .pv (vb (autB a e s))]) := by
  refine Fn.of_body_cell2 Try.call89 Try.func89 rfl Try.ntmps89 (t := 2) (ty := 43) (tb := 3) rfl c_aut (by simp) (fun N => ?_)
  have hgood := (isAutomaton_fn a e s ha he hs hm).bare (vs' := [.agg 3 F]) ⟨hF, trivial⟩
  cases hok : autB a e s with
  | true =>
    rw [hok] at hgood
    repeat' (first | ((with_reducible show thenQ _ _ _ _); first | with_reducible refine then_normal ?_ | with_reducible refine then_ret ?_ | with_reducible refine then_exit ?_) | ((with_reducible show blockQ _ _ _ _); first | with_reducible refine block_normal ?_ | with_reducible refine block_ret ?_ | refine block_exit ?_ | refine block_exit_ne rfl ?_) | ((with_reducible show AWP _ _ _ _ _); first | with_reducible refine AWP.seq ?_ | with_reducible refine AWP.block ?_ | with_reducible refine AWP.region ?_ | (refine AWP.drawn rfl (by kernel_rfl) ?_) | with_reducible refine AWP.ret ?_ | with_reducible refine AWP.exit ?_ | with_reducible refine AWP.skip ?_ | refine AWP.cond rfl ?_ ?_) | with_reducible refine ev_nil ?_ | ((first | ((with_reducible show evOps _ _ _ _ _ _); (first | refine ev_step rfl ?_ | refine ev_undef rfl rfl rfl ?_); intro K hK) | ((with_reducible show EvOpen _ _ _ _ _ _ _); refine ev_open ?_; intro K hK) | ((with_reducible show SkOpen _ _ _ _ _ _ _); refine sk_open ?_; intro K hK) | ((with_reducible show callK _ _ _ _ _ _ _ _); first  | (refine call_scalar (hgood) (Nat.le_of_ble_eq_true rfl) rfl ?_))); simp only [evOp, oldZ, evQ, evB, capsK, dynK, tabV, bytesK, eqStK, vInt, binK, withS, opd, kput, putS, upd, lookup, skipOp, argsK, loadOwn, bringIn, bring, Res.list, Res.slot, slotsOf, InK_i64, appendK, srcK, growK, storeK, frz, storeV, setBlk, makeK, newBlk, boxV, allocK, buildK, partsK, buildSliceK, plSlice, cutK, boundK, V.one, Value.oneCell', List.set_cons_zero, List.set_cons_succ, sz_ints, c_int, ei_ints, ea_ints, u_bool, bints, u_int, sz_strs, c_string, ei_strs, ea_strs, u_string, sz_rows, c_ints, ei_rows, ea_rows, c_rows, bs_bytes, ei_bytes, ea_bytes, sz_bytes, c_u8, u_u8, bstrs, brows, tf_0, tf_1, tf_2, tf_00, tf_01, tf_02, t3_0, t3_1, t3_2, retCell, retCell.cellOk, Nat.zero_le, lenB_is, byteI_is, InK_u8, del, sz_mats, c_mats, ei_mats, ea_mats, c_aut, c_laut, fa0, fa1, fa2, fla0, fla1, fla2, z_aut, autF_0, autF_1, autF_2, oldV_seq, List.getElem?_cons_zero, List.getElem?_cons_succ, Option.bind_some, List.reverse_cons, List.reverse_nil, List.nil_append, List.cons_append, List.length_cons, List.length_nil, Nat.reduceEqDiff, Nat.reduceAdd, Nat.reduceLT, Nat.reduceLeDiff, Nat.reduceMul, Nat.mul_one, Nat.one_mul, Nat.zero_mul, Nat.add_zero, Nat.zero_add, Nat.sub_zero, Nat.mod_one, Nat.not_lt_zero, List.getD_cons_zero, ↓reduceIte, if_true, if_false, eq_self, true_and, and_true, Bool.not_true, Bool.not_false, Bool.true_eq_false, Bool.false_eq_true, false_implies, forall_const, implies_true, Int.toNat_natCast, Int.toNat_zero, Int.toNat_one, Option.isSome_some]) | refine ev_guard rfl rfl rfl ?_ ?_ | ((with_reducible show retQ _ _ _ _); simp only [retQ, retOk, getL, lookup, Option.map_some, fitsL, fits, ND, srcs, Res.list, VE, List.getElem?_cons_zero, List.getElem?_cons_succ, Value.bool.injEq, Value.int.injEq, Nat.reduceEqDiff, ↓reduceIte, and_true, true_and]) | (with_reducible refine hK _ ?_; clear hK K) | (with_reducible refine And.intro ?_ ?_) | (with_reducible intro hc; try simp only [decide_eq_true_eq, decide_eq_false_iff_not, beq_iff_eq, beq_eq_false_iff_ne, bne_iff_ne, bne_eq_false_iff_eq, Bool.not_eq_true', Bool.not_eq_false', Bool.not_true, Bool.not_false, Int.not_lt, Int.not_le, gt_iff_lt, ge_iff_le, ne_eq, Decidable.not_not, reduceCtorEq, inB_true, inB_false, finB_true, finB_false, not_true_eq_false, eqB_refl, Bool.true_eq_false] at hc) | omega)
    all_goals first
      | (exfalso; simp_all; done)
      | exact h1 _ (by assumption)
      | rfl
      | (rename_i q; rcases (show q = 0 ∨ q = 1 ∨ q = 2 by omega) with rfl | rfl | rfl <;> rfl)
      | (exact ⟨cellOk_at (id := 1) rfl rfl rfl fun i hi => VE.of_eq (if_pos hi), rfl⟩)
      | trace_state
  | false =>
    rw [hok] at hgood
    repeat' (first | ((with_reducible show thenQ _ _ _ _); first | with_reducible refine then_normal ?_ | with_reducible refine then_ret ?_ | with_reducible refine then_exit ?_) | ((with_reducible show blockQ _ _ _ _); first | with_reducible refine block_normal ?_ | with_reducible refine block_ret ?_ | refine block_exit ?_ | refine block_exit_ne rfl ?_) | ((with_reducible show AWP _ _ _ _ _); first | with_reducible refine AWP.seq ?_ | with_reducible refine AWP.block ?_ | with_reducible refine AWP.region ?_ | (refine AWP.drawn rfl (by kernel_rfl) ?_) | with_reducible refine AWP.ret ?_ | with_reducible refine AWP.exit ?_ | with_reducible refine AWP.skip ?_ | refine AWP.cond rfl ?_ ?_) | with_reducible refine ev_nil ?_ | ((first | ((with_reducible show evOps _ _ _ _ _ _); (first | refine ev_step rfl ?_ | refine ev_undef rfl rfl rfl ?_); intro K hK) | ((with_reducible show EvOpen _ _ _ _ _ _ _); refine ev_open ?_; intro K hK) | ((with_reducible show SkOpen _ _ _ _ _ _ _); refine sk_open ?_; intro K hK) | ((with_reducible show callK _ _ _ _ _ _ _ _); first  | (refine call_scalar (hgood) (Nat.le_of_ble_eq_true rfl) rfl ?_))); simp only [evOp, oldZ, evQ, evB, capsK, dynK, tabV, bytesK, eqStK, vInt, binK, withS, opd, kput, putS, upd, lookup, skipOp, argsK, loadOwn, bringIn, bring, Res.list, Res.slot, slotsOf, InK_i64, appendK, srcK, growK, storeK, frz, storeV, setBlk, makeK, newBlk, boxV, allocK, buildK, partsK, buildSliceK, plSlice, cutK, boundK, V.one, Value.oneCell', List.set_cons_zero, List.set_cons_succ, sz_ints, c_int, ei_ints, ea_ints, u_bool, bints, u_int, sz_strs, c_string, ei_strs, ea_strs, u_string, sz_rows, c_ints, ei_rows, ea_rows, c_rows, bs_bytes, ei_bytes, ea_bytes, sz_bytes, c_u8, u_u8, bstrs, brows, tf_0, tf_1, tf_2, tf_00, tf_01, tf_02, t3_0, t3_1, t3_2, retCell, retCell.cellOk, Nat.zero_le, lenB_is, byteI_is, InK_u8, del, sz_mats, c_mats, ei_mats, ea_mats, c_aut, c_laut, fa0, fa1, fa2, fla0, fla1, fla2, z_aut, autF_0, autF_1, autF_2, oldV_seq, List.getElem?_cons_zero, List.getElem?_cons_succ, Option.bind_some, List.reverse_cons, List.reverse_nil, List.nil_append, List.cons_append, List.length_cons, List.length_nil, Nat.reduceEqDiff, Nat.reduceAdd, Nat.reduceLT, Nat.reduceLeDiff, Nat.reduceMul, Nat.mul_one, Nat.one_mul, Nat.zero_mul, Nat.add_zero, Nat.zero_add, Nat.sub_zero, Nat.mod_one, Nat.not_lt_zero, List.getD_cons_zero, ↓reduceIte, if_true, if_false, eq_self, true_and, and_true, Bool.not_true, Bool.not_false, Bool.true_eq_false, Bool.false_eq_true, false_implies, forall_const, implies_true, Int.toNat_natCast, Int.toNat_zero, Int.toNat_one, Option.isSome_some]) | refine ev_guard rfl rfl rfl ?_ ?_ | ((with_reducible show retQ _ _ _ _); simp only [retQ, retOk, getL, lookup, Option.map_some, fitsL, fits, ND, srcs, Res.list, VE, List.getElem?_cons_zero, List.getElem?_cons_succ, Value.bool.injEq, Value.int.injEq, Nat.reduceEqDiff, ↓reduceIte, and_true, true_and]) | (with_reducible refine hK _ ?_; clear hK K) | (with_reducible refine And.intro ?_ ?_) | (with_reducible intro hc; try simp only [decide_eq_true_eq, decide_eq_false_iff_not, beq_iff_eq, beq_eq_false_iff_ne, bne_iff_ne, bne_eq_false_iff_eq, Bool.not_eq_true', Bool.not_eq_false', Bool.not_true, Bool.not_false, Int.not_lt, Int.not_le, gt_iff_lt, ge_iff_le, ne_eq, Decidable.not_not, reduceCtorEq, inB_true, inB_false, finB_true, finB_false, not_true_eq_false, eqB_refl, Bool.true_eq_false] at hc) | omega)
    all_goals first
      | (exfalso; simp_all; done)
      | rfl
      | (rename_i q; rcases (show q = 0 ∨ q = 1 ∨ q = 2 by omega) with rfl | rfl | rfl <;> rfl)
      | (refine ⟨cellOk_at (id := 1) rfl rfl rfl fun i hi => ?_, rfl⟩
         rcases (show i = 0 ∨ i = 1 ∨ i = 2 by omega) with rfl | rfl | rfl <;> exact VE.of_eq rfl)
      | trace_state

set_option maxRecDepth 100000 in
theorem auIf_fn (a e : List Int) (s : List (List (List Int))) (ha : a.length ≤ 1099511627776) (he : e.length ≤ 1099511627776) (hs : s.length ≤ 1099511627776) (hm : ∀ i, i < s.length → lenM (matAt s i)) {F : Nat → V} (hF : Bare (.agg 3 F) (autV a e s)) (h1 : ∀ i, i < 3 → (F i).one = true) :
    Fn Try.prog 86 [.agg 3 F] (.many [.pv (.agg 3 (toldF (autB a e s) F)), .pv (vb (autB a e s))]) := by
  refine Fn.of_body_cell2 Try.call86 Try.func86 rfl Try.ntmps86 (t := 2) (ty := 43) (tb := 3) rfl c_aut (by simp) (fun N => ?_)
  have hgood := (auGood_fn a e s ha he hs hm).bare (vs' := [.agg 3 F]) ⟨hF, trivial⟩
  cases hok : autB a e s with
  | true =>
    rw [hok] at hgood
    repeat' (first | ((with_reducible show thenQ _ _ _ _); first | with_reducible refine then_normal ?_ | with_reducible refine then_ret ?_ | with_reducible refine then_exit ?_) | ((with_reducible show blockQ _ _ _ _); first | with_reducible refine block_normal ?_ | with_reducible refine block_ret ?_ | refine block_exit ?_ | refine block_exit_ne rfl ?_) | ((with_reducible show AWP _ _ _ _ _); first | with_reducible refine AWP.seq ?_ | with_reducible refine AWP.block ?_ | with_reducible refine AWP.region ?_ | (refine AWP.drawn rfl (by kernel_rfl) ?_) | with_reducible refine AWP.ret ?_ | with_reducible refine AWP.exit ?_ | with_reducible refine AWP.skip ?_ | refine AWP.cond rfl ?_ ?_) | with_reducible refine ev_nil ?_ | ((first | ((with_reducible show evOps _ _ _ _ _ _); (first | refine ev_step rfl ?_ | refine ev_undef rfl rfl rfl ?_); intro K hK) | ((with_reducible show EvOpen _ _ _ _ _ _ _); refine ev_open ?_; intro K hK) | ((with_reducible show SkOpen _ _ _ _ _ _ _); refine sk_open ?_; intro K hK) | ((with_reducible show callK _ _ _ _ _ _ _ _); first  | (refine call_scalar (hgood) (Nat.le_of_ble_eq_true rfl) rfl ?_))); simp only [evOp, oldZ, evQ, evB, capsK, dynK, tabV, bytesK, eqStK, vInt, binK, withS, opd, kput, putS, upd, lookup, skipOp, argsK, loadOwn, bringIn, bring, Res.list, Res.slot, slotsOf, InK_i64, appendK, srcK, growK, storeK, frz, storeV, setBlk, makeK, newBlk, boxV, allocK, buildK, partsK, buildSliceK, plSlice, cutK, boundK, V.one, Value.oneCell', List.set_cons_zero, List.set_cons_succ, sz_ints, c_int, ei_ints, ea_ints, u_bool, bints, u_int, sz_strs, c_string, ei_strs, ea_strs, u_string, sz_rows, c_ints, ei_rows, ea_rows, c_rows, bs_bytes, ei_bytes, ea_bytes, sz_bytes, c_u8, u_u8, bstrs, brows, tf_0, tf_1, tf_2, tf_00, tf_01, tf_02, t3_0, t3_1, t3_2, retCell, retCell.cellOk, Nat.zero_le, lenB_is, byteI_is, InK_u8, del, sz_mats, c_mats, ei_mats, ea_mats, c_aut, c_laut, fa0, fa1, fa2, fla0, fla1, fla2, z_aut, autF_0, autF_1, autF_2, oldV_seq, List.getElem?_cons_zero, List.getElem?_cons_succ, Option.bind_some, List.reverse_cons, List.reverse_nil, List.nil_append, List.cons_append, List.length_cons, List.length_nil, Nat.reduceEqDiff, Nat.reduceAdd, Nat.reduceLT, Nat.reduceLeDiff, Nat.reduceMul, Nat.mul_one, Nat.one_mul, Nat.zero_mul, Nat.add_zero, Nat.zero_add, Nat.sub_zero, Nat.mod_one, Nat.not_lt_zero, List.getD_cons_zero, ↓reduceIte, if_true, if_false, eq_self, true_and, and_true, Bool.not_true, Bool.not_false, Bool.true_eq_false, Bool.false_eq_true, false_implies, forall_const, implies_true, Int.toNat_natCast, Int.toNat_zero, Int.toNat_one, Option.isSome_some]) | refine ev_guard rfl rfl rfl ?_ ?_ | ((with_reducible show retQ _ _ _ _); simp only [retQ, retOk, getL, lookup, Option.map_some, fitsL, fits, ND, srcs, Res.list, VE, List.getElem?_cons_zero, List.getElem?_cons_succ, Value.bool.injEq, Value.int.injEq, Nat.reduceEqDiff, ↓reduceIte, and_true, true_and]) | (with_reducible refine hK _ ?_; clear hK K) | (with_reducible refine And.intro ?_ ?_) | (with_reducible intro hc; try simp only [decide_eq_true_eq, decide_eq_false_iff_not, beq_iff_eq, beq_eq_false_iff_ne, bne_iff_ne, bne_eq_false_iff_eq, Bool.not_eq_true', Bool.not_eq_false', Bool.not_true, Bool.not_false, Int.not_lt, Int.not_le, gt_iff_lt, ge_iff_le, ne_eq, Decidable.not_not, reduceCtorEq, inB_true, inB_false, finB_true, finB_false, not_true_eq_false, eqB_refl, Bool.true_eq_false] at hc) | omega)
    all_goals first
      | (exfalso; simp_all; done)
      | exact h1 _ (by assumption)
      | rfl
      | (rename_i q; rcases (show q = 0 ∨ q = 1 ∨ q = 2 by omega) with rfl | rfl | rfl <;> rfl)
      | (exact ⟨cellOk_at (id := 1) rfl rfl rfl fun i hi => VE.of_eq (if_pos hi), rfl⟩)
      | trace_state
  | false =>
    rw [hok] at hgood
    repeat' (first | ((with_reducible show thenQ _ _ _ _); first | with_reducible refine then_normal ?_ | with_reducible refine then_ret ?_ | with_reducible refine then_exit ?_) | ((with_reducible show blockQ _ _ _ _); first | with_reducible refine block_normal ?_ | with_reducible refine block_ret ?_ | refine block_exit ?_ | refine block_exit_ne rfl ?_) | ((with_reducible show AWP _ _ _ _ _); first | with_reducible refine AWP.seq ?_ | with_reducible refine AWP.block ?_ | with_reducible refine AWP.region ?_ | (refine AWP.drawn rfl (by kernel_rfl) ?_) | with_reducible refine AWP.ret ?_ | with_reducible refine AWP.exit ?_ | with_reducible refine AWP.skip ?_ | refine AWP.cond rfl ?_ ?_) | with_reducible refine ev_nil ?_ | ((first | ((with_reducible show evOps _ _ _ _ _ _); (first | refine ev_step rfl ?_ | refine ev_undef rfl rfl rfl ?_); intro K hK) | ((with_reducible show EvOpen _ _ _ _ _ _ _); refine ev_open ?_; intro K hK) | ((with_reducible show SkOpen _ _ _ _ _ _ _); refine sk_open ?_; intro K hK) | ((with_reducible show callK _ _ _ _ _ _ _ _); first  | (refine call_scalar (hgood) (Nat.le_of_ble_eq_true rfl) rfl ?_))); simp only [evOp, oldZ, evQ, evB, capsK, dynK, tabV, bytesK, eqStK, vInt, binK, withS, opd, kput, putS, upd, lookup, skipOp, argsK, loadOwn, bringIn, bring, Res.list, Res.slot, slotsOf, InK_i64, appendK, srcK, growK, storeK, frz, storeV, setBlk, makeK, newBlk, boxV, allocK, buildK, partsK, buildSliceK, plSlice, cutK, boundK, V.one, Value.oneCell', List.set_cons_zero, List.set_cons_succ, sz_ints, c_int, ei_ints, ea_ints, u_bool, bints, u_int, sz_strs, c_string, ei_strs, ea_strs, u_string, sz_rows, c_ints, ei_rows, ea_rows, c_rows, bs_bytes, ei_bytes, ea_bytes, sz_bytes, c_u8, u_u8, bstrs, brows, tf_0, tf_1, tf_2, tf_00, tf_01, tf_02, t3_0, t3_1, t3_2, retCell, retCell.cellOk, Nat.zero_le, lenB_is, byteI_is, InK_u8, del, sz_mats, c_mats, ei_mats, ea_mats, c_aut, c_laut, fa0, fa1, fa2, fla0, fla1, fla2, z_aut, autF_0, autF_1, autF_2, oldV_seq, List.getElem?_cons_zero, List.getElem?_cons_succ, Option.bind_some, List.reverse_cons, List.reverse_nil, List.nil_append, List.cons_append, List.length_cons, List.length_nil, Nat.reduceEqDiff, Nat.reduceAdd, Nat.reduceLT, Nat.reduceLeDiff, Nat.reduceMul, Nat.mul_one, Nat.one_mul, Nat.zero_mul, Nat.add_zero, Nat.zero_add, Nat.sub_zero, Nat.mod_one, Nat.not_lt_zero, List.getD_cons_zero, ↓reduceIte, if_true, if_false, eq_self, true_and, and_true, Bool.not_true, Bool.not_false, Bool.true_eq_false, Bool.false_eq_true, false_implies, forall_const, implies_true, Int.toNat_natCast, Int.toNat_zero, Int.toNat_one, Option.isSome_some]) | refine ev_guard rfl rfl rfl ?_ ?_ | ((with_reducible show retQ _ _ _ _); simp only [retQ, retOk, getL, lookup, Option.map_some, fitsL, fits, ND, srcs, Res.list, VE, List.getElem?_cons_zero, List.getElem?_cons_succ, Value.bool.injEq, Value.int.injEq, Nat.reduceEqDiff, ↓reduceIte, and_true, true_and]) | (with_reducible refine hK _ ?_; clear hK K) | (with_reducible refine And.intro ?_ ?_) | (with_reducible intro hc; try simp only [decide_eq_true_eq, decide_eq_false_iff_not, beq_iff_eq, beq_eq_false_iff_ne, bne_iff_ne, bne_eq_false_iff_eq, Bool.not_eq_true', Bool.not_eq_false', Bool.not_true, Bool.not_false, Int.not_lt, Int.not_le, gt_iff_lt, ge_iff_le, ne_eq, Decidable.not_not, reduceCtorEq, inB_true, inB_false, finB_true, finB_false, not_true_eq_false, eqB_refl, Bool.true_eq_false] at hc) | omega)
    all_goals first
      | (exfalso; simp_all; done)
      | rfl
      | (rename_i q; rcases (show q = 0 ∨ q = 1 ∨ q = 2 by omega) with rfl | rfl | rfl <;> rfl)
      | (refine ⟨cellOk_at (id := 1) rfl rfl rfl fun i hi => ?_, rfl⟩
         rcases (show i = 0 ∨ i = 1 ∨ i = 2 by omega) with rfl | rfl | rfl <;> exact VE.of_eq rfl)
      | trace_state

def twoB (a e : List Int) (s : List (List (List Int))) (a' e' : List Int) (s' : List (List (List Int))) : Bool := autB a e s && autB a' e' s' && ((s.length : Int) == (s'.length : Int))
theorem twoAutomata_fn (a e : List Int) (s : List (List (List Int))) (a' e' : List Int) (s' : List (List (List Int))) (l : a.length ≤ 1099511627776 ∧ e.length ≤ 1099511627776 ∧ s.length ≤ 1099511627776 ∧ ∀ i, i < s.length → lenM (matAt s i)) (l' : a'.length ≤ 1099511627776 ∧ e'.length ≤ 1099511627776 ∧ s'.length ≤ 1099511627776 ∧ ∀ i, i < s'.length → lenM (matAt s' i)) :
    Fn Try.prog 87 [autV a e s, autV a' e' s'] (.one (.pv (vb (twoB a e s a' e' s')))) := by
  refine Fn.of_body Try.call87 Try.func87 rfl Try.ntmps87 (ts := [4]) rfl (by simp) rfl (fun N => ?_)
  repeat' (first | ((with_reducible show thenQ _ _ _ _); first | with_reducible refine then_normal ?_ | with_reducible refine then_ret ?_ | with_reducible refine then_exit ?_) | ((with_reducible show blockQ _ _ _ _); first | with_reducible refine block_normal ?_ | with_reducible refine block_ret ?_ | refine block_exit ?_ | refine block_exit_ne rfl ?_) | ((with_reducible show AWP _ _ _ _ _); first | with_reducible refine AWP.seq ?_ | with_reducible refine AWP.block ?_ | with_reducible refine AWP.region ?_ | (refine AWP.drawn rfl (by kernel_rfl) ?_) | with_reducible refine AWP.ret ?_ | with_reducible refine AWP.exit ?_ | with_reducible refine AWP.skip ?_ | refine AWP.cond rfl ?_ ?_) | with_reducible refine ev_nil ?_ | ((first | ((with_reducible show evOps _ _ _ _ _ _); (first | refine ev_step rfl ?_ | refine ev_undef rfl rfl rfl ?_); intro K hK) | ((with_reducible show EvOpen _ _ _ _ _ _ _); refine ev_open ?_; intro K hK) | ((with_reducible show SkOpen _ _ _ _ _ _ _); refine sk_open ?_; intro K hK) | ((with_reducible show callK _ _ _ _ _ _ _ _); first  | (refine call_scalar (isAutomaton_fn a e s l.1 l.2.1 l.2.2.1 l.2.2.2) (Nat.le_of_ble_eq_true rfl) rfl ?_) | (refine call_scalar (isAutomaton_fn a' e' s' l'.1 l'.2.1 l'.2.2.1 l'.2.2.2) (Nat.le_of_ble_eq_true rfl) rfl ?_))); simp only [evOp, oldZ, evQ, evB, capsK, dynK, tabV, bytesK, eqStK, vInt, binK, withS, opd, kput, putS, upd, lookup, skipOp, argsK, loadOwn, bringIn, bring, Res.list, Res.slot, slotsOf, InK_i64, appendK, srcK, growK, storeK, frz, storeV, setBlk, makeK, newBlk, boxV, allocK, buildK, partsK, buildSliceK, plSlice, cutK, boundK, V.one, Value.oneCell', List.set_cons_zero, List.set_cons_succ, sz_ints, c_int, ei_ints, ea_ints, u_bool, bints, u_int, sz_strs, c_string, ei_strs, ea_strs, u_string, sz_rows, c_ints, ei_rows, ea_rows, c_rows, bs_bytes, ei_bytes, ea_bytes, sz_bytes, c_u8, u_u8, bstrs, brows, tf_0, tf_1, tf_2, tf_00, tf_01, tf_02, t3_0, t3_1, t3_2, retCell, retCell.cellOk, Nat.zero_le, lenB_is, byteI_is, InK_u8, del, sz_mats, c_mats, ei_mats, ea_mats, c_aut, c_laut, fa0, fa1, fa2, fla0, fla1, fla2, z_aut, autF_0, autF_1, autF_2, oldV_seq, List.getElem?_cons_zero, List.getElem?_cons_succ, Option.bind_some, List.reverse_cons, List.reverse_nil, List.nil_append, List.cons_append, List.length_cons, List.length_nil, Nat.reduceEqDiff, Nat.reduceAdd, Nat.reduceLT, Nat.reduceLeDiff, Nat.reduceMul, Nat.mul_one, Nat.one_mul, Nat.zero_mul, Nat.add_zero, Nat.zero_add, Nat.sub_zero, Nat.mod_one, Nat.not_lt_zero, List.getD_cons_zero, ↓reduceIte, if_true, if_false, eq_self, true_and, and_true, Bool.not_true, Bool.not_false, Bool.true_eq_false, Bool.false_eq_true, false_implies, forall_const, implies_true, Int.toNat_natCast, Int.toNat_zero, Int.toNat_one, Option.isSome_some]) | refine ev_guard rfl rfl rfl ?_ ?_ | ((with_reducible show retQ _ _ _ _); simp only [retQ, retOk, getL, lookup, Option.map_some, fitsL, fits, ND, srcs, Res.list, VE, List.getElem?_cons_zero, List.getElem?_cons_succ, Value.bool.injEq, Value.int.injEq, Nat.reduceEqDiff, ↓reduceIte, and_true, true_and]) | (with_reducible refine hK _ ?_; clear hK K) | (with_reducible refine And.intro ?_ ?_) | (with_reducible intro hc; try simp only [decide_eq_true_eq, decide_eq_false_iff_not, beq_iff_eq, beq_eq_false_iff_ne, bne_iff_ne, bne_eq_false_iff_eq, Bool.not_eq_true', Bool.not_eq_false', Bool.not_true, Bool.not_false, Int.not_lt, Int.not_le, gt_iff_lt, ge_iff_le, ne_eq, Decidable.not_not, reduceCtorEq, inB_true, inB_false, finB_true, finB_false, not_true_eq_false, eqB_refl, Bool.true_eq_false] at hc) | omega)
  all_goals first
    | (exfalso; omega)
    | (unfold twoB; simp_all; done)
    | (rename_i q; rcases (show q = 0 ∨ q = 1 ∨ q = 2 by omega) with rfl | rfl | rfl <;> rfl)
    | trace_state
end Go.Proofs.Ytpolbgenoicckaa
