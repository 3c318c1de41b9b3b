/- Parts of the proof of LawFnParts: contracts of functions, laws of an abstract state, plain facts. No conditions. -/
import Derived.Test.YteapdildbfimnaaB12
namespace Go.Proofs.Yteapdildbfimnaa
open Go.RowKit Go.Proofs Go.ChangeShapes Go.WideShapes Go.ChangeAt
set_option linter.unusedSimpArgs false
set_option linter.unusedVariables false
set_option maxRecDepth 20000
theorem toNat_kP (k : Nat) : ((k : Int) + 1).toNat = k + 1 := by omega

theorem bigA_fn (m n : Nat) (f g : Nat → Int) (hm : m ≤ 9223372036854775807) (hn : n ≤ 9223372036854775807) (hs : m + n ≤ 9223372036854775807) : Fn Try.prog 11 [bytV m f, bytV n g] (.one (.pv (vb (decide (1048576 < m + n))))) := by
  refine Fn.of_body Try.call11 Try.func11 rfl Try.ntmps11 (ts := [4]) rfl (by simp) rfl (fun N => ?_)
  repeat' (first | (with_reducible first | refine then_normal ?_ | refine then_ret ?_ | refine then_exit ?_ | refine block_normal ?_ | refine block_ret ?_) | ((with_reducible show blockQ _ _ _ _); first | refine block_exit ?_ | refine block_exit_ne rfl ?_) | ((with_reducible show AWP _ _ _ _ _); first | (with_reducible first | refine AWP.seq ?_ | refine AWP.block ?_ | refine AWP.region ?_ | refine AWP.ret ?_ | refine AWP.exit ?_ | refine AWP.skip ?_) | refine AWP.drawn rfl (by kernel_rfl) ?_ | refine AWP.cond rfl ?_ ?_) | with_reducible refine ev_nil ?_ | ((first | ((with_reducible show evOps _ _ _ _ _ _); (first | refine ev_step rfl ?_ | refine ev_undef rfl rfl rfl ?_); intro K hK) | ((with_reducible show EvOpen _ _ _ _ _ _ _); refine ev_open ?_; intro K hK) | ((with_reducible show SkOpen _ _ _ _ _ _ _); refine sk_open ?_; intro K hK) | ((with_reducible show callK _ _ _ _ _ _ _ _); first | fail)); simp only [evOp, evQ, evB, binK, withS, opd, kput, putS, upd, lookup, skipOp, slotsOf, InK_i64, sz_bytes, Nat.reduceEqDiff, Nat.reduceLT, Nat.zero_add, ↓reduceIte, eq_self, true_and, and_true, Bool.not_false, Bool.true_eq_false, Bool.false_eq_true, false_implies, forall_const, Option.isSome_some]) | refine ev_guard rfl rfl rfl ?_ ?_ | ((with_reducible show retQ _ _ _ _); simp only [retQ, retOk, getL, lookup, Option.map_some, fitsL, fits, ND, srcs, Res.list, VE, Value.bool.injEq, Nat.reduceEqDiff, ↓reduceIte, and_true]) | (with_reducible refine hK _ ?_; clear hK K) | (with_reducible refine And.intro ?_ ?_) | (with_reducible intro hc; try simp only [decide_eq_true_eq, decide_eq_false_iff_not, Bool.not_false, Int.not_lt, gt_iff_lt, reduceCtorEq, Bool.true_eq_false] at hc) | omega)
  all_goals first
    | (exfalso; omega)
    | exact decide_eq_decide.2 (by omega)
    | (symm; rw [decide_eq_true_eq]; omega)
    | trace_state

theorem cpR_ok (u : List ByteArray) : cpR u = ((cpR u).1, picB u) := by
  cases h : picB u with
  | true => rw [cpR_yes h]
  | false => rw [cpR_no h]
theorem loR_ok (u : List ByteArray) : loR u = ((loR u).1, picB u) := by
  cases h : picB u with
  | true => rw [loR_yes h]
  | false => rw [loR_no h]
theorem bdR_ok (u : List ByteArray) : (bdR u).2 = picB u := by
  cases h : picB u with
  | true => rw [bdR_yes h]
  | false => rw [bdR_no h]
theorem gtR_ok (u : List ByteArray) : (gtR u).2.2 = picB u := by
  cases h : picB u with
  | true => rw [gtR_yes h]
  | false => rw [gtR_no h]

set_option maxHeartbeats 8000000 in
theorem lawParts_fn (m n : Nat) (f g : Nat → Int) (hm : m ≤ 140737488351232) (hn : n ≤ 140737488351232) (hf : ∀ i, i < m → 0 ≤ f i ∧ f i < 256) (hg : ∀ i, i < n → 0 ≤ g i ∧ g i < 256) :
    Fn Try.prog 5 [bytV m f, bytV n g] (.one (.pv (vb true))) := by
  refine Fn.of_body Try.call5 Try.func5 rfl Try.ntmps5 (ts := [4]) rfl (by simp) rfl (fun N => ?_)
  have hbg := bigA_fn m n f g (by omega) (by omega) (by omega)
  by_cases hbig : 1048576 < m + n
  · rw [decide_eq_true hbig] at hbg
    repeat' (first | (with_reducible first | refine then_normal ?_ | refine then_ret ?_ | refine then_exit ?_ | refine block_normal ?_ | refine block_ret ?_) | ((with_reducible show blockQ _ _ _ _); first | refine block_exit ?_ | refine block_exit_ne rfl ?_) | ((with_reducible show AWP _ _ _ _ _); first | (with_reducible first | refine AWP.seq ?_ | refine AWP.block ?_ | refine AWP.region ?_ | refine AWP.ret ?_ | refine AWP.exit ?_ | refine AWP.skip ?_) | refine AWP.drawn rfl (by kernel_rfl) ?_ | refine AWP.cond rfl ?_ ?_) | with_reducible refine ev_nil ?_ | ((first | ((with_reducible show evOps _ _ _ _ _ _); (first | refine ev_step rfl ?_ | refine ev_undef rfl rfl rfl ?_); intro K hK) | ((with_reducible show EvOpen _ _ _ _ _ _ _); refine ev_open ?_; intro K hK) | ((with_reducible show SkOpen _ _ _ _ _ _ _); refine sk_open ?_; intro K hK) | ((with_reducible show callK _ _ _ _ _ _ _ _); first  | (refine call_scalar (hbg) (Nat.le_of_ble_eq_true rfl) rfl ?_))); simp only [evOp, evQ, withS, opd, kput, putS, upd, lookup, argsK, bringIn, bring, Res.list, Res.slot, slotsOf, List.reverse_cons, List.reverse_nil, List.nil_append, List.cons_append, Nat.reduceEqDiff, Nat.reduceLT, Nat.zero_add, ↓reduceIte, eq_self, true_and]) | refine ev_guard rfl rfl rfl ?_ ?_ | ((with_reducible show retQ _ _ _ _); simp only [retQ, retOk, getL, lookup, Option.map_some, fitsL, fits, ND, srcs, Res.list, VE, Nat.reduceEqDiff, ↓reduceIte, and_true]) | (with_reducible refine hK _ ?_; clear hK K) | (with_reducible refine And.intro ?_ ?_) | (with_reducible intro hc; try simp only [Bool.true_eq_false] at hc) | omega)
    all_goals first
      | rfl
      | (exfalso; simp_all; omega)
      | trace_state
  rw [decide_eq_false hbig] at hbg
  have hb1 : BytOk m f := ⟨by omega, hf⟩
  have hb2 : BytOk n g := ⟨by omega, hg⟩
  repeat' (first | ((with_reducible show evNx _ _ _ _ _ _); first | (with_reducible refine nx_done ?_) | (refine nx_one rfl ?_) | (refine nx_alt rfl ?_ ?_) | (with_reducible refine nx_st ?_)) | ((with_reducible show evSx _ _ _ _ _ _); first | (with_reducible refine sx_done ?_) | (with_reducible refine sx_st ?_) | (with_reducible refine sx_op ?_)) | ((with_reducible show evTake _ _ _ _ _); with_reducible refine take_nil ?_) | ((with_reducible show evSy _ _ _ _ _ _ _); first | (with_reducible refine sy_done ?_) | (refine sy_last rfl ?_) | (refine sy_one (by decide) rfl ?_) | (refine sy_alt (by decide) rfl ?_ ?_) | (with_reducible refine sy_st ?_)) | ((with_reducible show StK _ _ _); first | fail) | (with_reducible first | refine then_normal ?_ | refine then_ret ?_ | refine then_exit ?_ | refine block_normal ?_ | refine block_ret ?_) | ((with_reducible show blockQ _ _ _ _); first | refine block_exit ?_ | refine block_exit_ne rfl ?_) | ((with_reducible show AWP _ _ _ _ _); first | (refine AWP.holdR (id := 4) ?_) | (refine AWP.region_sx (id := 3) [.op, .op, .op] ?_) | (with_reducible first | refine AWP.seq ?_ | refine AWP.block ?_ | refine AWP.region ?_ | refine AWP.ret ?_ | refine AWP.exit ?_ | refine AWP.skip ?_) | refine AWP.drawn rfl (by kernel_rfl) ?_ | refine AWP.cond rfl ?_ ?_) | with_reducible refine ev_nil ?_ | ((first | ((with_reducible show evNx _ _ _ _ _ _); refine nx_take rfl ?_; intro K hK) | ((with_reducible show Ax _ _ _ _ _); first | (refine ax_callE (f := 28) ?_) | (refine ax_op rfl ?_; intro K hK)) | ((with_reducible show evTake _ _ _ _ _); refine take_step rfl ?_; intro K hK) | ((with_reducible show evSy _ _ _ _ _ _ _); refine sy_take rfl ?_; intro K hK) | ((with_reducible show AxB _ _ _ _ _); first | (refine axb_callE (f := 28) ?_) | (refine axb_op rfl rfl ?_; intro K hK)) | (refine ⟨_, drawCountParts_E hb1, ?_⟩; rintro _ ⟨u, hu, rfl⟩ hn1; simp only [Res.list, NewL, and_true, true_and] at hn1) | ((with_reducible show evOps _ _ _ _ _ _); (first | refine ev_step rfl ?_ | refine ev_undef rfl rfl rfl ?_); intro K hK) | ((with_reducible show EvOpen _ _ _ _ _ _ _); refine ev_open ?_; intro K hK) | ((with_reducible show SkOpen _ _ _ _ _ _ _); refine sk_open ?_; intro K hK) | ((with_reducible show callK _ _ _ _ _ _ _ _); first  | (refine call_scalar (hbg) (Nat.le_of_ble_eq_true rfl) rfl ?_))); simp only [callEK, evOp, evQ, withS, opd, kput, putS, upd, lookup, argsK, bringIn, bring, Res.list, Res.slot, slotsOf, bstrs, List.reverse_cons, List.reverse_nil, List.nil_append, List.cons_append, List.length_nil, Nat.reduceEqDiff, Nat.reduceLT, Nat.zero_add, ↓reduceIte, eq_self, true_and]) | refine ev_guard rfl rfl rfl ?_ ?_ | ((with_reducible show retQ _ _ _ _); simp only [eq_self]) | (with_reducible refine hK _ ?_; clear hK K) | (with_reducible refine And.intro ?_ ?_) | (with_reducible intro hc; try simp only [reduceCtorEq] at hc) | omega)
  all_goals try (exfalso; simp_all; done)
  clear hn1
  unfold HoldR
  have hu17 := hu.1
  have hu20 := hu.2
  have hu40 : ∀ i, lenB (stAt u i) ≤ 1099511627776 := fun i => by have := hu20 i; omega
  have hc1 := implCountParts_fn u (by omega)
  have hc2 := specCountParts_fn u (by omega) hu40
  have hl1 := implLettersOf_fn u (by omega)
  have hl2 := specLettersOf_fn u (by omega) hu40
  have hb1 := implBorderPlaces_E u (by omega) hu40
  have hb2' := specBorderPlaces_E u (by omega) hu40
  have hg1 := implGreatestPart_fn u (by omega)
  have hg2 := specGreatestPart_fn u (by omega) hu40
  rw [cpR_ok u] at hc1 hc2
  rw [loR_ok u] at hl1 hl2
  rw [bdR_ok u] at hb1 hb2'
  rw [gtR_ok u] at hg1 hg2
  have fc := fun h => (congrArg Prod.fst (cpR_yes (l := u) h))
  have fl := fun h => (congrArg Prod.fst (loR_yes (l := u) h))
  have fb := fun h => (congrArg Prod.fst (bdR_yes (l := u) h))
  have fg := fun h => (congrArg (fun x => (x.1, x.2.1)) (gtR_yes (l := u) h))
  have hbl := bdR_len u
  have hbt := bdR_two u
  have hcb : 0 ≤ (cpR u).1 ∧ (cpR u).1 ≤ 1000000 := by
    cases h : picB u with
    | false => rw [cpR_no h]; decide
    | true =>
      obtain ⟨q1, q2, q3⟩ := picB_parts h
      have := Nat.mul_le_mul q1.2 q2.2
      have h2 := cntN_le (fun i => decide (labL u i = i)) (u.length * lenB (stAt u 0))
      change cpN u ≤ _ at h2
      rw [cpR_yes h]
      show 0 ≤ ((cpN u : Nat) : Int) ∧ ((cpN u : Nat) : Int) ≤ 1000000
      omega
  generalize (cpR u).1 = C at *
  generalize (loR u).1 = L at *
  generalize (bdR u).1 = M at *
  generalize (gtR u).1 = G at *
  generalize (gtR u).2.1 = K at *
  have hsl := sameLists_same M (by omega) (fun i _ => by have := hbt i; omega)
  repeat' (first | ((with_reducible show evNx _ _ _ _ _ _); first | (with_reducible refine nx_done ?_) | (refine nx_one rfl ?_) | (refine nx_alt rfl ?_ ?_) | (with_reducible refine nx_st ?_)) | ((with_reducible show evSx _ _ _ _ _ _); first | (with_reducible refine sx_done ?_) | (with_reducible refine sx_st ?_) | (with_reducible refine sx_op ?_)) | ((with_reducible show evTake _ _ _ _ _); with_reducible refine take_nil ?_) | ((with_reducible show evSy _ _ _ _ _ _ _); first | (with_reducible refine sy_done ?_) | (refine sy_last rfl ?_) | (refine sy_one (by decide) rfl ?_) | (refine sy_alt (by decide) rfl ?_ ?_) | (with_reducible refine sy_st ?_)) | ((with_reducible show StK _ _ _); first | fail) | (with_reducible first | refine then_normal ?_ | refine then_ret ?_ | refine then_exit ?_ | refine block_normal ?_ | refine block_ret ?_) | ((with_reducible show blockQ _ _ _ _); first | refine block_exit ?_ | refine block_exit_ne rfl ?_) | ((with_reducible show AWP _ _ _ _ _); first | (refine AWP.holdR (id := 10) ?_) | (refine AWP.region_sx (id := 8) [.op, .op, .op, .op, .op, .op, .op] ?_) | (refine AWP.region_sx (id := 9) [.op, .op, .op, .op, .op, .op, .op] ?_) | (with_reducible first | refine AWP.seq ?_ | refine AWP.block ?_ | refine AWP.region ?_ | refine AWP.ret ?_ | refine AWP.exit ?_ | refine AWP.skip ?_) | refine AWP.drawn rfl (by kernel_rfl) ?_ | refine AWP.cond rfl ?_ ?_) | with_reducible refine ev_nil ?_ | ((first | ((with_reducible show evNx _ _ _ _ _ _); refine nx_take rfl ?_; intro K hK) | ((with_reducible show Ax _ _ _ _ _); first | (refine ax_callE (f := 31) ?_) | (refine ax_callE (f := 32) ?_) | (refine ax_op rfl ?_; intro K hK)) | ((with_reducible show evTake _ _ _ _ _); refine take_step rfl ?_; intro K hK) | ((with_reducible show evSy _ _ _ _ _ _ _); refine sy_take rfl ?_; intro K hK) | ((with_reducible show AxB _ _ _ _ _); first | (refine axb_callE (f := 31) ?_) | (refine axb_callE (f := 32) ?_) | (refine axb_op rfl rfl ?_; intro K hK)) | (refine ⟨_, hb1, ?_⟩; rintro _ ⟨F1, h1, rfl⟩ hn4; simp only [Res.list, NewL, and_true, true_and] at hn4) | (refine ⟨_, hb2', ?_⟩; rintro _ ⟨F2, h2, rfl⟩ hn5; simp only [Res.list, NewL, and_true, true_and] at hn5) | ((with_reducible show evOps _ _ _ _ _ _); (first | refine ev_step rfl ?_ | refine ev_undef rfl rfl rfl ?_); intro K hK) | ((with_reducible show EvOpen _ _ _ _ _ _ _); refine ev_open ?_; intro K hK) | ((with_reducible show SkOpen _ _ _ _ _ _ _); refine sk_open ?_; intro K hK) | ((with_reducible show callK _ _ _ _ _ _ _ _); first  | (refine call_scalar (hc1) (Nat.le_of_ble_eq_true rfl) rfl ?_) | (refine call_scalar (hc2) (Nat.le_of_ble_eq_true rfl) rfl ?_) | (refine call_scalar (hl1) (Nat.le_of_ble_eq_true rfl) rfl ?_) | (refine call_scalar (hl2) (Nat.le_of_ble_eq_true rfl) rfl ?_) | (refine call_scalar (hg1) (Nat.le_of_ble_eq_true rfl) rfl ?_) | (refine call_scalar (hg2) (Nat.le_of_ble_eq_true rfl) rfl ?_))); simp only [callEK, evOp, evQ, withS, opd, kput, putS, upd, lookup, argsK, bringIn, bring, Res.list, Res.slot, List.getElem?_cons_zero, List.getElem?_cons_succ, List.reverse_cons, List.reverse_nil, List.nil_append, List.cons_append, List.length_cons, List.length_nil, Nat.reduceEqDiff, Nat.reduceAdd, Nat.reduceLT, Nat.mul_one, Nat.zero_add, ↓reduceIte, eq_self, true_and]) | refine ev_guard rfl rfl rfl ?_ ?_ | ((with_reducible show retQ _ _ _ _); simp only [eq_self]) | (with_reducible refine hK _ ?_; clear hK K) | (with_reducible refine And.intro ?_ ?_) | (with_reducible intro hc; try simp only [eq_self] at hc) | omega)
  all_goals try first | exact isRow.one (h1 _ (by assumption)).1 | exact isRow.one (h2 _ (by assumption)).1
  clear hn4 hn5
  unfold HoldR
  refine AWP.bareBlk 1 (g := fun i => ints (rowAt M i)) rfl (fun i hi => (h1 i hi).1.bare) (AWP.bareBlk 2 (g := fun i => ints (rowAt M i)) rfl (fun i hi => (h2 i hi).1.bare) ?_)
  refine AWP.entR [0, 1, 2] ⟨[(1, .one (.pv (bytV n g))), (5, .one (.own 0 1 0 u.length)), (6, .one (.pv (vi C))), (7, .one (.pv (vb (picB u)))), (8, .one (.pv (vi C))), (9, .one (.pv (vb (picB u)))), (10, .one (.pv (vs L))), (11, .one (.pv (vb (picB u)))), (12, .one (.pv (vs L))), (13, .one (.pv (vb (picB u)))), (14, .one (.own 1 1 0 M.length)), (15, .one (.pv (vb (picB u)))), (16, .one (.own 2 1 0 M.length)), (17, .one (.pv (vb (picB u))))], [some (bstrs u), some ⟨37, M.length, fun i => ints (rowAt M i)⟩, some ⟨37, M.length, fun i => ints (rowAt M i)⟩], 305⟩ ⟨rfl, by decide, by (simp [EntSR, SlR, VE, lookup, sc, VE.rfl']), BE.rfl' _, BE.rfl' _, BE.rfl' _, trivial⟩ ?_
  clear hb1 hb2' h1 h2 F1 F2
  repeat' (first | (with_reducible first | refine then_normal ?_ | refine then_ret ?_ | refine then_exit ?_ | refine block_normal ?_ | refine block_ret ?_) | ((with_reducible show blockQ _ _ _ _); first | refine block_exit ?_ | refine block_exit_ne rfl ?_) | ((with_reducible show AWP _ _ _ _ _); first | (refine AWP.holdR (id := 15) ?_) | (refine AWP.condX (t := 149) (fun _ : Unit => ⟨[(1, .one (.pv (bytV n g)))], [], 305⟩) (fun _ => True) ?_ ?_) | (with_reducible first | refine AWP.seq ?_ | refine AWP.block ?_ | refine AWP.region ?_ | refine AWP.ret ?_ | refine AWP.exit ?_ | refine AWP.skip ?_) | refine AWP.drawn rfl (by kernel_rfl) ?_ | refine AWP.cond rfl ?_ ?_) | with_reducible refine ev_nil ?_ | ((first | ((with_reducible show evOps _ _ _ _ _ _); (first | refine ev_step rfl ?_ | refine ev_undef rfl rfl rfl ?_); intro K hK) | ((with_reducible show EvOpen _ _ _ _ _ _ _); refine ev_open ?_; intro K hK) | ((with_reducible show SkOpen _ _ _ _ _ _ _); refine sk_open ?_; intro K hK) | ((with_reducible show callK _ _ _ _ _ _ _ _); first  | (refine call_scalar (hg1) (Nat.le_of_ble_eq_true rfl) rfl ?_) | (refine call_scalar (hg2) (Nat.le_of_ble_eq_true rfl) rfl ?_) | (refine call_scalar (hsl) (Nat.le_of_ble_eq_true rfl) rfl ?_))); simp only [evOp, evQ, binK, withS, opd, kput, putS, upd, lookup, argsK, bringIn, bring, Res.list, Res.slot, u_bool, bstrs, bne_self_eq_false, List.getElem?_cons_zero, List.getElem?_cons_succ, List.reverse_cons, List.reverse_nil, List.nil_append, List.cons_append, Nat.reduceEqDiff, Nat.reduceLT, Nat.mul_one, Nat.zero_add, ↓reduceIte, eq_self, true_and, Bool.not_true, Bool.false_eq_true, false_implies, forall_const]) | refine ev_guard rfl rfl rfl ?_ ?_ | ((with_reducible show retQ _ _ _ _); simp only [eq_self]) | (with_reducible refine hK _ ?_; clear hK K) | (with_reducible refine And.intro ?_ ?_) | (with_reducible intro hc; try simp only [Bool.not_false, reduceCtorEq] at hc) | omega)
  all_goals try (exfalso; simp_all; done)
  · unfold HoldR
    have hp : picB u = true := ‹picB u = true›
    have eC := fc hp
    have eL := fl hp
    have eM := fb hp
    have eG := congrArg Prod.fst (fg hp)
    have eK := congrArg Prod.snd (fg hp)
    dsimp only at eC eL eM eG eK
    obtain ⟨q1, q2, q3⟩ := picB_parts hp
    have hge := cpN_ge hp
    have hlp := ltL_pos hp
    have hll := ltL_len (l := u)
    have hbd := bd_ltL hp
    have hco := cpN_one hp
    have hga := gtN_all hp
    have hgp := gtN_pos hp
    have hall := sumK_all hp
    have hsz := Nat.mul_le_mul q1.2 q2.2
    have hgl := gtN_le_all u
    rw [← eM] at hbd
    have eK : K = ((gtN u : Nat) : Int) := eK
    have hLl : lenB L = (ltL u).length := by rw [eL]; exact lt_len u
    have hsk : ∀ k, k < (ltL u).length → sumK u (k + 1) ≤ 256 * (k + 1) := fun k => by
      induction k with
      | zero =>
        intro hk
        have h0 : sumK u 0 = 0 := rfl
        have := cntP_le u (ltAt u 0) u.length
        have h2 := picB_sum hp u.length (Nat.le_refl _)
        rw [sumK_suc hk, h0]; omega
      | succ k ih =>
        intro hk
        have := cntP_le u (ltAt u (k + 1)) u.length
        have h2 := picB_sum hp u.length (Nat.le_refl _)
        have := ih (by omega)
        rw [sumK_suc hk]; omega
    clear fc fl fb fg hg1 hg2 hsl hl1 hl2 hc1 hc2
    have hs0 : sumK u 0 = 0 := rfl
    repeat' (first | ((with_reducible show Ax _ _ _ _ _); ((with_reducible show Ax _ _ _ (Oper.mk _ (Op.range _ _) _ _ _ _) _) ; refine ax_rangeStr rfl u_string rfl ?_ ; intro bI hbI ; simp only [putS, upd, Nat.reduceEqDiff, ↓reduceIte, true_and])) | ((with_reducible show evNx _ _ _ _ _ _); first | (with_reducible refine nx_done ?_) | (refine nx_one rfl ?_) | (refine nx_alt rfl ?_ ?_) | (with_reducible refine nx_st ?_)) | ((with_reducible show evSx _ _ _ _ _ _); first | (with_reducible refine sx_done ?_) | (with_reducible refine sx_st ?_) | (with_reducible refine sx_op ?_)) | ((with_reducible show evTake _ _ _ _ _); with_reducible refine take_nil ?_) | ((with_reducible show evSy _ _ _ _ _ _ _); first | (with_reducible refine sy_done ?_) | (refine sy_last rfl ?_) | (refine sy_one (by decide) rfl ?_) | (refine sy_alt (by decide) rfl ?_ ?_) | (with_reducible refine sy_st ?_)) | ((with_reducible show StK _ _ _); first | fail) | (with_reducible first | refine then_normal ?_ | refine then_ret ?_ | refine then_exit ?_ | refine block_normal ?_ | refine block_ret ?_) | ((with_reducible show blockQ _ _ _ _); first | refine block_exit ?_ | refine block_exit_ne rfl ?_) | ((with_reducible show AWP _ _ _ _ _); first | (refine AWP.region_sx (id := 16) [.op, .op] ?_) | (with_reducible first | refine AWP.seq ?_ | refine AWP.block ?_ | refine AWP.region ?_ | refine AWP.ret ?_ | refine AWP.exit ?_ | refine AWP.skip ?_) | refine AWP.drawn rfl (by kernel_rfl) ?_ | refine AWP.cond rfl ?_ ?_) | with_reducible refine ev_nil ?_ | ((first | ((with_reducible show evNx _ _ _ _ _ _); refine nx_take rfl ?_; intro K hK) | ((with_reducible show Ax _ _ _ _ _); first | (refine ax_op rfl ?_; intro K hK)) | ((with_reducible show evTake _ _ _ _ _); refine take_step rfl ?_; intro K hK) | ((with_reducible show evSy _ _ _ _ _ _ _); refine sy_take rfl ?_; intro K hK) | ((with_reducible show AxB _ _ _ _ _); first | (refine axb_op rfl rfl ?_; intro K hK)) | ((with_reducible show evOps _ _ _ _ _ _); (first | refine ev_step rfl ?_ | refine ev_undef rfl rfl rfl ?_); intro K hK) | ((with_reducible show EvOpen _ _ _ _ _ _ _); refine ev_open ?_; intro K hK) | ((with_reducible show SkOpen _ _ _ _ _ _ _); refine sk_open ?_; intro K hK) | ((with_reducible show callK _ _ _ _ _ _ _ _); first  | fail)); simp only [evOp, evQ, withS, opd, kput, putS, upd, lookup, Nat.reduceEqDiff, Nat.reduceLT, ↓reduceIte, eq_self, true_and]) | refine ev_guard rfl rfl rfl ?_ ?_ | ((with_reducible show retQ _ _ _ _); simp only [eq_self]) | (with_reducible refine hK _ ?_; clear hK K) | (with_reducible refine And.intro ?_ ?_) | (with_reducible intro hc; try simp only [eq_self] at hc) | omega)
    refine AWP.loop_entR [0, 2] (fun k : Nat => ⟨[(1, .one (.pv (bytV n g))), (5, .one (.own 0 1 0 u.length)), (8, .one (.pv (vi C))), (12, .one (.pv (vs L))), (16, .one (.own 1 1 0 M.length)), (21, .one (.pv (vs G))), (22, .one (.pv (vi K))), (24, sc (.int .i64 (sumK u k))), (151, .one (.it bI L k))], [some (bstrs u), some ⟨37, M.length, fun i => ints (rowAt M i)⟩], 305⟩)
      (fun k => k ≤ (ltL u).length) (fun k => (ltL u).length - k) 0 (by omega) ⟨rfl, by decide, by (simp [EntSR, SlR, VE, lookup, sc, VE.rfl', hs0]), BE.rfl' _, BE.rfl' _, trivial⟩ ?_
    intro k hk
    by_cases hkl : k < (ltL u).length
    · have hkl2 : k < lenB L := by omega
      have hm := ltr_bd (ltL_ltr (ltAt_mem hkl))
      have hby : byteI L k < 128 := by rw [eL, ltAt_byte hkl]; omega
      have hsuc := sumK_suc hkl
      have hcnt := ltL_cnt (ltAt_mem hkl)
      have hskk := hsk k hkl
      have hcl := implCountLetter_fn u (ByteArray.mk (List.toArray (((bytesOf L).drop k).take (k + 1 - k)))) (by omega)
      have ect : ByteArray.mk (List.toArray (((bytesOf L).drop k).take (k + 1 - k))) = strOfNums [ltAt u k] := by rw [eL]; exact lt_cut hkl
      have hgs : bytesOf (ByteArray.mk (List.toArray (((bytesOf L).drop k).take (k + 1 - k)))) = bytesOf G → gtN u ≤ cntP u (ltAt u k) u.length := fun e => by
        rw [ect, eG] at e
        exact gt_same hp hkl e
      have hclr : clR u (ByteArray.mk (List.toArray (((bytesOf L).drop k).take (k + 1 - k)))) = (((cntP u (ltAt u k) u.length : Nat) : Int), true) := by rw [ect]; exact clR_lt hp hkl
      rw [hclr] at hcl
      clear ect hclr
      generalize cntP u (ltAt u k) u.length = cn at *
      repeat' (first | ((with_reducible show Ax _ _ _ _ _); ((with_reducible show Ax _ _ _ (Oper.mk _ (Op.next _ _) _ _ _ _) _) ; refine ax_nextStr rfl hbI rfl hkl2 hby ?_ ; simp only [putS, upd, bstrs, swI, swIM, swIV, Nat.reduceEqDiff, ↓reduceIte, eq_self])) | ((with_reducible show evNx _ _ _ _ _ _); first | (with_reducible refine nx_done ?_) | (refine nx_one rfl ?_) | (refine nx_alt rfl ?_ ?_) | (with_reducible refine nx_st ?_)) | ((with_reducible show evSx _ _ _ _ _ _); first | (with_reducible refine sx_done ?_) | (with_reducible refine sx_st ?_) | (with_reducible refine sx_op ?_)) | ((with_reducible show evTake _ _ _ _ _); with_reducible refine take_nil ?_) | ((with_reducible show evSy _ _ _ _ _ _ _); first | (with_reducible refine sy_done ?_) | (refine sy_last rfl ?_) | (refine sy_one (by decide) rfl ?_) | (refine sy_alt (by decide) rfl ?_ ?_) | (with_reducible refine sy_st ?_)) | ((with_reducible show StK _ _ _); first | fail) | (with_reducible first | refine then_normal ?_ | refine then_ret ?_ | refine then_exit ?_ | refine block_normal ?_ | refine block_ret ?_) | ((with_reducible show blockQ _ _ _ _); first | refine block_exit ?_ | refine block_exit_ne rfl ?_) | ((with_reducible show AWP _ _ _ _ _); first | (refine AWP.region_sx (id := 17) [.op, .op] ?_) | (with_reducible first | refine AWP.seq ?_ | refine AWP.block ?_ | refine AWP.region ?_ | refine AWP.ret ?_ | refine AWP.exit ?_ | refine AWP.skip ?_) | refine AWP.drawn rfl (by kernel_rfl) ?_ | refine AWP.cond rfl ?_ ?_) | with_reducible refine ev_nil ?_ | ((first | ((with_reducible show evNx _ _ _ _ _ _); refine nx_take rfl ?_; intro K hK) | ((with_reducible show Ax _ _ _ _ _); first | (refine ax_op rfl ?_; intro K hK)) | ((with_reducible show evTake _ _ _ _ _); refine take_step rfl ?_; intro K hK) | ((with_reducible show evSy _ _ _ _ _ _ _); refine sy_take rfl ?_; intro K hK) | ((with_reducible show AxB _ _ _ _ _); first | (refine axb_op rfl rfl ?_; intro K hK)) | ((with_reducible show evOps _ _ _ _ _ _); (first | refine ev_step rfl ?_ | refine ev_undef rfl rfl rfl ?_); intro K hK) | ((with_reducible show EvOpen _ _ _ _ _ _ _); refine ev_open ?_; intro K hK) | ((with_reducible show SkOpen _ _ _ _ _ _ _); refine sk_open ?_; intro K hK) | ((with_reducible show callK _ _ _ _ _ _ _ _); first  | (refine call_scalar (hcl) (Nat.le_of_ble_eq_true rfl) rfl ?_))); simp only [evOp, evQ, binK, withS, opd, kput, putS, upd, lookup, skipOp, argsK, bringIn, bring, Res.list, Res.slot, InK_i64, cutK, boundK, u_string, lenB_is, toNat_kP, List.getElem?_cons_zero, List.getElem?_cons_succ, List.reverse_cons, List.reverse_nil, List.nil_append, List.cons_append, Nat.reduceEqDiff, Nat.reduceLT, Nat.mul_one, Nat.zero_add, ↓reduceIte, eq_self, true_and, and_true, Bool.not_true, Bool.not_false, Bool.true_eq_false, Bool.false_eq_true, false_implies, forall_const, Int.toNat_natCast]) | refine ev_guard rfl rfl rfl ?_ ?_ | ((with_reducible show retQ _ _ _ _); simp only [retQ, retOk, getL, lookup, Option.map_some, fitsL, fits, ND, srcs, Res.list, VE, Value.bool.injEq, Nat.reduceEqDiff, ↓reduceIte, and_true]) | (with_reducible refine hK _ ?_; clear hK K) | (with_reducible refine And.intro ?_ ?_) | (with_reducible intro hc; try simp only [decide_eq_true_eq, decide_eq_false_iff_not, beq_iff_eq, beq_eq_false_iff_ne, Bool.not_true, Bool.not_false, Int.not_lt, gt_iff_lt, ne_eq, reduceCtorEq, Bool.true_eq_false] at hc) | omega)
      all_goals first
        | (exfalso; omega)
        | (exfalso; have := hgs (by assumption); omega)
        | exact ⟨k + 1, by omega, by omega, [0, 1], rfl, by decide, by (simp [EntSR, SlR, VE, lookup, sc, VE.rfl']; omega), BE.rfl' _, BE.rfl' _, trivial⟩
        | trace_state
    · obtain rfl : k = (ltL u).length := by omega
      have hkl2 : ¬ (ltL u).length < lenB L := by omega
      rw [hall]
      have hfin : ((M.length : Int) == 0) = ((lenB L : Int) == 1) := by
        rw [Bool.eq_iff_iff, beq_iff_eq, beq_iff_eq]
        omega
      repeat' (first | ((with_reducible show Ax _ _ _ _ _); ((with_reducible show Ax _ _ _ (Oper.mk _ (Op.next _ _) _ _ _ _) _) ; refine ax_nextEnd rfl rfl hkl2 ?_ ; simp only [putS, upd, bstrs, Nat.reduceEqDiff, ↓reduceIte])) | ((with_reducible show evNx _ _ _ _ _ _); first | (with_reducible refine nx_done ?_) | (refine nx_one rfl ?_) | (refine nx_alt rfl ?_ ?_) | (with_reducible refine nx_st ?_)) | ((with_reducible show evSx _ _ _ _ _ _); first | (with_reducible refine sx_done ?_) | (with_reducible refine sx_st ?_) | (with_reducible refine sx_op ?_)) | ((with_reducible show evTake _ _ _ _ _); with_reducible refine take_nil ?_) | ((with_reducible show evSy _ _ _ _ _ _ _); first | (with_reducible refine sy_done ?_) | (refine sy_last rfl ?_) | (refine sy_one (by decide) rfl ?_) | (refine sy_alt (by decide) rfl ?_ ?_) | (with_reducible refine sy_st ?_)) | ((with_reducible show StK _ _ _); first | fail) | (with_reducible first | refine then_normal ?_ | refine then_ret ?_ | refine then_exit ?_ | refine block_normal ?_ | refine block_ret ?_) | ((with_reducible show blockQ _ _ _ _); first | refine block_exit ?_ | refine block_exit_ne rfl ?_) | ((with_reducible show AWP _ _ _ _ _); first | (refine AWP.region_sx (id := 17) [.op, .op] ?_) | (with_reducible first | refine AWP.seq ?_ | refine AWP.block ?_ | refine AWP.region ?_ | refine AWP.ret ?_ | refine AWP.exit ?_ | refine AWP.skip ?_) | refine AWP.drawn rfl (by kernel_rfl) ?_ | refine AWP.cond rfl ?_ ?_) | with_reducible refine ev_nil ?_ | ((first | ((with_reducible show evNx _ _ _ _ _ _); refine nx_take rfl ?_; intro K hK) | ((with_reducible show Ax _ _ _ _ _); first | (refine ax_op rfl ?_; intro K hK)) | ((with_reducible show evTake _ _ _ _ _); refine take_step rfl ?_; intro K hK) | ((with_reducible show evSy _ _ _ _ _ _ _); refine sy_take rfl ?_; intro K hK) | ((with_reducible show AxB _ _ _ _ _); first | (refine axb_op rfl rfl ?_; intro K hK)) | ((with_reducible show evOps _ _ _ _ _ _); (first | refine ev_step rfl ?_ | refine ev_undef rfl rfl rfl ?_); intro K hK) | ((with_reducible show EvOpen _ _ _ _ _ _ _); refine ev_open ?_; intro K hK) | ((with_reducible show SkOpen _ _ _ _ _ _ _); refine sk_open ?_; intro K hK) | ((with_reducible show callK _ _ _ _ _ _ _ _); first  | fail)); simp only [evOp, evQ, evB, binK, withS, opd, kput, putS, upd, lookup, skipOp, loadOwn, InK_i64, u_bool, sz_strs, c_string, u_string, sz_rows, lenB_is, List.getElem?_cons_zero, Nat.reduceEqDiff, Nat.reduceLT, Nat.mul_one, Nat.add_zero, ↓reduceIte, eq_self, true_and, and_true, Bool.not_true, Bool.not_false, Bool.true_eq_false, Bool.false_eq_true, false_implies, forall_const, Int.toNat_zero, Option.isSome_some]) | refine ev_guard rfl rfl rfl ?_ ?_ | ((with_reducible show retQ _ _ _ _); simp only [retQ, retOk, getL, lookup, Option.map_some, fitsL, fits, ND, srcs, Res.list, VE, Value.bool.injEq, Nat.reduceEqDiff, ↓reduceIte, and_true]) | (with_reducible refine hK _ ?_; clear hK K) | (with_reducible refine And.intro ?_ ?_) | (with_reducible intro hc; try simp only [decide_eq_true_eq, decide_eq_false_iff_not, beq_iff_eq, beq_eq_false_iff_ne, bne_iff_ne, bne_eq_false_iff_eq, Bool.not_true, Bool.not_false, Int.not_lt, ne_eq, reduceCtorEq, Bool.true_eq_false] at hc) | omega)
      all_goals first
        | (exfalso; omega)
        | exact ⟨(), [], rfl, by decide, ⟨VE.rfl' _, trivial⟩, trivial⟩
        | exact absurd hfin (by assumption)
        | trace_state
  · exact ⟨(), trivial, [], rfl, by decide, ⟨VE.rfl' _, trivial⟩, trivial⟩
  intro _ _
  clear fc fl fb fg hg1 hg2 hsl hl1 hl2 hc1 hc2
  clear hbl hbt hcb hu hu17 hu20 hu40
  repeat' (first | ((with_reducible show evNx _ _ _ _ _ _); first | (with_reducible refine nx_done ?_) | (refine nx_one rfl ?_) | (refine nx_alt rfl ?_ ?_) | (with_reducible refine nx_st ?_)) | ((with_reducible show evSx _ _ _ _ _ _); first | (with_reducible refine sx_done ?_) | (with_reducible refine sx_st ?_) | (with_reducible refine sx_op ?_)) | ((with_reducible show evTake _ _ _ _ _); with_reducible refine take_nil ?_) | ((with_reducible show evSy _ _ _ _ _ _ _); first | (with_reducible refine sy_done ?_) | (refine sy_last rfl ?_) | (refine sy_one (by decide) rfl ?_) | (refine sy_alt (by decide) rfl ?_ ?_) | (with_reducible refine sy_st ?_)) | ((with_reducible show StK _ _ _); first | fail) | (with_reducible first | refine then_normal ?_ | refine then_ret ?_ | refine then_exit ?_ | refine block_normal ?_ | refine block_ret ?_) | ((with_reducible show blockQ _ _ _ _); first | refine block_exit ?_ | refine block_exit_ne rfl ?_) | ((with_reducible show AWP _ _ _ _ _); first | (refine AWP.holdR (id := 26) ?_) | (refine AWP.region_sx (id := 25) [.op, .op, .op, .op, .op, .op, .op] ?_) | (with_reducible first | refine AWP.seq ?_ | refine AWP.block ?_ | refine AWP.region ?_ | refine AWP.ret ?_ | refine AWP.exit ?_ | refine AWP.skip ?_) | refine AWP.drawn rfl (by kernel_rfl) ?_ | refine AWP.cond rfl ?_ ?_) | with_reducible refine ev_nil ?_ | ((first | ((with_reducible show evNx _ _ _ _ _ _); refine nx_take rfl ?_; intro K hK) | ((with_reducible show Ax _ _ _ _ _); first | (refine ax_callE (f := 37) ?_) | (refine ax_op rfl ?_; intro K hK)) | ((with_reducible show evTake _ _ _ _ _); refine take_step rfl ?_; intro K hK) | ((with_reducible show evSy _ _ _ _ _ _ _); refine sy_take rfl ?_; intro K hK) | ((with_reducible show AxB _ _ _ _ _); first | (refine axb_callE (f := 37) ?_) | (refine axb_op rfl rfl ?_; intro K hK)) | (refine ⟨_, drawCountLetter_E hb2, ?_⟩; rintro _ ⟨v, z, ⟨hv, hz⟩, rfl⟩ hn1; simp only [Res.list, NewL, and_true, true_and] at hn1) | ((with_reducible show evOps _ _ _ _ _ _); (first | refine ev_step rfl ?_ | refine ev_undef rfl rfl rfl ?_); intro K hK) | ((with_reducible show EvOpen _ _ _ _ _ _ _); refine ev_open ?_; intro K hK) | ((with_reducible show SkOpen _ _ _ _ _ _ _); refine sk_open ?_; intro K hK) | ((with_reducible show callK _ _ _ _ _ _ _ _); first  | fail)); simp only [callEK, evOp, evQ, withS, opd, kput, putS, upd, lookup, argsK, bringIn, bring, Res.list, Res.slot, bstrs, List.getElem?_cons_zero, List.getElem?_cons_succ, List.reverse_cons, List.reverse_nil, List.nil_append, List.length_nil, Nat.reduceEqDiff, Nat.reduceLT, ↓reduceIte, eq_self, true_and]) | refine ev_guard rfl rfl rfl ?_ ?_ | ((with_reducible show retQ _ _ _ _); simp only [eq_self]) | (with_reducible refine hK _ ?_; clear hK K) | (with_reducible refine And.intro ?_ ?_) | (with_reducible intro hc; try simp only [eq_self] at hc) | omega)
  all_goals try (exfalso; simp_all; done)
  clear hn1
  unfold HoldR
  have hv17 := hv.1
  have hv20 := hv.2
  have hv40 : ∀ i, lenB (stAt v i) ≤ 1099511627776 := fun i => by have := hv20 i; omega
  have hk1 := implCountLetter_fn v z (by omega)
  have hk2 := specCountLetter_fn v z (by omega) hv40 (by omega)
  generalize clR v z = CL at *
  repeat' (first | ((with_reducible show evNx _ _ _ _ _ _); first | (with_reducible refine nx_done ?_) | (refine nx_one rfl ?_) | (refine nx_alt rfl ?_ ?_) | (with_reducible refine nx_st ?_)) | ((with_reducible show evSx _ _ _ _ _ _); first | (with_reducible refine sx_done ?_) | (with_reducible refine sx_st ?_) | (with_reducible refine sx_op ?_)) | ((with_reducible show evTake _ _ _ _ _); with_reducible refine take_nil ?_) | ((with_reducible show evSy _ _ _ _ _ _ _); first | (with_reducible refine sy_done ?_) | (refine sy_last rfl ?_) | (refine sy_one (by decide) rfl ?_) | (refine sy_alt (by decide) rfl ?_ ?_) | (with_reducible refine sy_st ?_)) | ((with_reducible show StK _ _ _); first | fail) | (with_reducible first | refine then_normal ?_ | refine then_ret ?_ | refine then_exit ?_ | refine block_normal ?_ | refine block_ret ?_) | ((with_reducible show blockQ _ _ _ _); first | refine block_exit ?_ | refine block_exit_ne rfl ?_) | ((with_reducible show AWP _ _ _ _ _); first | (refine AWP.holdR (id := 29) ?_) | (refine AWP.region_sx (id := 28) [.op, .op, .op, .op, .op, .op, .op, .op, .op, .op, .op, .op, .op] ?_) | (with_reducible first | refine AWP.seq ?_ | refine AWP.block ?_ | refine AWP.region ?_ | refine AWP.ret ?_ | refine AWP.exit ?_ | refine AWP.skip ?_) | refine AWP.drawn rfl (by kernel_rfl) ?_ | refine AWP.cond rfl ?_ ?_) | with_reducible refine ev_nil ?_ | ((first | ((with_reducible show evNx _ _ _ _ _ _); refine nx_take rfl ?_; intro K hK) | ((with_reducible show Ax _ _ _ _ _); first | (refine ax_callE (f := 39) ?_) | (refine ax_op rfl ?_; intro K hK)) | ((with_reducible show evTake _ _ _ _ _); refine take_step rfl ?_; intro K hK) | ((with_reducible show evSy _ _ _ _ _ _ _); refine sy_take rfl ?_; intro K hK) | ((with_reducible show AxB _ _ _ _ _); first | (refine axb_callE (f := 39) ?_) | (refine axb_op rfl rfl ?_; intro K hK)) | (refine ⟨_, drawCutPicture_E hb2, ?_⟩; rintro _ ⟨c, x, y, w, h, ⟨hcp, hx, hy, hw, hh⟩, rfl⟩ hn2; simp only [Res.list, NewL, and_true, true_and] at hn2) | ((with_reducible show evOps _ _ _ _ _ _); (first | refine ev_step rfl ?_ | refine ev_undef rfl rfl rfl ?_); intro K hK) | ((with_reducible show EvOpen _ _ _ _ _ _ _); refine ev_open ?_; intro K hK) | ((with_reducible show SkOpen _ _ _ _ _ _ _); refine sk_open ?_; intro K hK) | ((with_reducible show callK _ _ _ _ _ _ _ _); first  | (refine call_scalar (hk1) (Nat.le_of_ble_eq_true rfl) rfl ?_) | (refine call_scalar (hk2) (Nat.le_of_ble_eq_true rfl) rfl ?_))); simp only [callEK, evOp, evQ, withS, opd, kput, putS, upd, lookup, argsK, bringIn, bring, Res.list, Res.slot, bstrs, List.getElem?_cons_zero, List.getElem?_cons_succ, List.reverse_cons, List.reverse_nil, List.nil_append, List.cons_append, List.length_cons, List.length_nil, Nat.reduceEqDiff, Nat.reduceLT, Nat.mul_one, Nat.zero_add, ↓reduceIte, eq_self, true_and]) | refine ev_guard rfl rfl rfl ?_ ?_ | ((with_reducible show retQ _ _ _ _); simp only [eq_self]) | (with_reducible refine hK _ ?_; clear hK K) | (with_reducible refine And.intro ?_ ?_) | (with_reducible intro hc; try simp only [eq_self] at hc) | omega)
  all_goals try (exfalso; simp_all; done)
  clear hn2
  unfold HoldR
  have hc17 := hcp.1
  have hc20 := hcp.2
  have hc40 : ∀ i, lenB (stAt c i) ≤ 1099511627776 := fun i => by have := hc20 i; omega
  have hu1 := implCutPicture_fn c x y w h (by omega)
  have hu2 := specCutPicture_fn c x y w h (by omega) hc40
  have hok := cut_ok (l := c) (x := x) (y := y) (w := w) (h := h)
  have hcl : (cutR c x y w h).1.length ≤ 17 := by
    cases hb : (cutR c x y w h).2 with
    | true => have := (hok hb).2; omega
    | false =>
      have : (cutR c x y w h).1 = [] := by
        unfold cutR at hb ⊢
        split
        · rename_i h1; rw [if_pos h1] at hb; cases hb
        · rfl
      rw [this]; simp
  generalize cutR c x y w h = X at *
  have hps := pSame_self X.1 (by omega)
  have hip := implIsPicture_fn X.1 (by omega)
  cases hX : X.2 with
  | false =>
    rw [hX] at hu1 hu2
    repeat' (first | (with_reducible first | refine then_normal ?_ | refine then_ret ?_ | refine then_exit ?_ | refine block_normal ?_ | refine block_ret ?_) | ((with_reducible show blockQ _ _ _ _); first | refine block_exit ?_ | refine block_exit_ne rfl ?_) | ((with_reducible show AWP _ _ _ _ _); first | (with_reducible first | refine AWP.seq ?_ | refine AWP.block ?_ | refine AWP.region ?_ | refine AWP.ret ?_ | refine AWP.exit ?_ | refine AWP.skip ?_) | refine AWP.drawn rfl (by kernel_rfl) ?_ | refine AWP.cond rfl ?_ ?_) | with_reducible refine ev_nil ?_ | ((first | ((with_reducible show evOps _ _ _ _ _ _); (first | refine ev_step rfl ?_ | refine ev_undef rfl rfl rfl ?_); intro K hK) | ((with_reducible show EvOpen _ _ _ _ _ _ _); refine ev_open ?_; intro K hK) | ((with_reducible show SkOpen _ _ _ _ _ _ _); refine sk_open ?_; intro K hK) | ((with_reducible show callK _ _ _ _ _ _ _ _); first  | (refine call_safe ( hu1) (Nat.le_of_ble_eq_true rfl) (by repeat' (first | exact trivial | refine ⟨fun _ _ => ⟨_, rfl⟩, ?_⟩)) ?_) | (refine call_safe ( hu2) (Nat.le_of_ble_eq_true rfl) (by repeat' (first | exact trivial | refine ⟨fun _ _ => ⟨_, rfl⟩, ?_⟩)) ?_) | (refine call_scalar (hps) (Nat.le_of_ble_eq_true rfl) rfl ?_) | (refine call_scalar (hip) (Nat.le_of_ble_eq_true rfl) rfl ?_))); simp only [evOp, evQ, binK, withS, opd, kput, putS, upd, lookup, skipOp, argsK, bringIn, bring, Res.list, Res.slot, u_bool, bstrs, beq_self_eq_true, List.getElem?_cons_zero, List.getElem?_cons_succ, List.reverse_cons, List.reverse_nil, List.nil_append, List.cons_append, List.length_cons, List.length_nil, Nat.reduceEqDiff, Nat.reduceAdd, Nat.reduceLT, Nat.mul_one, Nat.zero_add, ↓reduceIte, eq_self, true_and, and_true, Bool.not_false, Bool.true_eq_false, false_implies, forall_const]) | refine ev_guard rfl rfl rfl ?_ ?_ | ((with_reducible show retQ _ _ _ _); simp only [retQ, retOk, getL, lookup, Option.map_some, fitsL, fits, ND, srcs, Res.list, VE, Nat.reduceEqDiff, ↓reduceIte, and_true]) | (with_reducible refine hK _ ?_; clear hK K) | (with_reducible refine And.intro ?_ ?_) | (with_reducible intro hc; try simp only [Bool.not_true, Bool.not_false, Bool.true_eq_false] at hc) | omega)
    all_goals first
      | (exfalso; omega)
      | (exfalso; simp_all; done)
      | rfl
      | trace_state
  | true =>
    rw [hX] at hu1 hu2
    obtain ⟨k1, k2⟩ := hok hX
    rw [k1] at hip
    repeat' (first | (with_reducible first | refine then_normal ?_ | refine then_ret ?_ | refine then_exit ?_ | refine block_normal ?_ | refine block_ret ?_) | ((with_reducible show blockQ _ _ _ _); first | refine block_exit ?_ | refine block_exit_ne rfl ?_) | ((with_reducible show AWP _ _ _ _ _); first | (with_reducible first | refine AWP.seq ?_ | refine AWP.block ?_ | refine AWP.region ?_ | refine AWP.ret ?_ | refine AWP.exit ?_ | refine AWP.skip ?_) | refine AWP.drawn rfl (by kernel_rfl) ?_ | refine AWP.cond rfl ?_ ?_) | with_reducible refine ev_nil ?_ | ((first | ((with_reducible show evOps _ _ _ _ _ _); (first | refine ev_step rfl ?_ | refine ev_undef rfl rfl rfl ?_); intro K hK) | ((with_reducible show EvOpen _ _ _ _ _ _ _); refine ev_open ?_; intro K hK) | ((with_reducible show SkOpen _ _ _ _ _ _ _); refine sk_open ?_; intro K hK) | ((with_reducible show callK _ _ _ _ _ _ _ _); first  | (refine call_safe ( hu1) (Nat.le_of_ble_eq_true rfl) (by repeat' (first | exact trivial | refine ⟨fun _ _ => ⟨_, rfl⟩, ?_⟩)) ?_) | (refine call_safe ( hu2) (Nat.le_of_ble_eq_true rfl) (by repeat' (first | exact trivial | refine ⟨fun _ _ => ⟨_, rfl⟩, ?_⟩)) ?_) | (refine call_scalar (hps) (Nat.le_of_ble_eq_true rfl) rfl ?_) | (refine call_scalar (hip) (Nat.le_of_ble_eq_true rfl) rfl ?_))); simp only [evOp, evQ, evB, binK, withS, opd, kput, putS, upd, lookup, skipOp, argsK, bringIn, bring, Res.list, Res.slot, u_bool, sz_strs, bstrs, beq_self_eq_true, List.getElem?_cons_zero, List.getElem?_cons_succ, List.reverse_cons, List.reverse_nil, List.nil_append, List.cons_append, List.length_cons, List.length_nil, Nat.reduceEqDiff, Nat.reduceAdd, Nat.reduceLT, Nat.mul_one, Nat.zero_add, ↓reduceIte, eq_self, true_and, and_true, Bool.not_true, Bool.true_eq_false, Bool.false_eq_true, false_implies, forall_const, Option.isSome_some]) | refine ev_guard rfl rfl rfl ?_ ?_ | ((with_reducible show retQ _ _ _ _); simp only [retQ, retOk, getL, lookup, Option.map_some, fitsL, fits, ND, srcs, Res.list, VE, Value.bool.injEq, Nat.reduceEqDiff, ↓reduceIte, and_true]) | (with_reducible refine hK _ ?_; clear hK K) | (with_reducible refine And.intro ?_ ?_) | (with_reducible intro hc; try simp only [beq_iff_eq, beq_eq_false_iff_ne, Bool.not_true, Bool.not_false, ne_eq, reduceCtorEq, Bool.true_eq_false] at hc) | omega)
    all_goals first
      | (exfalso; omega)
      | (exfalso; simp_all; done)
      | rfl
      | trace_state
end Go.Proofs.Yteapdildbfimnaa
