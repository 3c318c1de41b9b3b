/- Parts of the proof of LawFnCatalogues: contracts of functions, laws of an abstract state, plain facts. No conditions. -/
import Derived.Test.YteapdildbfimnaaGreatDoorB10
import Derived.Scope
namespace Go.Proofs.YteapdildbfimnaaGreatDoor
open Go.RowKit Go.Proofs
set_option linter.unusedSimpArgs false
set_option linter.unusedVariables false
set_option maxRecDepth 20000

/-- Lists of lists that are not long. -/
def csOk (M : List (List T3)) : Prop := M.length ≤ 11 ∧ ∀ i, i < M.length → (tsAt M i).length ≤ 21
/-- A drawn catalogue, or a list: in new memory. -/
def someCt : Res → Prop := fun r => ∃ (M : List (List T3)) (Z : Nat → Prop), csOk M ∧ r = .one (.pv (.old Z (termss M)))
theorem someCt.shape (r : Res) (h : someCt r) : r.shape 1 = true := by obtain ⟨M, Z, _, rfl⟩ := h; rfl
/-- Two such. -/
def someCt2 : Res → Prop := fun r => ∃ (A B : List (List T3)) (Z W : Nat → Prop), (csOk A ∧ csOk B) ∧ r = .many [.pv (.old Z (termss A)), .pv (.old W (termss B))]
theorem someCt2.shape (r : Res) (h : someCt2 r) : r.shape 2 = true := by obtain ⟨A, B, Z, W, _, rfl⟩ := h; rfl
/-- And some terms. -/
def someCtT : Res → Prop := fun r => ∃ (M : List (List T3)) (Z : Nat → Prop) (l : List T3), (csOk M ∧ l.length ≤ 21) ∧ r = .many [.pv (.old Z (termss M)), .fr 3 l.length (bterms l)]
theorem someCtT.shape (r : Res) (h : someCtT r) : r.shape 2 = true := by obtain ⟨A, Z, l, _, rfl⟩ := h; rfl

theorem co_csOk {L : List (List T3)} : csOk (coR L).1 := ⟨by have := (co_small L).1; omega, fun i _ => by have := (co_small L).2 i; omega⟩
theorem rowsF_bare {L : List (List T3)} {U : Nat → Value} {W : Nat → Nat → Prop} {u : Value} {Z : Nat → Prop} : Bare (.row u Z 1 L.length (rowsF L U W)) (termss L) :=
  ⟨rfl, rfl, fun i hi => isT.bare ⟨U i, W i, rfl⟩⟩

theorem retC_pv {t N b k' : Nat} {Z : Nat → Prop} {c : V} {R : Res → Prop} {s : ASt} {v : V} (hl : lookup s.σ t = some (.one (.pv v))) {j : Nat} (hc : lookup s.σ 0 = some (.one (.pv (.cur b j Z c)))) (hj : j ≤ k') (hR : R (.one (.pv v))) (hn : NewV (fun Z => ∀ j, Z j → N ≤ j) v) : retC [t] N R b k' Z c .ret s :=
  ⟨⟨j, hc, hj⟩, _, hR, ⟨hn, trivial⟩, by unfold retOk; simp only [getL, hl, Option.map_some, Res.list, fitsL, fits, srcs, ND, and_true, true_and]; exact VE.rfl' _⟩
theorem disj_ge {N b : Nat} {Z : Nat → Prop} (h : ∀ j, Z j → N ≤ j) (hb : b < N) : Disj Z (isB b) := fun j h1 h2 => by
  have := h j h1
  have h2 : j = b := h2
  omega

section
variable {b m : Nat} {Z : Nat → Prop} {g : Nat → Int}
set_option maxHeartbeats 4000000 in
theorem catalogue_fn (k : Nat) (hk : k ≤ 549755790000) (hb : BytOk m g) : FnC Tryz.prog 34 b k (k + 5100) Z (bytV m g) [] someCt := by
  refine FnC.of_body Tryz.call34 Tryz.func34 rfl Tryz.ntmps34 (ts := [2]) rfl (by simp) (someCt.shape) (fun N cx hcx hbN => ?_)
  repeat' (first | ((with_reducible show evNx _ _ _ _ _ _); first | (with_reducible refine nx_done ?_) | (refine nx_one rfl ?_) | (refine nx_alt rfl ?_ ?_) | (with_reducible refine nx_st ?_)) | ((with_reducible show evSx _ _ _ _ _ _); first | (with_reducible refine sx_done ?_) | (with_reducible refine sx_st ?_) | (with_reducible refine sx_op ?_)) | ((with_reducible show evTake _ _ _ _ _); with_reducible refine take_nil ?_) | ((with_reducible show evSy _ _ _ _ _ _ _); first | (with_reducible refine sy_done ?_) | (refine sy_last rfl ?_) | (refine sy_one (by decide) rfl ?_) | (refine sy_alt (by decide) rfl ?_ ?_) | (with_reducible refine sy_st ?_)) | ((with_reducible show StK _ _ _); first | fail) | (with_reducible first | refine then_normal ?_ | refine then_ret ?_ | refine then_exit ?_ | refine block_normal ?_ | refine block_ret ?_) | ((with_reducible show blockQ _ _ _ _); first | refine block_exit ?_ | refine block_exit_ne rfl ?_) | ((with_reducible show AWP _ _ _ _ _); first | (refine AWP.holdW (id := 2) ?_) | (refine AWP.region_sx (id := 1) [.op, .op, .op] ?_) | (with_reducible first | refine AWP.seq ?_ | refine AWP.block ?_ | refine AWP.region ?_ | refine AWP.ret ?_ | refine AWP.exit ?_ | refine AWP.skip ?_) | refine AWP.drawn rfl (by kernel_rfl) ?_ | refine AWP.cond rfl ?_ ?_) | with_reducible refine ev_nil ?_ | ((first | ((with_reducible show evNx _ _ _ _ _ _); refine nx_take rfl ?_; intro K hK) | ((with_reducible show Ax _ _ _ _ _); first | ((first | refine ax_callC (f := 21) ?_); refine callC_go (x := _) (xs := _) rfl rfl rfl (by first | exact .inl (by rw [hcx]; exact rfl) | exact .inr (by assumption)) (by (try simp only [okS, okSl, okH, eq_self, true_and, and_true, and_self]); repeat' (first | exact trivial | exact rfl | exact disj_cut | exact disj_lt (by assumption) | assumption | omega | refine And.intro ?_ ?_ | (intro i hi; first | exact trivial | (split <;> first | exact trivial | exact disj_lt (by assumption) | exact disj_cut) | (repeat' split) <;> exact trivial))) (by (try simp only [okS, okSl, okH, eq_self, true_and, and_true, and_self]); repeat' (first | exact trivial | exact rfl | exact disj_cut | exact disj_lt (by assumption) | assumption | omega | refine And.intro ?_ ?_ | (intro i hi; first | exact trivial | (split <;> first | exact trivial | exact disj_lt (by assumption) | exact disj_cut) | (repeat' split) <;> exact trivial))) (fun K1 hK1 => by simp only [argsC, opd, lookup, Nat.zero_add, Nat.reduceEqDiff, ↓reduceIte, List.getElem?_cons_zero, List.getElem?_cons_succ, List.reverse_cons, List.reverse_nil, List.nil_append, List.cons_append]; repeat' (first | exact hK1 | exact trivial | exact disj_cut | assumption | omega | refine And.intro ?_ ?_)) ?_; first | (refine ⟨_, _, planes_fn _ (by omega) hb, ?_⟩; rintro _ ⟨L, U, W, ⟨hp, hd⟩, rfl⟩ hn1; simp only [Res.list, NewL, and_true, true_and] at hn1)) | (refine ax_op rfl ?_; intro K hK)) | ((with_reducible show evTake _ _ _ _ _); refine take_step rfl ?_; intro K hK) | ((with_reducible show evSy _ _ _ _ _ _ _); refine sy_take rfl ?_; intro K hK) | ((with_reducible show AxB _ _ _ _ _); first | (refine axb_op rfl rfl ?_; intro K hK)) | ((with_reducible show evOps _ _ _ _ _ _); (first | refine ev_step rfl ?_ | refine ev_undef rfl rfl rfl ?_); intro K hK) | ((with_reducible show EvOpen _ _ _ _ _ _ _); refine ev_open ?_; intro K hK) | ((with_reducible show SkOpen _ _ _ _ _ _ _); refine sk_open ?_; intro K hK) | ((with_reducible show callK _ _ _ _ _ _ _ _); first  | fail)); simp only [evOp, evQ, withS, opd, kput, putS, upd, lookup, bringIn, bring, Res.list, Res.slot, slotsOf, swpS, swSl, List.map_nil, List.nil_append, List.length_nil, Nat.reduceEqDiff, Nat.reduceLT, Nat.zero_add, ↓reduceIte, eq_self, true_and]) | refine ev_guard rfl rfl rfl ?_ ?_ | ((with_reducible show retQ _ _ _ _); simp only [eq_self]) | (with_reducible refine hK _ ?_; clear hK K) | (with_reducible refine And.intro ?_ ?_) | (with_reducible intro hc; try simp only [eq_self] at hc) | omega)
  unfold HoldW
  have hp1 := hp.1
  have hps := hp.2
  have hW : ∀ i, i < L.length → ∀ j, W i j → N ≤ j := fun i hi j hj => ((hn1 i hi).1.1 j hj).1
  clear hn1
  refine AWP.letRow 3 ⟨0, 1, L.length, _, rfl, rfl, by simp, fun u3 Z3 hZ3 hD3 => ?_⟩
  clear hD3
  have hL : csOk L := ⟨by omega, hps⟩
  have hM := co_csOk (L := L)
  refine AWP.oldZ 3 rfl ⟨hZ3, fun i hi => ⟨hW i (by omega), fun q hq => trivial⟩⟩ rowsF_bare fun Z4 hZ4 => ?_
  have hd4 : Disj Z4 (isB b) := disj_ge hZ4 hbN
  have hco := (specCatOf_fn L (by omega) (fun i hi => by have := hps i hi; omega)).bare (vs' := [.old Z4 (termss L)]) ⟨VE.rfl' (termss L), trivial⟩
  cases hok : (coR L).2 with
  | true =>
    have e : resV (coR L) = termss (coR L).1 := by unfold resV; rw [hok]; rfl
    rw [e, hok] at hco
    generalize (coR L).1 = M at hco hM
    repeat' (first | ((with_reducible show Ax _ _ _ _ _); (refine ax_callZ (f := 6) (callZ_go rfl hZ4 hco rfl fun Zw hZw => ?_) ; have hdw : Disj Zw (isB b) := disj_ge hZw hbN ; simp only [upd, bringIn, bring, Res.list, Res.slot, Nat.reduceEqDiff, ↓reduceIte])) | ((with_reducible show evNx _ _ _ _ _ _); first | (with_reducible refine nx_done ?_) | (refine nx_one rfl ?_) | (refine nx_alt rfl ?_ ?_) | (with_reducible refine nx_st ?_)) | ((with_reducible show evGx _ _ _ _ _ _); first | (with_reducible refine gx_nil ?_) | (refine gx_step rfl ?_) | (refine gx_undef rfl rfl rfl ?_) | (refine gx_guard rfl rfl rfl ?_ ?_)) | ((with_reducible show evSx _ _ _ _ _ _); first | (with_reducible refine sx_done ?_) | (with_reducible refine sx_st ?_) | (with_reducible refine sx_op ?_)) | ((with_reducible show evTake _ _ _ _ _); with_reducible refine take_nil ?_) | ((with_reducible show evSy _ _ _ _ _ _ _); first | (with_reducible refine sy_done ?_) | (refine sy_last rfl ?_) | (refine sy_one (by decide) rfl ?_) | (refine sy_alt (by decide) rfl ?_ ?_) | (with_reducible refine sy_st ?_)) | ((with_reducible show StK _ _ _); first | fail) | (with_reducible first | refine then_normal ?_ | refine then_ret ?_ | refine then_exit ?_ | refine block_normal ?_ | refine block_ret ?_) | ((with_reducible show blockQ _ _ _ _); first | refine block_exit ?_ | refine block_exit_ne rfl ?_) | ((with_reducible show AWP _ _ _ _ _); first | (refine AWP.region_sx (id := 2) [.op, .op, .op, .op, .op, .op, .op] ?_) | (refine AWP.region_gx (id := 3) ?_) | (with_reducible first | refine AWP.seq ?_ | refine AWP.block ?_ | refine AWP.region ?_ | refine AWP.ret ?_ | refine AWP.exit ?_ | refine AWP.skip ?_) | refine AWP.drawn rfl (by kernel_rfl) ?_ | refine AWP.cond rfl ?_ ?_) | with_reducible refine ev_nil ?_ | ((first | ((with_reducible show skipOp _ _ _); refine sk_put rfl rfl ?_) | ((with_reducible show OpA _ _ _ _ _); first | ((first | refine axg_callC (f := 42) ?_); refine callC_go (x := _) (xs := _) rfl rfl rfl (by first | exact .inl (by rw [hcx]; exact rfl) | exact .inr (by assumption)) (by (try simp only [okS, okSl, okH, eq_self, true_and, and_true, and_self]); repeat' (first | exact trivial | exact rfl | exact disj_cut | exact disj_lt (by assumption) | assumption | omega | refine And.intro ?_ ?_ | (intro i hi; first | exact trivial | (split <;> first | exact trivial | exact disj_lt (by assumption) | exact disj_cut) | (repeat' split) <;> exact trivial))) (by (try simp only [okS, okSl, okH, eq_self, true_and, and_true, and_self]); repeat' (first | exact trivial | exact rfl | exact disj_cut | exact disj_lt (by assumption) | assumption | omega | refine And.intro ?_ ?_ | (intro i hi; first | exact trivial | (split <;> first | exact trivial | exact disj_lt (by assumption) | exact disj_cut) | (repeat' split) <;> exact trivial))) (fun K1 hK1 => by simp only [argsC, opd, lookup, Nat.zero_add, Nat.reduceEqDiff, ↓reduceIte, List.getElem?_cons_zero, List.getElem?_cons_succ, List.reverse_cons, List.reverse_nil, List.nil_append, List.cons_append]; repeat' (first | exact hK1 | exact trivial | exact disj_cut | assumption | omega | refine And.intro ?_ ?_)) ?_; first | (refine ⟨_, _, one_fn _ _ (by omega) hb, ?_⟩; rintro _ ⟨y, rfl⟩ hnewZ; clear hnewZ)) | (refine axg_op ?_; intro K hK)) | ((with_reducible show evNx _ _ _ _ _ _); refine nx_take rfl ?_; intro K hK) | ((with_reducible show Ax _ _ _ _ _); first | ((first | refine ax_callC (f := 42) ?_); refine callC_go (x := _) (xs := _) rfl rfl rfl (by first | exact .inl (by rw [hcx]; exact rfl) | exact .inr (by assumption)) (by (try simp only [okS, okSl, okH, eq_self, true_and, and_true, and_self]); repeat' (first | exact trivial | exact rfl | exact disj_cut | exact disj_lt (by assumption) | assumption | omega | refine And.intro ?_ ?_ | (intro i hi; first | exact trivial | (split <;> first | exact trivial | exact disj_lt (by assumption) | exact disj_cut) | (repeat' split) <;> exact trivial))) (by (try simp only [okS, okSl, okH, eq_self, true_and, and_true, and_self]); repeat' (first | exact trivial | exact rfl | exact disj_cut | exact disj_lt (by assumption) | assumption | omega | refine And.intro ?_ ?_ | (intro i hi; first | exact trivial | (split <;> first | exact trivial | exact disj_lt (by assumption) | exact disj_cut) | (repeat' split) <;> exact trivial))) (fun K1 hK1 => by simp only [argsC, opd, lookup, Nat.zero_add, Nat.reduceEqDiff, ↓reduceIte, List.getElem?_cons_zero, List.getElem?_cons_succ, List.reverse_cons, List.reverse_nil, List.nil_append, List.cons_append]; repeat' (first | exact hK1 | exact trivial | exact disj_cut | assumption | omega | refine And.intro ?_ ?_)) ?_; first | (refine ⟨_, _, one_fn _ _ (by omega) hb, ?_⟩; rintro _ ⟨y, rfl⟩ hnewZ; clear hnewZ)) | (refine ax_op rfl ?_; intro K hK)) | ((with_reducible show evTake _ _ _ _ _); refine take_step rfl ?_; intro K hK) | ((with_reducible show evSy _ _ _ _ _ _ _); refine sy_take rfl ?_; intro K hK) | ((with_reducible show AxB _ _ _ _ _); first | (refine axb_op rfl rfl ?_; intro K hK)) | ((with_reducible show evOps _ _ _ _ _ _); (first | refine ev_step rfl ?_ | refine ev_undef rfl rfl rfl ?_); intro K hK) | ((with_reducible show EvOpen _ _ _ _ _ _ _); refine ev_open ?_; intro K hK) | ((with_reducible show SkOpen _ _ _ _ _ _ _); refine sk_open ?_; intro K hK) | ((with_reducible show callK _ _ _ _ _ _ _ _); first  | fail)); simp only [evOp, evQ, withS, opd, kput, putS, upd, lookup, bringIn, bring, Res.list, Res.slot, List.set_cons_zero, swpS, swSl, List.getElem?_cons_zero, List.getElem?_cons_succ, Nat.reduceEqDiff, Nat.reduceLT, ↓reduceIte, eq_self, true_and, and_true, Bool.true_eq_false, false_implies, forall_const]) | refine ev_guard rfl rfl rfl ?_ ?_ | ((with_reducible show retQ _ _ _ _); simp only [eq_self]) | (with_reducible refine hK _ ?_; clear hK K) | (with_reducible refine And.intro ?_ ?_) | (with_reducible intro hc; try simp only [Bool.not_eq_true', Bool.not_eq_false', Bool.not_true, Bool.true_eq_false] at hc) | omega)
    all_goals first
      | exact retC_pv rfl rfl (by omega) ⟨M, Zw, hM, rfl⟩ hZw
      | exact retC_pv rfl rfl (by omega) ⟨L, Z4, hL, rfl⟩ hZ4
      | trace_state
  | false =>
    have e : resV (coR L) = .val (.slice none 0 0) := by unfold resV; rw [hok]; rfl
    rw [e, hok] at hco
    repeat' (first | ((with_reducible show Ax _ _ _ _ _); (refine ax_callZ (f := 6) (callZ_go rfl hZ4 hco rfl fun Zw hZw => ?_) ; have hdw : Disj Zw (isB b) := disj_ge hZw hbN ; simp only [upd, bringIn, bring, Res.list, Res.slot, Nat.reduceEqDiff, ↓reduceIte])) | ((with_reducible show evNx _ _ _ _ _ _); first | (with_reducible refine nx_done ?_) | (refine nx_one rfl ?_) | (refine nx_alt rfl ?_ ?_) | (with_reducible refine nx_st ?_)) | ((with_reducible show evGx _ _ _ _ _ _); first | (with_reducible refine gx_nil ?_) | (refine gx_step rfl ?_) | (refine gx_undef rfl rfl rfl ?_) | (refine gx_guard rfl rfl rfl ?_ ?_)) | ((with_reducible show evSx _ _ _ _ _ _); first | (with_reducible refine sx_done ?_) | (with_reducible refine sx_st ?_) | (with_reducible refine sx_op ?_)) | ((with_reducible show evTake _ _ _ _ _); with_reducible refine take_nil ?_) | ((with_reducible show evSy _ _ _ _ _ _ _); first | (with_reducible refine sy_done ?_) | (refine sy_last rfl ?_) | (refine sy_one (by decide) rfl ?_) | (refine sy_alt (by decide) rfl ?_ ?_) | (with_reducible refine sy_st ?_)) | ((with_reducible show StK _ _ _); first | fail) | (with_reducible first | refine then_normal ?_ | refine then_ret ?_ | refine then_exit ?_ | refine block_normal ?_ | refine block_ret ?_) | ((with_reducible show blockQ _ _ _ _); first | refine block_exit ?_ | refine block_exit_ne rfl ?_) | ((with_reducible show AWP _ _ _ _ _); first | (refine AWP.region_sx (id := 2) [.op, .op, .op, .op, .op, .op, .op] ?_) | (refine AWP.region_gx (id := 3) ?_) | (with_reducible first | refine AWP.seq ?_ | refine AWP.block ?_ | refine AWP.region ?_ | refine AWP.ret ?_ | refine AWP.exit ?_ | refine AWP.skip ?_) | refine AWP.drawn rfl (by kernel_rfl) ?_ | refine AWP.cond rfl ?_ ?_) | with_reducible refine ev_nil ?_ | ((first | ((with_reducible show skipOp _ _ _); refine sk_put rfl rfl ?_) | ((with_reducible show OpA _ _ _ _ _); first | ((first | refine axg_callC (f := 42) ?_); refine callC_go (x := _) (xs := _) rfl rfl rfl (by first | exact .inl (by rw [hcx]; exact rfl) | exact .inr (by assumption)) (by (try simp only [okS, okSl, okH, eq_self, true_and, and_true, and_self]); repeat' (first | exact trivial | exact rfl | exact disj_cut | exact disj_lt (by assumption) | assumption | omega | refine And.intro ?_ ?_ | (intro i hi; first | exact trivial | (split <;> first | exact trivial | exact disj_lt (by assumption) | exact disj_cut) | (repeat' split) <;> exact trivial))) (by (try simp only [okS, okSl, okH, eq_self, true_and, and_true, and_self]); repeat' (first | exact trivial | exact rfl | exact disj_cut | exact disj_lt (by assumption) | assumption | omega | refine And.intro ?_ ?_ | (intro i hi; first | exact trivial | (split <;> first | exact trivial | exact disj_lt (by assumption) | exact disj_cut) | (repeat' split) <;> exact trivial))) (fun K1 hK1 => by simp only [argsC, opd, lookup, Nat.zero_add, Nat.reduceEqDiff, ↓reduceIte, List.getElem?_cons_zero, List.getElem?_cons_succ, List.reverse_cons, List.reverse_nil, List.nil_append, List.cons_append]; repeat' (first | exact hK1 | exact trivial | exact disj_cut | assumption | omega | refine And.intro ?_ ?_)) ?_; first | (refine ⟨_, _, one_fn _ _ (by omega) hb, ?_⟩; rintro _ ⟨y, rfl⟩ hnewZ; clear hnewZ)) | (refine axg_op ?_; intro K hK)) | ((with_reducible show evNx _ _ _ _ _ _); refine nx_take rfl ?_; intro K hK) | ((with_reducible show Ax _ _ _ _ _); first | ((first | refine ax_callC (f := 42) ?_); refine callC_go (x := _) (xs := _) rfl rfl rfl (by first | exact .inl (by rw [hcx]; exact rfl) | exact .inr (by assumption)) (by (try simp only [okS, okSl, okH, eq_self, true_and, and_true, and_self]); repeat' (first | exact trivial | exact rfl | exact disj_cut | exact disj_lt (by assumption) | assumption | omega | refine And.intro ?_ ?_ | (intro i hi; first | exact trivial | (split <;> first | exact trivial | exact disj_lt (by assumption) | exact disj_cut) | (repeat' split) <;> exact trivial))) (by (try simp only [okS, okSl, okH, eq_self, true_and, and_true, and_self]); repeat' (first | exact trivial | exact rfl | exact disj_cut | exact disj_lt (by assumption) | assumption | omega | refine And.intro ?_ ?_ | (intro i hi; first | exact trivial | (split <;> first | exact trivial | exact disj_lt (by assumption) | exact disj_cut) | (repeat' split) <;> exact trivial))) (fun K1 hK1 => by simp only [argsC, opd, lookup, Nat.zero_add, Nat.reduceEqDiff, ↓reduceIte, List.getElem?_cons_zero, List.getElem?_cons_succ, List.reverse_cons, List.reverse_nil, List.nil_append, List.cons_append]; repeat' (first | exact hK1 | exact trivial | exact disj_cut | assumption | omega | refine And.intro ?_ ?_)) ?_; first | (refine ⟨_, _, one_fn _ _ (by omega) hb, ?_⟩; rintro _ ⟨y, rfl⟩ hnewZ; clear hnewZ)) | (refine ax_op rfl ?_; intro K hK)) | ((with_reducible show evTake _ _ _ _ _); refine take_step rfl ?_; intro K hK) | ((with_reducible show evSy _ _ _ _ _ _ _); refine sy_take rfl ?_; intro K hK) | ((with_reducible show AxB _ _ _ _ _); first | (refine axb_op rfl rfl ?_; intro K hK)) | ((with_reducible show evOps _ _ _ _ _ _); (first | refine ev_step rfl ?_ | refine ev_undef rfl rfl rfl ?_); intro K hK) | ((with_reducible show EvOpen _ _ _ _ _ _ _); refine ev_open ?_; intro K hK) | ((with_reducible show SkOpen _ _ _ _ _ _ _); refine sk_open ?_; intro K hK) | ((with_reducible show callK _ _ _ _ _ _ _ _); first  | fail)); simp only [evOp, evQ, withS, opd, kput, putS, upd, lookup, List.set_cons_zero, List.getElem?_cons_zero, List.getElem?_cons_succ, Nat.reduceEqDiff, Nat.reduceLT, ↓reduceIte, eq_self, true_and, Bool.not_true, Bool.false_eq_true, false_implies, forall_const]) | refine ev_guard rfl rfl rfl ?_ ?_ | ((with_reducible show retQ _ _ _ _); simp only [eq_self]) | (with_reducible refine hK _ ?_; clear hK K) | (with_reducible refine And.intro ?_ ?_) | (with_reducible intro hc; try simp only [Bool.not_true, reduceCtorEq] at hc) | omega)
    all_goals first
      | exact retC_pv rfl rfl (by omega) ⟨L, Z4, hL, rfl⟩ hZ4
      | trace_state
theorem retE_pv {t N : Nat} {R : Res → Prop} {s : ASt} {v : V} (hl : lookup s.σ t = some (.one (.pv v))) (hR : R (.one (.pv v))) (hn : NewV (fun Z => ∀ j, Z j → N ≤ j) v) : retE [t] N R .ret s :=
  ⟨_, hR, ⟨hn, trivial⟩, by unfold retOk; simp only [getL, hl, Option.map_some, Res.list, fitsL, fits, srcs, ND, and_true, true_and]; exact VE.rfl' _⟩
theorem retE_pv2 {t t' N : Nat} {R : Res → Prop} {s : ASt} {v v' : V} (hl : lookup s.σ t = some (.one (.pv v))) (hl' : lookup s.σ t' = some (.one (.pv v'))) (hR : R (.many [.pv v, .pv v'])) (hn : NewV (fun Z => ∀ j, Z j → N ≤ j) v) (hn' : NewV (fun Z => ∀ j, Z j → N ≤ j) v') : retE [t, t'] N R .ret s :=
  ⟨_, hR, ⟨hn, hn', trivial⟩, by unfold retOk; simp only [getL, hl, hl', Option.map_some, Res.list, fitsL, fits, srcs, ND, and_true, true_and]; exact ⟨VE.rfl' _, VE.rfl' _⟩⟩
theorem retE_pvT {t t' N id n : Nat} {R : Res → Prop} {s : ASt} {v : V} {l : List T3} {blk : Blk} (hl : lookup s.σ t = some (.one (.pv v))) (hl' : lookup s.σ t' = some (.one (.own id 3 0 n))) (hb : s.h[id]? = some (some blk)) (hn : n = l.length) (hbe : BE blk (bterms l)) (hR : R (.many [.pv v, .fr 3 l.length (bterms l)])) (hv : NewV (fun Z => ∀ j, Z j → N ≤ j) v) : retE [t, t'] N R .ret s := by
  subst hn
  refine ⟨_, hR, ⟨hv, fun i hi => trivial, trivial⟩, ?_⟩
  unfold retOk
  simp only [getL, hl, hl', Option.map_some, Res.list, fitsL, fits, srcs, ND, and_true, true_and]
  exact ⟨⟨VE.rfl' _, _, hb, hbe⟩, by simp⟩
end
section
variable {m : Nat} {g : Nat → Int}
set_option maxHeartbeats 2000000 in
theorem drawIsCatalogue_E (hb : BytOk m g) : FnE Tryz.prog 15 [bytV m g] someCt := by
  refine FnE.of_body (fun N => [.old (fun b => b < N) (bytV m g)]) (fun _ us h => oldL_rd _ us h) Tryz.call15 Tryz.func15 rfl Tryz.ntmps15 (ts := [2]) rfl (fun _ => by simp) (someCt.shape) (fun N => ?_)
  repeat' (first | ((with_reducible show evNx _ _ _ _ _ _); first | (with_reducible refine nx_done ?_) | (refine nx_one rfl ?_) | (refine nx_alt rfl ?_ ?_) | (with_reducible refine nx_st ?_)) | ((with_reducible show evSx _ _ _ _ _ _); first | (with_reducible refine sx_done ?_) | (with_reducible refine sx_st ?_) | (with_reducible refine sx_op ?_)) | ((with_reducible show evTake _ _ _ _ _); with_reducible refine take_nil ?_) | ((with_reducible show evSy _ _ _ _ _ _ _); first | (with_reducible refine sy_done ?_) | (refine sy_last rfl ?_) | (refine sy_one (by decide) rfl ?_) | (refine sy_alt (by decide) rfl ?_ ?_) | (with_reducible refine sy_st ?_)) | ((with_reducible show StK _ _ _); first | fail) | (with_reducible first | refine then_normal ?_ | refine then_ret ?_ | refine then_exit ?_ | refine block_normal ?_ | refine block_ret ?_) | ((with_reducible show blockQ _ _ _ _); first | refine block_exit ?_ | refine block_exit_ne rfl ?_) | ((with_reducible show AWP _ _ _ _ _); first | (refine AWP.letCur_rg (id := 2) 3 rfl rfl rfl rfl rfl rfl (fun _ h => h) ?_ ; intro b hbN ; simp only [upd, List.set_cons_zero, Nat.reduceEqDiff, ↓reduceIte, eq_self]) | (refine AWP.region_sx (id := 2) [.op, .op, .op] ?_) | (with_reducible first | refine AWP.seq ?_ | refine AWP.block ?_ | refine AWP.region ?_ | refine AWP.ret ?_ | refine AWP.exit ?_ | refine AWP.skip ?_) | refine AWP.drawn rfl (by kernel_rfl) ?_ | refine AWP.cond rfl ?_ ?_) | with_reducible refine ev_nil ?_ | ((first | ((with_reducible show evNx _ _ _ _ _ _); refine nx_take rfl ?_; intro K hK) | ((with_reducible show Ax _ _ _ _ _); first | ((first | refine ax_callC (f := 34) ?_); refine callC_go (x := _) (xs := _) rfl rfl rfl (by first | exact .inl (by rw [hcx]; exact rfl) | exact .inr (by assumption)) (by (try simp only [okS, okSl, okH, eq_self, true_and, and_true, and_self]); repeat' (first | exact trivial | exact rfl | exact disj_cut | exact disj_lt (by assumption) | assumption | omega | refine And.intro ?_ ?_ | (intro i hi; first | exact trivial | (split <;> first | exact trivial | exact disj_lt (by assumption) | exact disj_cut) | (repeat' split) <;> exact trivial))) (by (try simp only [okS, okSl, okH, eq_self, true_and, and_true, and_self]); repeat' (first | exact trivial | exact rfl | exact disj_cut | exact disj_lt (by assumption) | assumption | omega | refine And.intro ?_ ?_ | (intro i hi; first | exact trivial | (split <;> first | exact trivial | exact disj_lt (by assumption) | exact disj_cut) | (repeat' split) <;> exact trivial))) (fun K1 hK1 => by simp only [argsC, opd, lookup, Nat.zero_add, Nat.reduceEqDiff, ↓reduceIte, List.getElem?_cons_zero, List.getElem?_cons_succ, List.reverse_cons, List.reverse_nil, List.nil_append, List.cons_append]; repeat' (first | exact hK1 | exact trivial | exact disj_cut | assumption | omega | refine And.intro ?_ ?_)) ?_; first | (refine ⟨_, _, catalogue_fn _ (by omega) hb, ?_⟩; rintro _ ⟨M, Z, hM, rfl⟩ hn1; simp only [Res.list, NewL, and_true, true_and] at hn1)) | (refine ax_op rfl ?_; intro K hK)) | ((with_reducible show evTake _ _ _ _ _); refine take_step rfl ?_; intro K hK) | ((with_reducible show evSy _ _ _ _ _ _ _); refine sy_take rfl ?_; intro K hK) | ((with_reducible show AxB _ _ _ _ _); first | (refine axb_op rfl rfl ?_; intro K hK)) | ((with_reducible show evOps _ _ _ _ _ _); (first | refine ev_step rfl ?_ | refine ev_undef rfl rfl rfl ?_); intro K hK) | ((with_reducible show EvOpen _ _ _ _ _ _ _); refine ev_open ?_; intro K hK) | ((with_reducible show SkOpen _ _ _ _ _ _ _); refine sk_open ?_; intro K hK) | ((with_reducible show callK _ _ _ _ _ _ _ _); first  | fail)); simp only [evOp, evQ, withS, opd, kput, putS, upd, lookup, bringIn, bring, Res.list, Res.slot, slotsOf, frz, newBlk, boxV, buildK, partsK, V.one, swpS, swSl, z_cur, pl_cur, fc_0, List.nil_append, List.length_cons, List.length_nil, Nat.reduceEqDiff, Nat.reduceAdd, Nat.reduceLT, Nat.zero_add, ↓reduceIte, eq_self, true_and, Option.isSome_some]) | refine ev_guard rfl rfl rfl ?_ ?_ | ((with_reducible show retQ _ _ _ _); simp only [eq_self]) | (with_reducible refine hK _ ?_; clear hK K) | (with_reducible refine And.intro ?_ ?_) | (with_reducible intro hc; try simp only [eq_self] at hc) | omega)
  exact retE_pv rfl ⟨M, Z, hM, rfl⟩ fun j hj => (hn1.1 j hj).1
set_option maxHeartbeats 2000000 in
theorem drawMerge_E (hb : BytOk m g) : FnE Tryz.prog 12 [bytV m g] someCt2 := by
  refine FnE.of_body (fun N => [.old (fun b => b < N) (bytV m g)]) (fun _ us h => oldL_rd _ us h) Tryz.call12 Tryz.func12 rfl Tryz.ntmps12 (ts := [2, 3]) rfl (fun _ => by simp) (someCt2.shape) (fun N => ?_)
  repeat' (first | (with_reducible first | refine then_normal ?_ | refine then_ret ?_ | refine then_exit ?_ | refine block_normal ?_ | refine block_ret ?_) | ((with_reducible show blockQ _ _ _ _); first | refine block_exit ?_ | refine block_exit_ne rfl ?_) | ((with_reducible show AWP _ _ _ _ _); first | (refine AWP.holdW (id := 2) ?_) | (with_reducible first | refine AWP.seq ?_ | refine AWP.block ?_ | refine AWP.region ?_ | refine AWP.ret ?_ | refine AWP.exit ?_ | refine AWP.skip ?_) | refine AWP.drawn rfl (by kernel_rfl) ?_ | refine AWP.cond rfl ?_ ?_) | with_reducible refine ev_nil ?_ | ((first | ((with_reducible show evOps _ _ _ _ _ _); (first | refine ev_step rfl ?_ | refine ev_undef rfl rfl rfl ?_); intro K hK) | ((with_reducible show EvOpen _ _ _ _ _ _ _); refine ev_open ?_; intro K hK) | ((with_reducible show SkOpen _ _ _ _ _ _ _); refine sk_open ?_; intro K hK) | ((with_reducible show callK _ _ _ _ _ _ _ _); first  | fail)); simp only [evOp, evQ, withS, opd, kput, putS, upd, lookup, slotsOf, frz, newBlk, boxV, buildK, partsK, V.one, z_cur, pl_cur, fc_0, List.nil_append, List.length_cons, List.length_nil, Nat.reduceEqDiff, Nat.reduceAdd, Nat.reduceLT, Nat.zero_add, ↓reduceIte, eq_self, true_and, Option.isSome_some]) | refine ev_guard rfl rfl rfl ?_ ?_ | ((with_reducible show retQ _ _ _ _); simp only [eq_self]) | (with_reducible refine hK _ ?_; clear hK K) | (with_reducible refine And.intro ?_ ?_) | (with_reducible intro hc; try simp only [eq_self] at hc) | omega)
  unfold HoldW
  refine AWP.letCur_rg (id := 2) 4 rfl rfl rfl rfl rfl rfl (fun _ h => h) ?_
  intro b hbN
  repeat' (first | ((with_reducible show evNx _ _ _ _ _ _); first | (with_reducible refine nx_done ?_) | (refine nx_one rfl ?_) | (refine nx_alt rfl ?_ ?_) | (with_reducible refine nx_st ?_)) | ((with_reducible show evSx _ _ _ _ _ _); first | (with_reducible refine sx_done ?_) | (with_reducible refine sx_st ?_) | (with_reducible refine sx_op ?_)) | ((with_reducible show evTake _ _ _ _ _); with_reducible refine take_nil ?_) | ((with_reducible show evSy _ _ _ _ _ _ _); first | (with_reducible refine sy_done ?_) | (refine sy_last rfl ?_) | (refine sy_one (by decide) rfl ?_) | (refine sy_alt (by decide) rfl ?_ ?_) | (with_reducible refine sy_st ?_)) | ((with_reducible show StK _ _ _); first | (have hZ1 := hn1 ; have hdZ : Disj Z (isB b) := (fun j h1 h2 => (hZ1.1 j h1).2 h2) ; have hgZ : ∀ j, Z j → N ≤ j := (fun j h1 => (hZ1.1 j h1).1) ; clear hn1 hZ1 ; refine stk_nop ?_ ; (try simp only [eq_self])) | fail) | (with_reducible first | refine then_normal ?_ | refine then_ret ?_ | refine then_exit ?_ | refine block_normal ?_ | refine block_ret ?_) | ((with_reducible show blockQ _ _ _ _); first | refine block_exit ?_ | refine block_exit_ne rfl ?_) | ((with_reducible show AWP _ _ _ _ _); first | (refine AWP.region_sx (id := 2) [.op, .op, .st, .op, .op, .op, .op] ?_) | (with_reducible first | refine AWP.seq ?_ | refine AWP.block ?_ | refine AWP.region ?_ | refine AWP.ret ?_ | refine AWP.exit ?_ | refine AWP.skip ?_) | refine AWP.drawn rfl (by kernel_rfl) ?_ | refine AWP.cond rfl ?_ ?_) | with_reducible refine ev_nil ?_ | ((first | ((with_reducible show evNx _ _ _ _ _ _); refine nx_take rfl ?_; intro K hK) | ((with_reducible show Ax _ _ _ _ _); first | ((first | refine ax_callC (f := 34) ?_); refine callC_go (x := _) (xs := _) rfl rfl rfl (by first | exact .inl (by rw [hcx]; exact rfl) | exact .inr (by assumption)) (by (try simp only [okS, okSl, okH, eq_self, true_and, and_true, and_self]); repeat' (first | exact trivial | exact rfl | exact disj_cut | exact disj_lt (by assumption) | assumption | omega | refine And.intro ?_ ?_ | (intro i hi; first | exact trivial | (split <;> first | exact trivial | exact disj_lt (by assumption) | exact disj_cut) | (repeat' split) <;> exact trivial))) (by (try simp only [okS, okSl, okH, eq_self, true_and, and_true, and_self]); repeat' (first | exact trivial | exact rfl | exact disj_cut | exact disj_lt (by assumption) | assumption | omega | refine And.intro ?_ ?_ | (intro i hi; first | exact trivial | (split <;> first | exact trivial | exact disj_lt (by assumption) | exact disj_cut) | (repeat' split) <;> exact trivial))) (fun K1 hK1 => by simp only [argsC, opd, lookup, Nat.zero_add, Nat.reduceEqDiff, ↓reduceIte, List.getElem?_cons_zero, List.getElem?_cons_succ, List.reverse_cons, List.reverse_nil, List.nil_append, List.cons_append]; repeat' (first | exact hK1 | exact trivial | exact disj_cut | assumption | omega | refine And.intro ?_ ?_)) ?_; first | (refine ⟨_, _, catalogue_fn _ (by omega) hb, ?_⟩; rintro _ ⟨M, Z, hM, rfl⟩ hn1; simp only [Res.list, NewL, and_true, true_and] at hn1)) | (refine ax_op rfl ?_; intro K hK)) | ((with_reducible show evTake _ _ _ _ _); refine take_step rfl ?_; intro K hK) | ((with_reducible show evSy _ _ _ _ _ _ _); refine sy_take rfl ?_; intro K hK) | ((with_reducible show AxB _ _ _ _ _); first | (refine axb_op rfl rfl ?_; intro K hK)) | ((with_reducible show evOps _ _ _ _ _ _); (first | refine ev_step rfl ?_ | refine ev_undef rfl rfl rfl ?_); intro K hK) | ((with_reducible show EvOpen _ _ _ _ _ _ _); refine ev_open ?_; intro K hK) | ((with_reducible show SkOpen _ _ _ _ _ _ _); refine sk_open ?_; intro K hK) | ((with_reducible show callK _ _ _ _ _ _ _ _); first  | fail)); simp only [evOp, evQ, withS, opd, kput, putS, upd, lookup, bringIn, bring, Res.list, Res.slot, List.set_cons_zero, swpS, swSl, Nat.reduceEqDiff, Nat.reduceAdd, Nat.reduceLT, Nat.zero_add, ↓reduceIte, eq_self, true_and]) | refine ev_guard rfl rfl rfl ?_ ?_ | ((with_reducible show retQ _ _ _ _); simp only [eq_self]) | (with_reducible refine hK _ ?_; clear hK K) | (with_reducible refine And.intro ?_ ?_) | (with_reducible intro hc; try simp only [eq_self] at hc) | omega)
  exact retE_pv2 rfl rfl ⟨_, _, _, _, ⟨by assumption, hM⟩, rfl⟩ hgZ (fun j hj => (hn1.1 j hj).1)
set_option maxHeartbeats 2000000 in
theorem drawPlace_E (hb : BytOk m g) : FnE Tryz.prog 20 [bytV m g] someCtT := by
  refine FnE.of_body (fun N => [.old (fun b => b < N) (bytV m g)]) (fun _ us h => oldL_rd _ us h) Tryz.call20 Tryz.func20 rfl Tryz.ntmps20 (ts := [2, 3]) rfl (fun _ => by simp) (someCtT.shape) (fun N => ?_)
  repeat' (first | (with_reducible first | refine then_normal ?_ | refine then_ret ?_ | refine then_exit ?_ | refine block_normal ?_ | refine block_ret ?_) | ((with_reducible show blockQ _ _ _ _); first | refine block_exit ?_ | refine block_exit_ne rfl ?_) | ((with_reducible show AWP _ _ _ _ _); first | (refine AWP.holdW (id := 2) ?_) | (refine AWP.holdW (id := 3) ?_) | (with_reducible first | refine AWP.seq ?_ | refine AWP.block ?_ | refine AWP.region ?_ | refine AWP.ret ?_ | refine AWP.exit ?_ | refine AWP.skip ?_) | refine AWP.drawn rfl (by kernel_rfl) ?_ | refine AWP.cond rfl ?_ ?_) | with_reducible refine ev_nil ?_ | ((first | ((with_reducible show evOps _ _ _ _ _ _); (first | refine ev_step rfl ?_ | refine ev_undef rfl rfl rfl ?_); intro K hK) | ((with_reducible show EvOpen _ _ _ _ _ _ _); refine ev_open ?_; intro K hK) | ((with_reducible show SkOpen _ _ _ _ _ _ _); refine sk_open ?_; intro K hK) | ((with_reducible show callK _ _ _ _ _ _ _ _); first  | fail)); simp only [evOp, evQ, withS, opd, kput, putS, upd, lookup, slotsOf, frz, newBlk, boxV, buildK, partsK, V.one, z_cur, pl_cur, fc_0, List.nil_append, List.length_cons, List.length_nil, Nat.reduceEqDiff, Nat.reduceAdd, Nat.reduceLT, Nat.zero_add, ↓reduceIte, eq_self, true_and, Option.isSome_some]) | refine ev_guard rfl rfl rfl ?_ ?_ | ((with_reducible show retQ _ _ _ _); simp only [eq_self]) | (with_reducible refine hK _ ?_; clear hK K) | (with_reducible refine And.intro ?_ ?_) | (with_reducible intro hc; try simp only [eq_self] at hc) | omega)
  unfold HoldW
  refine AWP.letCur_rg (id := 2) 4 rfl rfl rfl rfl rfl rfl (fun _ h => h) ?_
  intro b hbN
  repeat' (first | ((with_reducible show evNx _ _ _ _ _ _); first | (with_reducible refine nx_done ?_) | (refine nx_one rfl ?_) | (refine nx_alt rfl ?_ ?_) | (with_reducible refine nx_st ?_)) | ((with_reducible show evSx _ _ _ _ _ _); first | (with_reducible refine sx_done ?_) | (with_reducible refine sx_st ?_) | (with_reducible refine sx_op ?_)) | ((with_reducible show evTake _ _ _ _ _); with_reducible refine take_nil ?_) | ((with_reducible show evSy _ _ _ _ _ _ _); first | (with_reducible refine sy_done ?_) | (refine sy_last rfl ?_) | (refine sy_one (by decide) rfl ?_) | (refine sy_alt (by decide) rfl ?_ ?_) | (with_reducible refine sy_st ?_)) | ((with_reducible show StK _ _ _); first | fail) | (with_reducible first | refine then_normal ?_ | refine then_ret ?_ | refine then_exit ?_ | refine block_normal ?_ | refine block_ret ?_) | ((with_reducible show blockQ _ _ _ _); first | refine block_exit ?_ | refine block_exit_ne rfl ?_) | ((with_reducible show AWP _ _ _ _ _); first | (refine AWP.holdW (id := 3) ?_) | (refine AWP.region_sx (id := 2) [.op, .op, .op] ?_) | (with_reducible first | refine AWP.seq ?_ | refine AWP.block ?_ | refine AWP.region ?_ | refine AWP.ret ?_ | refine AWP.exit ?_ | refine AWP.skip ?_) | refine AWP.drawn rfl (by kernel_rfl) ?_ | refine AWP.cond rfl ?_ ?_) | with_reducible refine ev_nil ?_ | ((first | ((with_reducible show evNx _ _ _ _ _ _); refine nx_take rfl ?_; intro K hK) | ((with_reducible show Ax _ _ _ _ _); first | ((first | refine ax_callC (f := 34) ?_); refine callC_go (x := _) (xs := _) rfl rfl rfl (by first | exact .inl (by rw [hcx]; exact rfl) | exact .inr (by assumption)) (by (try simp only [okS, okSl, okH, eq_self, true_and, and_true, and_self]); repeat' (first | exact trivial | exact rfl | exact disj_cut | exact disj_lt (by assumption) | assumption | omega | refine And.intro ?_ ?_ | (intro i hi; first | exact trivial | (split <;> first | exact trivial | exact disj_lt (by assumption) | exact disj_cut) | (repeat' split) <;> exact trivial))) (by (try simp only [okS, okSl, okH, eq_self, true_and, and_true, and_self]); repeat' (first | exact trivial | exact rfl | exact disj_cut | exact disj_lt (by assumption) | assumption | omega | refine And.intro ?_ ?_ | (intro i hi; first | exact trivial | (split <;> first | exact trivial | exact disj_lt (by assumption) | exact disj_cut) | (repeat' split) <;> exact trivial))) (fun K1 hK1 => by simp only [argsC, opd, lookup, Nat.zero_add, Nat.reduceEqDiff, ↓reduceIte, List.getElem?_cons_zero, List.getElem?_cons_succ, List.reverse_cons, List.reverse_nil, List.nil_append, List.cons_append]; repeat' (first | exact hK1 | exact trivial | exact disj_cut | assumption | omega | refine And.intro ?_ ?_)) ?_; first | (refine ⟨_, _, catalogue_fn _ (by omega) hb, ?_⟩; rintro _ ⟨M, Z, hM, rfl⟩ hn1; simp only [Res.list, NewL, and_true, true_and] at hn1)) | (refine ax_op rfl ?_; intro K hK)) | ((with_reducible show evTake _ _ _ _ _); refine take_step rfl ?_; intro K hK) | ((with_reducible show evSy _ _ _ _ _ _ _); refine sy_take rfl ?_; intro K hK) | ((with_reducible show AxB _ _ _ _ _); first | (refine axb_op rfl rfl ?_; intro K hK)) | ((with_reducible show evOps _ _ _ _ _ _); (first | refine ev_step rfl ?_ | refine ev_undef rfl rfl rfl ?_); intro K hK) | ((with_reducible show EvOpen _ _ _ _ _ _ _); refine ev_open ?_; intro K hK) | ((with_reducible show SkOpen _ _ _ _ _ _ _); refine sk_open ?_; intro K hK) | ((with_reducible show callK _ _ _ _ _ _ _ _); first  | fail)); simp only [evOp, evQ, withS, opd, kput, putS, upd, lookup, bringIn, bring, Res.list, Res.slot, List.set_cons_zero, swpS, swSl, Nat.reduceEqDiff, Nat.reduceLT, Nat.zero_add, ↓reduceIte, eq_self, true_and]) | refine ev_guard rfl rfl rfl ?_ ?_ | ((with_reducible show retQ _ _ _ _); simp only [eq_self]) | (with_reducible refine hK _ ?_; clear hK K) | (with_reducible refine And.intro ?_ ?_) | (with_reducible intro hc; try simp only [eq_self] at hc) | omega)
  unfold HoldW
  have hdZ : Disj Z (isB b) := fun j h1 h2 => (hn1.1 j h1).2 h2
  have hgZ : ∀ j, Z j → N ≤ j := fun j h1 => (hn1.1 j h1).1
  clear hn1
  have hM1 := hM.1
  have hM2 := hM.2
  refine AWP.entR [] ⟨[(4, .one (.pv (.cur b (0 + 5100) (fun b => b < N) (bytV m g)))), (5, .one (.pv (.old Z (termss M))))], [], 33⟩ ⟨rfl, by decide, ⟨VE.rfl' _, VE.rfl' (.old Z (termss M)), trivial⟩, trivial⟩ ?_
  repeat' (first | ((with_reducible show evNx _ _ _ _ _ _); first | (with_reducible refine nx_done ?_) | (refine nx_one rfl ?_) | (refine nx_alt rfl ?_ ?_) | (with_reducible refine nx_st ?_)) | ((with_reducible show evGx _ _ _ _ _ _); first | (with_reducible refine gx_nil ?_) | (refine gx_step rfl ?_) | (refine gx_undef rfl rfl rfl ?_) | (refine gx_guard rfl rfl rfl ?_ ?_)) | ((with_reducible show evSx _ _ _ _ _ _); first | (with_reducible refine sx_done ?_) | (with_reducible refine sx_st ?_) | (with_reducible refine sx_op ?_)) | ((with_reducible show evTake _ _ _ _ _); with_reducible refine take_nil ?_) | ((with_reducible show evSy _ _ _ _ _ _ _); first | (with_reducible refine sy_done ?_) | (refine sy_last rfl ?_) | (refine sy_one (by decide) rfl ?_) | (refine sy_alt (by decide) rfl ?_ ?_) | (with_reducible refine sy_st ?_)) | ((with_reducible show StK _ _ _); first | fail) | (with_reducible first | refine then_normal ?_ | refine then_ret ?_ | refine then_exit ?_ | refine block_normal ?_ | refine block_ret ?_) | ((with_reducible show blockQ _ _ _ _); first | refine block_exit ?_ | refine block_exit_ne rfl ?_) | ((with_reducible show AWP _ _ _ _ _); first | (refine AWP.region_gx (id := 4) ?_) | (refine AWP.region_sx (id := 5) [.op, .op, .op, .op, .op, .op, .op, .op, .op, .op, .op] ?_) | (refine AWP.region_sx (id := 6) [.op, .op, .op, .op, .op] ?_) | (with_reducible first | refine AWP.seq ?_ | refine AWP.block ?_ | refine AWP.region ?_ | refine AWP.ret ?_ | refine AWP.exit ?_ | refine AWP.skip ?_) | refine AWP.drawn rfl (by kernel_rfl) ?_ | refine AWP.cond rfl ?_ ?_) | with_reducible refine ev_nil ?_ | ((first | ((with_reducible show skipOp _ _ _); refine sk_put rfl rfl ?_) | ((with_reducible show OpA _ _ _ _ _); first | ((first | refine axg_callC (f := 42) ?_ | refine axg_callC (f := 43) ?_ | refine axg_callC (f := 44) ?_); refine callC_go (x := _) (xs := _) rfl rfl rfl (by first | exact .inl (by rw [hcx]; exact rfl) | exact .inr (by assumption)) (by (try simp only [okS, okSl, okH, eq_self, true_and, and_true, and_self]); repeat' (first | exact trivial | exact rfl | exact disj_cut | exact disj_lt (by assumption) | assumption | omega | refine And.intro ?_ ?_ | (intro i hi; first | exact trivial | (split <;> first | exact trivial | exact disj_lt (by assumption) | exact disj_cut) | (repeat' split) <;> exact trivial))) (by (try simp only [okS, okSl, okH, eq_self, true_and, and_true, and_self]); repeat' (first | exact trivial | exact rfl | exact disj_cut | exact disj_lt (by assumption) | assumption | omega | refine And.intro ?_ ?_ | (intro i hi; first | exact trivial | (split <;> first | exact trivial | exact disj_lt (by assumption) | exact disj_cut) | (repeat' split) <;> exact trivial))) (fun K1 hK1 => by simp only [argsC, opd, lookup, Nat.zero_add, Nat.reduceEqDiff, ↓reduceIte, List.getElem?_cons_zero, List.getElem?_cons_succ, List.reverse_cons, List.reverse_nil, List.nil_append, List.cons_append]; repeat' (first | exact hK1 | exact trivial | exact disj_cut | assumption | omega | refine And.intro ?_ ?_)) ?_; first | (refine ⟨_, _, one_fn _ _ (by omega) hb, ?_⟩; rintro _ ⟨y, rfl⟩ hnewZ; clear hnewZ) | (refine ⟨_, _, pick_fn _ _ (by omega) hb, ?_⟩; rintro _ ⟨x, hx, rfl⟩ hnewZ; clear hnewZ) | (refine ⟨_, _, anyPlane_fn _ (by omega) hb, ?_⟩; rintro _ ⟨l, hl, rfl⟩ hnewZ; clear hnewZ)) | (refine axg_op ?_; intro K hK)) | ((with_reducible show evNx _ _ _ _ _ _); refine nx_take rfl ?_; intro K hK) | ((with_reducible show Ax _ _ _ _ _); first | ((first | refine ax_callC (f := 42) ?_ | refine ax_callC (f := 43) ?_ | refine ax_callC (f := 44) ?_); refine callC_go (x := _) (xs := _) rfl rfl rfl (by first | exact .inl (by rw [hcx]; exact rfl) | exact .inr (by assumption)) (by (try simp only [okS, okSl, okH, eq_self, true_and, and_true, and_self]); repeat' (first | exact trivial | exact rfl | exact disj_cut | exact disj_lt (by assumption) | assumption | omega | refine And.intro ?_ ?_ | (intro i hi; first | exact trivial | (split <;> first | exact trivial | exact disj_lt (by assumption) | exact disj_cut) | (repeat' split) <;> exact trivial))) (by (try simp only [okS, okSl, okH, eq_self, true_and, and_true, and_self]); repeat' (first | exact trivial | exact rfl | exact disj_cut | exact disj_lt (by assumption) | assumption | omega | refine And.intro ?_ ?_ | (intro i hi; first | exact trivial | (split <;> first | exact trivial | exact disj_lt (by assumption) | exact disj_cut) | (repeat' split) <;> exact trivial))) (fun K1 hK1 => by simp only [argsC, opd, lookup, Nat.zero_add, Nat.reduceEqDiff, ↓reduceIte, List.getElem?_cons_zero, List.getElem?_cons_succ, List.reverse_cons, List.reverse_nil, List.nil_append, List.cons_append]; repeat' (first | exact hK1 | exact trivial | exact disj_cut | assumption | omega | refine And.intro ?_ ?_)) ?_; first | (refine ⟨_, _, one_fn _ _ (by omega) hb, ?_⟩; rintro _ ⟨y, rfl⟩ hnewZ; clear hnewZ) | (refine ⟨_, _, pick_fn _ _ (by omega) hb, ?_⟩; rintro _ ⟨x, hx, rfl⟩ hnewZ; clear hnewZ) | (refine ⟨_, _, anyPlane_fn _ (by omega) hb, ?_⟩; rintro _ ⟨l, hl, rfl⟩ hnewZ; clear hnewZ)) | (refine ax_op rfl ?_; intro K hK)) | ((with_reducible show evTake _ _ _ _ _); refine take_step rfl ?_; intro K hK) | ((with_reducible show evSy _ _ _ _ _ _ _); refine sy_take rfl ?_; intro K hK) | ((with_reducible show AxB _ _ _ _ _); first | (refine axb_op rfl rfl ?_; intro K hK)) | ((with_reducible show evOps _ _ _ _ _ _); (first | refine ev_step rfl ?_ | refine ev_undef rfl rfl rfl ?_); intro K hK) | ((with_reducible show EvOpen _ _ _ _ _ _ _); refine ev_open ?_; intro K hK) | ((with_reducible show SkOpen _ _ _ _ _ _ _); refine sk_open ?_; intro K hK) | ((with_reducible show callK _ _ _ _ _ _ _ _); first  | fail)); simp only [evOp, oldZ, evQ, evB, binK, withS, opd, kput, putS, upd, lookup, bringIn, bring, Res.list, Res.slot, appendK, srcK, growK, newBlk, partsK, buildSliceK, V.one, Value.oneCell', List.set_cons_zero, ei_terms, ea_terms, bterms, Nat.zero_le, swpS, swSl, sz_termss, c_terms, List.getElem?_cons_zero, List.nil_append, List.cons_append, List.length_cons, List.length_nil, Nat.reduceEqDiff, Nat.reduceAdd, Nat.reduceLT, Nat.reduceLeDiff, Nat.mul_one, Nat.zero_mul, Nat.add_zero, Nat.zero_add, Nat.sub_zero, Nat.not_lt_zero, ↓reduceIte, eq_self, true_and, and_true, Bool.not_true, Bool.true_eq_false, Bool.false_eq_true, false_implies, forall_const, implies_true, Option.isSome_some]) | refine ev_guard rfl rfl rfl ?_ ?_ | ((with_reducible show retQ _ _ _ _); simp only [eq_self]) | (with_reducible refine hK _ ?_; clear hK K) | (with_reducible refine And.intro ?_ ?_) | (with_reducible intro hc; try simp only [decide_eq_true_eq, decide_eq_false_iff_not, Bool.not_eq_true', Bool.not_eq_false', Bool.not_true, Int.not_lt, gt_iff_lt, reduceCtorEq, Bool.true_eq_false] at hc) | omega)
  all_goals first
    | (exfalso; omega; done)
    | omega
    | (have := hM2 x.toNat (by omega); omega)
    | exact retE_pvT (l := l) rfl rfl rfl rfl (BE.rfl' _) ⟨M, Z, l, ⟨hM, hl⟩, rfl⟩ hgZ
    | (refine retE_pvT (l := tsAt M x.toNat) rfl rfl rfl (by simp) ⟨rfl, by simp [bterms], fun i hi => VE.of_eq ?_⟩ ⟨M, Z, _, ⟨hM, hM2 _ (by omega)⟩, rfl⟩ hgZ; first | (simp [bterms]; done) | trace_state)
    | trace_state
end
end Go.Proofs.YteapdildbfimnaaGreatDoor
namespace Go.Proofs.YteapdildbfimnaaGreatDoor
set_option linter.unusedSimpArgs false
set_option linter.unusedVariables false

theorem ctdR_comm (A B : List (List T3)) : ctdR (A ++ B) = ctdR (B ++ A) := by
  have e : catX (A ++ B) (A ++ B).length = catX (B ++ A) (B ++ A).length := catX_eq (catX_asc _ _) fun t => by rw [catX_iff, List.mem_append, List.mem_append, or_comm]
  unfold ctdR; rw [e]
theorem mcR_comm (A B : List (List T3)) : mcR A B = mcR B A := by
  unfold mcR; rw [Bool.and_comm, ctdR_comm]

theorem ctB_of {M : List (List T3)} (h10 : M.length ≤ 10) (hn : ∀ i, i < M.length → okAt M i = true ∧ nfAt M i = tsAt M i) (ha : AscX M) : ctB M = true := by
  have h : ∀ i, i < M.length → ctkB M i = true := fun i hi => by
    obtain ⟨h1, h2⟩ := hn i hi
    have h3 : eqTL (nfAt M i) (tsAt M i) = true := by rw [h2]; exact eqTL_refl _
    by_cases e : i = 0
    · exact ctkB_yes0 h1 h3 e
    · exact ctkB_yes h1 h3 (asc_ts ha (by omega) hi)
  rw [ctB_yes h]; simp [h10]

theorem co_got {L : List (List T3)} (h : (coR L).2 = true) : nfB L = true ∧ (coR L).1 = catX (fmL L) (fmL L).length := by
  unfold coR at h ⊢
  cases e : nfB L with
  | true => exact ⟨rfl, rfl⟩
  | false => rw [e] at h; cases h
theorem fm_mem {L : List (List T3)} {t : List T3} (h : t ∈ fmL L) : ∃ j, j < L.length ∧ t = nfAt L j := by
  obtain ⟨k, hk, e⟩ := mem_ts h
  rw [fmL_len] at hk
  exact ⟨k, hk, by rw [e, fmL_at hk]⟩
theorem co_ct {L : List (List T3)} (h : (coR L).2 = true) : ctB (coR L).1 = true := by
  obtain ⟨h1, e⟩ := co_got h
  obtain ⟨h10, hok⟩ := nfB_get h1
  rw [e]
  refine ctB_of (by have := catX_len (fmL L) (fmL L).length; have := fmL_len L; omega) (fun i hi => ?_) (catX_asc _ _)
  obtain ⟨j, hj, ej⟩ := fm_mem ((catX_iff (fmL L)).1 (ts_mem hi))
  have hi2 := normR_idem (hok j hj)
  have ej : tsAt (catX (fmL L) (fmL L).length) i = (normR (tsAt L j)).1 := ej
  refine ⟨?_, ?_⟩
  · show (normR (tsAt (catX (fmL L) (fmL L).length) i)).2 = true
    rw [ej, hi2]; exact hok j hj
  · show (normR (tsAt (catX (fmL L) (fmL L).length) i)).1 = tsAt (catX (fmL L) (fmL L).length) i
    rw [ej, hi2]
theorem mc_got {A B : List (List T3)} (h : (mcR A B).2 = true) : ctB A = true ∧ ctB B = true ∧ (catX (A ++ B) (A ++ B).length).length ≤ 10 ∧ (mcR A B).1 = catX (A ++ B) (A ++ B).length := by
  unfold mcR at h ⊢
  cases e1 : ctB A with
  | false => rw [e1] at h; cases h
  | true =>
    cases e2 : ctB B with
    | false => rw [e1, e2] at h; cases h
    | true =>
      rw [e1, e2] at h
      have h : (ctdR (A ++ B)).2 = true := h
      show _ ∧ _ ∧ _ ∧ (ctdR (A ++ B)).1 = _
      unfold ctdR at h ⊢
      by_cases hl : (catX (A ++ B) (A ++ B).length).length ≤ 10
      · rw [if_pos hl]; exact ⟨rfl, rfl, hl, rfl⟩
      · rw [if_neg hl] at h; cases h
theorem mc_ct {A B : List (List T3)} (h : (mcR A B).2 = true) : ctB (mcR A B).1 = true := by
  obtain ⟨h1, h2, h3, e⟩ := mc_got h
  rw [e]
  refine ctB_of h3 (fun i hi => ?_) (catX_asc _ _)
  have hm := (catX_iff (A ++ B)).1 (ts_mem hi)
  have key : ∀ {C : List (List T3)} {t : List T3}, ctB C = true → t ∈ C → (normR t).2 = true ∧ (normR t).1 = t := fun {C t} hC ht => by
    obtain ⟨k, hk, rfl⟩ := mem_ts ht
    exact ctkB_eq ((ctB_is hC).2 k hk)
  rcases List.mem_append.1 hm with hm | hm
  · exact key h1 hm
  · exact key h2 hm

theorem place_of {M : List (List T3)} {l : List T3} (hct : ctB M = true) (hl : (normR l).2 = true) (hx : (normR l).1 ∈ M) : (plcR M l).2 = true := by
  obtain ⟨k, hk, e⟩ := mem_ts hx
  rw [plcR_yes hct hl]
  show decide (plcN M l ≥ 0) = true
  unfold plcN
  rw [anyN_first]
  have h2 : (!eqTL (tsAt M k) (normR l).1) = false := by rw [← e, eqTL_refl]; rfl
  unfold anyN
  rw [allN_false hk h2]; rfl
theorem place_co {L : List (List T3)} (h : (coR L).2 = true) {j : Nat} (hj : j < L.length) : (plcR (coR L).1 (tsAt L j)).2 = true := by
  obtain ⟨h1, e⟩ := co_got h
  refine place_of (co_ct h) ((nfB_get h1).2 j hj) ?_
  rw [e, catX_iff]
  show nfAt L j ∈ fmL L
  rw [← fmL_at hj]
  exact ts_mem (by rw [fmL_len]; exact hj)
theorem place_mc {A B : List (List T3)} (h : (mcR A B).2 = true) {j : Nat} (hj : j < A.length) : (plcR (mcR A B).1 (tsAt A j)).2 = true := by
  obtain ⟨h1, h2, h3, e⟩ := mc_got h
  obtain ⟨k1, k2⟩ := ctkB_eq ((ctB_is h1).2 j hj)
  refine place_of (mc_ct h) k1 ?_
  rw [e, catX_iff]
  have k2 : (normR (tsAt A j)).1 = tsAt A j := k2
  rw [k2]
  exact List.mem_append.2 (.inl (ts_mem hj))

/-! ### As many classes as forms -/
def Cov (L : List (List T3)) (i : Nat) (out : List (List Int)) : Prop := ∀ j, j < i → ∃ k, k < out.length ∧ nfAt L (repI out k) = nfAt L j
theorem repI_hit {L : List (List T3)} {i k : Nat} {out : List (List Int)} (h : ClsOk L i out) (hk : k < out.length) (j : Nat) : repI (out.set k (rowAt out k ++ [(i : Int)])) j = repI out j := by
  unfold repI
  by_cases e : j = k
  · subst e; rw [row_set_eq hk, head_app (h.row j hk).1]
  · rw [row_set_ne e]
theorem clsK_cov (L : List (List T3)) : ∀ i, Cov L i (clsK L i)
  | 0 => fun j hj => by omega
  | i + 1 => by
    have h := clsK_ok L i
    have hc := clsK_cov L i
    show Cov L (i + 1) (clsStep L (clsK L i) i)
    by_cases hx : ∃ k, k < (clsK L i).length ∧ clsP L (clsK L i) i k = true
    · obtain ⟨k, hk, hp⟩ := hx
      rw [clsStep_hit hk hp fun j hj => h.one hk (by omega) hp (by omega)]
      intro j hj
      by_cases e : j = i
      · subst e
        exact ⟨k, by simpa using hk, by rw [repI_hit h hk]; exact clsP_iff.1 hp⟩
      · obtain ⟨q, hq, e2⟩ := hc j (by omega)
        exact ⟨q, by simpa using hq, by rw [repI_hit h hk]; exact e2⟩
    · have hn : ∀ k, k < (clsK L i).length → clsP L (clsK L i) i k = false := fun k hk => by
        cases e : clsP L (clsK L i) i k with
        | false => rfl
        | true => exact absurd ⟨k, hk, e⟩ hx
      rw [clsStep_miss hn]
      have hlt : ∀ j, j < (clsK L i).length → repI (clsK L i ++ [[(i : Int)]]) j = repI (clsK L i) j := fun j hj => by unfold repI; rw [row_app_lt hj]
      have heq : repI (clsK L i ++ [[(i : Int)]]) (clsK L i).length = i := by unfold repI; rw [row_app_eq]; simp
      intro j hj
      by_cases e : j = i
      · subst e
        exact ⟨(clsK L j).length, by simp, by rw [heq]⟩
      · obtain ⟨q, hq, e2⟩ := hc j (by omega)
        exact ⟨q, by simp; omega, by rw [hlt q hq]; exact e2⟩
theorem asc_nodup {L : List (List T3)} (h : AscX L) : L.Nodup := by
  refine List.Pairwise.imp (fun {a b} hab e => ?_) h
  subst e
  rw [ltX_irr] at hab; cases hab
theorem cls_co (L : List (List T3)) : (clsK L L.length).length = (catX (fmL L) (fmL L).length).length := by
  have hok := clsK_ok L L.length
  have hcv := clsK_cov L L.length
  obtain ⟨reps, hr⟩ : ∃ reps, reps = (List.range (clsK L L.length).length).map fun k => nfAt L (repI (clsK L L.length) k) := ⟨_, rfl⟩
  have hnd : reps.Nodup := by
    rw [hr]
    refine List.pairwise_map.2 (List.Pairwise.imp_of_mem (fun {a b} ha hb hab e => ?_) (List.nodup_range (n := (clsK L L.length).length)))
    exact hab (hok.apart a b (List.mem_range.1 ha) (List.mem_range.1 hb) e)
  have hmem : ∀ t, t ∈ reps ↔ t ∈ catX (fmL L) (fmL L).length := fun t => by
    rw [catX_iff, hr, List.mem_map]
    constructor
    · rintro ⟨k, hk, rfl⟩
      have hk := List.mem_range.1 hk
      have hlt := (hok.row k hk).2.2
      have hlt2 : repI (clsK L L.length) k < L.length := by unfold repI; omega
      rw [← fmL_at hlt2]
      exact ts_mem (by rw [fmL_len]; exact hlt2)
    · intro ht
      obtain ⟨j, hj, rfl⟩ := fm_mem ht
      obtain ⟨k, hk, e⟩ := hcv j hj
      exact ⟨k, List.mem_range.2 hk, e⟩
  have hp := (List.perm_ext_iff_of_nodup hnd (asc_nodup (catX_asc _ _))).2 hmem
  rw [← hp.length_eq, hr]; simp
end Go.Proofs.YteapdildbfimnaaGreatDoor
namespace Go.Proofs.YteapdildbfimnaaGreatDoor
open Go.RowKit Go.Proofs
set_option linter.unusedSimpArgs false
set_option linter.unusedVariables false

end Go.Proofs.YteapdildbfimnaaGreatDoor
namespace Go.Proofs.YteapdildbfimnaaGreatDoor
set_option linter.unusedSimpArgs false
set_option linter.unusedVariables false

/-- All rows have at most two numbers. -/
def two (m : List (List Int)) : Prop := ∀ i, (rowAt m i).length ≤ 2
end Go.Proofs.YteapdildbfimnaaGreatDoor
namespace Go.Proofs.YteapdildbfimnaaGreatDoor
open Go.RowKit Go.Proofs
set_option linter.unusedSimpArgs false
set_option linter.unusedVariables false

/-- Rows of a list that is being filled. -/
def partR (N : Nat) (L : List (List Int)) (F : Nat → V) : Prop := ∀ i, i < L.length → isRow (rowAt L i) (F i) ∧ (∀ b, Zof (F i) b → N ≤ b) ∧ ∀ j, j < L.length → j ≠ i → Apart (F i) (F j)
theorem partR.nil (N : Nat) (F : Nat → V) : partR N [] F := fun i hi => by simp at hi
theorem partR.grow {N : Nat} {L : List (List Int)} {F : Nat → V} {x : List Int} {v : V} (h : partR N L F) (hp : isRow x v) (hN : ∀ b, Zof v b → N ≤ b) (hd : ∀ i, i < L.length → Apart (F i) v) : partR N (L ++ [x]) (fun i => if i = L.length then v else F i) := by
  intro i hi
  rw [List.length_append] at hi
  have hi : i < L.length + 1 := hi
  by_cases e : i = L.length
  · subst e
    simp only [if_true]
    refine ⟨?_, hN, fun j hj hne => ?_⟩
    · have e : rowAt (L ++ [x]) L.length = x := by simp [rowAt, List.getD]
      rw [e]; exact hp
    · rw [List.length_append] at hj
      have hj : j < L.length + 1 := hj
      rw [if_neg hne]; exact (hd j (by omega)).symm
  · simp only [if_neg e]
    obtain ⟨h1, h2, h3⟩ := h i (by omega)
    refine ⟨?_, h2, fun j hj hne => ?_⟩
    · have e : rowAt (L ++ [x]) i = rowAt L i := by simp [rowAt, List.getD, List.getElem?_append_left (show i < L.length by omega)]
      rw [e]; exact h1
    · rw [List.length_append] at hj
      have hj : j < L.length + 1 := hj
      by_cases e2 : j = L.length
      · subst e2; rw [if_pos rfl]; exact hd i (by omega)
      · rw [if_neg e2]; exact h3 j (by omega) hne

/-- A list of rows in new memory, its own head, and a word on it. -/
def bdE (L : List (List Int)) (ok : Bool) : Res → Prop := fun r => ∃ F : Nat → V, (∀ i, i < L.length → isRow (rowAt L i) (F i) ∧ ∀ j, j < L.length → j ≠ i → Apart (F i) (F j)) ∧ r = .many [.fr 1 L.length ⟨53, L.length, F⟩, .pv (vb ok)]
theorem bdE.shape {L : List (List Int)} {ok : Bool} (r : Res) (h : bdE L ok r) : r.shape 2 = true := by obtain ⟨F, _, rfl⟩ := h; rfl

theorem grow_be3 {e : TypeId} {k n' : Nat} {F : Nat → V} {v v' z : V} (hn : n' ≤ k + 1) (h : VE v v') : BE ⟨e, k + 1, fun i => if i < k then F i else if i - k = 0 then v else z⟩ ⟨e, n', fun i => if i = k then v' else F i⟩ := by
  refine ⟨rfl, hn, fun i hi => ?_⟩
  have hi : i < n' := hi
  show VE (if i < k then F i else if i - k = 0 then v else z) (if i = k then v' else F i)
  by_cases h1 : i = k
  · subst h1; rw [if_neg (Nat.lt_irrefl _), if_pos (Nat.sub_self _), if_pos rfl]; exact h
  · rw [if_pos (by omega), if_neg h1]; exact VE.rfl' _

end Go.Proofs.YteapdildbfimnaaGreatDoor
namespace Go.Proofs.YteapdildbfimnaaGreatDoor
open Go.RowKit Go.Proofs
set_option linter.unusedSimpArgs false
set_option linter.unusedVariables false

end Go.Proofs.YteapdildbfimnaaGreatDoor
namespace Go.Proofs.YteapdildbfimnaaGreatDoor
open Go.RowKit Go.Proofs
set_option linter.unusedSimpArgs false
set_option linter.unusedVariables false

/-- No goto. -/
def scopeQ (Q : Exit → ASt → Prop) : Exit → ASt → Prop
  | .goto _, _ => False
  | e, s => Q e s
theorem AWP.scope [Cx] {N : Nat} {P : Program} {c : Code} {Q : Exit → ASt → Prop} {s : ASt} (h : AWP N P c (scopeQ Q) s) : AWP N P (.scope c) Q s := by
  intro w0 S0 a w hN sim
  refine wp_scope_straight (wp_mono (h w0 S0 a w hN sim) fun e a' w' ⟨s', hq, hs⟩ => ?_)
  cases e <;> first | exact hq.elim | exact ⟨s', hq, hs⟩
theorem AWP.label [Cx] {N : Nat} {P : Program} {l : Nat} {Q : Exit → ASt → Prop} {s : ASt} (h : Q .normal s) : AWP N P (.label l) Q s := fun _ _ _ _ _ sim => wp_label ⟨s, h, sim⟩
theorem scope_ret {Q : Exit → ASt → Prop} {s : ASt} (h : Q .ret s) : scopeQ Q .ret s := h
theorem scope_normal {Q : Exit → ASt → Prop} {s : ASt} (h : Q .normal s) : scopeQ Q .normal s := h

theorem slicesEqualR_fn {L : List (List T3)} {i j : Nat} {v w : V} (hv : isT (nfAt L i) v) (hw : isT (nfAt L j) w) (h1 : (nfAt L i).length ≤ 1099511627776) (h2 : (nfAt L j).length ≤ 1099511627776) :
    Fn Tryz.prog 27 [v, w] (.one (.pv (vb (eqTL (nfAt L i) (nfAt L j))))) := (slicesEqual_fn _ _ h1 h2).bare ⟨hv.bare, hw.bare, trivial⟩

/-- The classes that are being made, apart from the forms. -/
def clL (N n : Nat) (F1 : Nat → V) (out : List (List Int)) (F : Nat → V) : Prop := gL N out.length (fun q => rowAt out q) F ∧ ∀ q, q < out.length → ∀ j, j < n → Apart (F1 j) (F q)

theorem grow_app {u : Value} {Z : Nat → Prop} {e : TypeId} {r : List Int} {x : Int} : VE (.grow u Z e 1 (r.length + 1) fun j => if j < r.length then vi (r.getD j 0) else vi x) (.grow u Z e 1 (r ++ [x]).length fun j => vi ((r ++ [x]).getD j 0)) := by
  refine ⟨rfl, rfl, rfl, rfl, by simp, fun j hj => VE.of_eq ?_⟩
  have hj : j < r.length + 1 := by simpa using hj
  show (if j < r.length then vi (r.getD j 0) else vi x) = vi ((r ++ [x]).getD j 0)
  by_cases h : j < r.length
  · have : (r ++ [x]).getD j 0 = r.getD j 0 := by rw [List.getD, List.getElem?_append_left h]; rfl
    rw [if_pos h, this]
  · obtain rfl : j = r.length := by omega
    have : (r ++ [x]).getD r.length 0 = x := by simp [List.getD]
    rw [if_neg h, this]
theorem gL.app {N : Nat} {out : List (List Int)} {F : Nat → V} {r : List Int} {v : V} (h : gL N out.length (fun q => rowAt out q) F) (hv : isG r v) (hN : ∀ b, Zof v b → N ≤ b) (hd : ∀ q, q < out.length → Apart (F q) v) : gL N (out ++ [r]).length (fun q => rowAt (out ++ [r]) q) (fun q => if q = out.length then v else F q) := by
  intro q hq
  rw [List.length_append, List.length_singleton] at hq
  by_cases e : q = out.length
  · subst e
    simp only [if_true]
    refine ⟨by rw [row_app_eq]; exact hv, hN, fun j hj hne => ?_⟩
    rw [List.length_append, List.length_singleton] at hj
    rw [if_neg hne]; exact (hd j (by omega)).symm
  · simp only [if_neg e]
    obtain ⟨h1, h2, h3⟩ := h q (by omega)
    refine ⟨by rw [row_app_lt (by omega)]; exact h1, h2, fun j hj hne => ?_⟩
    rw [List.length_append, List.length_singleton] at hj
    by_cases e2 : j = out.length
    · rw [if_pos e2]; exact hd q (by omega)
    · rw [if_neg e2]; exact h3 j (by omega) hne
theorem one_ve {u : Value} {Z : Nat → Prop} {e : TypeId} {x : Int} {f : Nat → V} (h : f 0 = vi x) : VE (.grow u Z e 1 1 f) (.grow u Z e 1 [x].length fun j => vi ([x].getD j 0)) := ⟨rfl, rfl, rfl, rfl, rfl, fun j hj => VE.of_eq (by
  obtain rfl : j = 0 := by omega
  rw [h]; rfl)⟩
theorem upto_no {p : Nat → Bool} {k : Nat} (h : ∀ j, j < k → p j = false) (hk : p k = false) : ∀ j, j < k + 1 → p j = false := fun j hj => by
  by_cases e : j = k
  · subst e; exact hk
  · exact h j (by omega)

set_option maxHeartbeats 8000000 in
set_option maxRecDepth 100000 in
theorem implClasses_E (L : List (List T3)) (hl : L.length ≤ 1099511627776) (hr : ∀ i, i < L.length → (tsAt L i).length ≤ 1099511627776) : FnE Tryz.prog 8 [termss L] (bdE (pcR L).1 (pcR L).2) := by
  have hfm : ∀ i, i < L.length → (nfAt L i).length ≤ 1099511627776 := fun i hi => Nat.le_trans (nfAt_le L i) (hr i hi)
  refine FnE.of_body (fun N => [.old (fun b => b < N) (termss L)]) (fun _ us h => oldL_rd _ us h) Tryz.call8 Tryz.func8 rfl Tryz.ntmps8 (ts := [2, 3]) rfl (fun _ => by simp) (bdE.shape) (fun N => ?_)
  have hnf := (normalForms_E L hl hr).bare (vs' := [.old (fun b => b < N) (termss L)]) ⟨VE.rfl' (termss L), trivial⟩
  cases hb : nfB L with
  | false =>
    have e : pcR L = ([], false) := by unfold pcR; rw [hb]; rfl
    rw [e]
    rw [hb] at hnf
    simp only [if_false, Bool.false_eq_true] at hnf
    repeat' (first | ((with_reducible show scopeQ _ _ _) ; first | with_reducible refine scope_ret ?_ | with_reducible refine scope_normal ?_) | ((with_reducible show callEK _ _ _ _ _ _ _); simp only [callEK, opd, upd, lookup, argsK, bringIn, Res.list, Res.slot, List.reverse_cons, List.reverse_nil, List.nil_append, List.cons_append, Nat.reduceEqDiff, Nat.reduceLT, ↓reduceIte, eq_self, true_and]; refine ⟨_, hnf, ?_⟩; rintro _ ⟨F1, hF1, rfl⟩ hnew; simp only [Res.list, NewL, and_true, true_and] at hnew; simp only [bring, List.nil_append, List.length_nil]) | (with_reducible first | refine then_normal ?_ | refine then_ret ?_ | refine then_exit ?_ | refine block_normal ?_ | refine block_ret ?_) | ((with_reducible show blockQ _ _ _ _); first | refine block_exit ?_ | refine block_exit_ne rfl ?_) | ((with_reducible show AWP _ _ _ _ _); first | (first | refine AWP.scope ?_ | refine AWP.label ?_) | (refine AWP.region_callE (f := 22) (os1 := [_]) ?_) | (with_reducible first | refine AWP.seq ?_ | refine AWP.block ?_ | refine AWP.region ?_ | refine AWP.ret ?_ | refine AWP.exit ?_ | refine AWP.skip ?_) | refine AWP.drawn rfl (by kernel_rfl) ?_ | refine AWP.cond rfl ?_ ?_) | with_reducible refine ev_nil ?_ | ((first | ((with_reducible show evOps _ _ _ _ _ _); (first | refine ev_step rfl ?_ | refine ev_undef rfl rfl rfl ?_); intro K hK) | ((with_reducible show EvOpen _ _ _ _ _ _ _); refine ev_open ?_; intro K hK) | ((with_reducible show SkOpen _ _ _ _ _ _ _); refine sk_open ?_; intro K hK) | ((with_reducible show callK _ _ _ _ _ _ _ _); first  | fail)); simp only [evOp, evQ, withS, opd, kput, putS, upd, lookup, slotsOf, List.getElem?_cons_zero, List.getElem?_cons_succ, Nat.reduceEqDiff, Nat.reduceLT, ↓reduceIte, eq_self, true_and, Bool.not_false]) | refine ev_guard rfl rfl rfl ?_ ?_ | ((with_reducible show retQ _ _ _ _); simp only [eq_self]) | (with_reducible refine hK _ ?_; clear hK K) | (with_reducible refine And.intro ?_ ?_) | (with_reducible intro hc; try simp only [Bool.true_eq_false] at hc) | omega)
    all_goals first
      | (exfalso; omega)
      | skip
    refine ⟨_, ⟨fun _ => .val undef, fun i hi => by simp at hi, rfl⟩, ⟨fun i hi => by simp at hi, trivial, trivial⟩, ?_⟩
    simp only [retOk, getL, lookup, Option.map_some, fitsL, fits, ND, srcs, Res.list, VE, Nat.reduceEqDiff, ↓reduceIte, and_true]
    simp
  | true =>
    have h10 : L.length ≤ 10 := by
      by_cases h : L.length ≤ 10
      · exact h
      · rw [nfB_long h] at hb; cases hb
    have e : pcR L = (clsK L L.length, true) := by unfold pcR; rw [hb]; rfl
    rw [e]
    rw [hb] at hnf
    simp only [if_true] at hnf
    repeat' (first | ((with_reducible show scopeQ _ _ _) ; first | with_reducible refine scope_ret ?_ | with_reducible refine scope_normal ?_) | ((with_reducible show callEK _ _ _ _ _ _ _); simp only [callEK, opd, upd, lookup, argsK, bringIn, Res.list, Res.slot, List.reverse_cons, List.reverse_nil, List.nil_append, List.cons_append, Nat.reduceEqDiff, Nat.reduceLT, ↓reduceIte, eq_self, true_and]; refine ⟨_, hnf, ?_⟩; rintro _ ⟨F1, hF1, rfl⟩ hnew; simp only [Res.list, NewL, and_true, true_and] at hnew; simp only [bring, List.nil_append, List.length_nil]) | (with_reducible first | refine then_normal ?_ | refine then_ret ?_ | refine then_exit ?_ | refine block_normal ?_ | refine block_ret ?_) | ((with_reducible show blockQ _ _ _ _); first | refine block_exit ?_ | refine block_exit_ne rfl ?_) | ((with_reducible show AWP _ _ _ _ _); first | (first | refine AWP.scope ?_ | refine AWP.label ?_) | (refine AWP.region_callE (f := 22) (os1 := [_]) ?_) | (with_reducible first | refine AWP.seq ?_ | refine AWP.block ?_ | refine AWP.region ?_ | refine AWP.ret ?_ | refine AWP.exit ?_ | refine AWP.skip ?_) | refine AWP.drawn rfl (by kernel_rfl) ?_ | refine AWP.cond rfl ?_ ?_) | with_reducible refine ev_nil ?_ | ((first | ((with_reducible show evOps _ _ _ _ _ _); (first | refine ev_step rfl ?_ | refine ev_undef rfl rfl rfl ?_); intro K hK) | ((with_reducible show EvOpen _ _ _ _ _ _ _); refine ev_open ?_; intro K hK) | ((with_reducible show SkOpen _ _ _ _ _ _ _); refine sk_open ?_; intro K hK) | ((with_reducible show callK _ _ _ _ _ _ _ _); first  | fail)); simp only [evOp, evQ, evB, withS, opd, kput, putS, upd, lookup, slotsOf, newBlk, partsK, buildSliceK, ei_rows, ea_rows, Nat.zero_le, sz_termss, List.getElem?_cons_zero, List.getElem?_cons_succ, List.nil_append, List.cons_append, List.length_cons, List.length_nil, Nat.reduceEqDiff, Nat.reduceLT, Nat.reduceLeDiff, Nat.mul_one, Nat.zero_add, Nat.mod_one, List.getD_cons_zero, ↓reduceIte, eq_self, true_and, Bool.not_true, Option.isSome_some]) | refine ev_guard rfl rfl rfl ?_ ?_ | ((with_reducible show retQ _ _ _ _); simp only [eq_self]) | (with_reducible refine hK _ ?_; clear hK K) | (with_reducible refine And.intro ?_ ?_) | (with_reducible intro hc; try simp only [reduceCtorEq] at hc) | omega)
    all_goals try (exfalso; omega; done)
    have hn1 := hnew.1
    clear hnew
    have hge1 : ∀ j, j < L.length → ∀ b, Zof (F1 j) b → N ≤ b := fun j hj => NewV.ge (hn1 j hj)
    clear hn1
    refine AWP.loop_entR [0, 1] (fun x : Nat × List (List Int) × (Nat → V) => ⟨[(4, .one (.own 0 1 0 L.length)), (6, .one (.own 1 1 0 x.2.1.length)), (19, .one (.own 0 1 0 L.length)), (20, sc (.int .i64 L.length)), (21, sc (.int .i64 x.1))], [some ⟨32, L.length, F1⟩, some ⟨53, x.2.1.length, x.2.2⟩], 56⟩)
      (fun x => x.1 ≤ L.length ∧ x.2.1 = clsK L x.1 ∧ clL N L.length F1 x.2.1 x.2.2) (fun x => L.length - x.1) (0, [], fun _ => .val undef) ⟨by omega, rfl, fun q hq => by simp at hq, fun q hq => by simp at hq⟩ (by simp [EntR, EntSR, EntHR, SlR, VE, lookup, BE, upd, sc, VE.rfl']) ?_
    rintro ⟨i, out, F⟩ ⟨hi, hout, hG, hA⟩
    have hi : i ≤ L.length := hi
    have hout : out = clsK L i := hout
    have hG : gL N out.length (fun q => rowAt out q) F := hG
    have hA : ∀ q, q < out.length → ∀ j, j < L.length → Apart (F1 j) (F q) := hA
    have hok : ClsOk L i out := by rw [hout]; exact clsK_ok L i
    have hstep : clsK L (i + 1) = clsStep L out i := by rw [hout]; rfl
    by_cases him : i < L.length
    · have hol := hok.len
      repeat' (first | ((with_reducible show scopeQ _ _ _) ; first | with_reducible refine scope_ret ?_ | with_reducible refine scope_normal ?_) | (with_reducible first | refine then_normal ?_ | refine then_ret ?_ | refine then_exit ?_ | refine block_normal ?_ | refine block_ret ?_) | ((with_reducible show blockQ _ _ _ _); first | refine block_exit ?_ | refine block_exit_ne rfl ?_) | ((with_reducible show AWP _ _ _ _ _); first | (first | refine AWP.scope ?_ | refine AWP.label ?_) | (with_reducible first | refine AWP.seq ?_ | refine AWP.block ?_ | refine AWP.region ?_ | refine AWP.ret ?_ | refine AWP.exit ?_ | refine AWP.skip ?_) | refine AWP.drawn rfl (by kernel_rfl) ?_ | refine AWP.cond rfl ?_ ?_) | with_reducible refine ev_nil ?_ | ((first | ((with_reducible show evOps _ _ _ _ _ _); (first | refine ev_step rfl ?_ | refine ev_undef rfl rfl rfl ?_); intro K hK) | ((with_reducible show EvOpen _ _ _ _ _ _ _); refine ev_open ?_; intro K hK) | ((with_reducible show SkOpen _ _ _ _ _ _ _); refine sk_open ?_; intro K hK) | ((with_reducible show callK _ _ _ _ _ _ _ _); first  | fail)); simp only [evOp, evQ, evB, binK, withS, opd, kput, putS, upd, lookup, loadOwn, sz_rows, sz_termss, c_terms, List.getElem?_cons_zero, Nat.reduceEqDiff, Nat.reduceLT, Nat.mul_one, Nat.zero_add, ↓reduceIte, eq_self, true_and, Int.toNat_natCast, Option.isSome_some]) | refine ev_guard rfl rfl rfl ?_ ?_ | ((with_reducible show retQ _ _ _ _); simp only [eq_self]) | (with_reducible refine hK _ ?_; clear hK K) | (with_reducible refine And.intro ?_ ?_) | (with_reducible intro hc; try simp only [decide_eq_true_eq, decide_eq_false_iff_not, Int.not_lt] at hc) | omega)
      all_goals first
        | (exfalso; omega)
        | skip
      refine AWP.loop_entR [0, 1] (fun k : Nat => ⟨[(4, .one (.own 0 1 0 L.length)), (6, .one (.own 1 1 0 out.length)), (19, .one (.own 0 1 0 L.length)), (20, sc (.int .i64 L.length)), (21, sc (.int .i64 i)), (7, sc (.int .i64 i)), (8, .one (.pv (F1 i))), (26, .one (.own 1 1 0 out.length)), (27, sc (.int .i64 out.length)), (28, sc (.int .i64 k))], [some ⟨32, L.length, F1⟩, some ⟨53, out.length, F⟩], 56⟩)
        (fun k => k ≤ out.length ∧ ∀ j, j < k → clsP L out i j = false) (fun k => out.length - k) 0 ⟨by omega, fun j hj => by omega⟩ (by simp [EntR, EntSR, EntHR, SlR, VE, lookup, BE, upd, sc, VE.rfl']) ?_
      rintro k ⟨hk, hno⟩
      by_cases hko : k < out.length
      · obtain ⟨r1, r2, r3, r4⟩ := hok.row k hko
        have hrep : repI out k < L.length := by unfold repI; omega
        have heq := slicesEqualR_fn (L := L) (i := repI out k) (j := i) (hF1 (repI out k) hrep).1 (hF1 i him).1 (hfm _ hrep) (hfm i him)
        obtain ⟨⟨u0, Z0, hF0⟩, hN0, hA0⟩ := hG k hko
        obtain ⟨F', hF'⟩ : ∃ F', F = fun q => if q = k then .grow u0 Z0 3 1 (rowAt out k).length (fun j => vi ((rowAt out k).getD j 0)) else F' q := ⟨F, funext fun q => by
          by_cases e : q = k
          · subst e; rw [if_pos rfl]; exact hF0
          · rw [if_neg e]⟩
        subst hF'
        simp only [if_true] at hF0 hN0 hA0
        cases hp : clsP L out i k with
        | false =>
          have hp' : eqTL (nfAt L (repI out k)) (nfAt L i) = false := hp
          rw [hp'] at heq
          repeat' (first | ((with_reducible show scopeQ _ _ _) ; first | with_reducible refine scope_ret ?_ | with_reducible refine scope_normal ?_) | (with_reducible first | refine then_normal ?_ | refine then_ret ?_ | refine then_exit ?_ | refine block_normal ?_ | refine block_ret ?_) | ((with_reducible show blockQ _ _ _ _); first | refine block_exit ?_ | refine block_exit_ne rfl ?_) | ((with_reducible show AWP _ _ _ _ _); first | (first | refine AWP.scope ?_ | refine AWP.label ?_) | (with_reducible first | refine AWP.seq ?_ | refine AWP.block ?_ | refine AWP.region ?_ | refine AWP.ret ?_ | refine AWP.exit ?_ | refine AWP.skip ?_) | refine AWP.drawn rfl (by kernel_rfl) ?_ | refine AWP.cond rfl ?_ ?_) | with_reducible refine ev_nil ?_ | ((first | ((with_reducible show evOps _ _ _ _ _ _); (first | refine ev_step rfl ?_ | refine ev_undef rfl rfl rfl ?_); intro K hK) | ((with_reducible show EvOpen _ _ _ _ _ _ _); refine ev_open ?_; intro K hK) | ((with_reducible show SkOpen _ _ _ _ _ _ _); refine sk_open ?_; intro K hK) | ((with_reducible show callK _ _ _ _ _ _ _ _); first  | (refine call_scalar (heq) (Nat.le_of_ble_eq_true rfl) rfl ?_))); simp only [evOp, evQ, binK, withS, opd, kput, putS, upd, lookup, argsK, loadOwn, bringIn, bring, Res.list, Res.slot, InK_i64, appendK, srcK, growK, frz, newBlk, partsK, buildSliceK, plSlice, V.one, Value.oneCell', List.set_cons_zero, List.set_cons_succ, sz_ints, c_int, ei_ints, ea_ints, sz_rows, c_ints, ei_rows, ea_rows, sz_termss, c_terms, List.getElem?_cons_zero, List.getElem?_cons_succ, List.reverse_cons, List.reverse_nil, List.nil_append, List.cons_append, List.length_cons, List.length_nil, Nat.reduceEqDiff, Nat.reduceAdd, Nat.reduceLT, Nat.reduceLeDiff, Nat.mul_one, Nat.zero_add, Nat.mod_one, List.getD_cons_zero, ↓reduceIte, eq_self, true_and, Bool.false_eq_true, Int.toNat_natCast, Int.toNat_zero]) | refine ev_guard rfl rfl rfl ?_ ?_ | ((with_reducible show retQ _ _ _ _); simp only [eq_self]) | (with_reducible refine hK _ ?_; clear hK K) | (with_reducible refine And.intro ?_ ?_) | (with_reducible intro hc; try simp only [decide_eq_true_eq, decide_eq_false_iff_not, Int.not_lt, reduceCtorEq] at hc) | omega)
          all_goals first
            | (exfalso; omega)
            | omega
            | (exact ⟨k + 1, ⟨by omega, upto_no hno hp⟩, by omega, [0, 1], rfl, by decide, by simp [EntSR, SlR, VE, lookup, sc, VE.rfl'], BE.rfl' _, BE.rfl' _, trivial⟩)
            | trace_state
        | true =>
          have hp' : eqTL (nfAt L (repI out k)) (nfAt L i) = true := hp
          rw [hp'] at heq
          have hZ0 : ∀ b, Z0 b → N ≤ b := fun b hb => hN0 b (Zof.grow.2 hb)
          have hFq : ∀ q, q < out.length → q ≠ k → Keeps Z0 (F' q) := fun q hq hne => by
            have g1 := (hG q hq).1
            have g2 := hA0 q hq hne
            simp only [if_neg hne] at g1 g2
            exact g1.keeps fun b hb hz => g2 b (Zof.grow.2 hz) hb
          have kF1 : ∀ j, j < L.length → Keeps Z0 (F1 j) := fun j hj => Keeps.of_apart _ (isT.new (hF1 j hj).1) fun b hb hz => by
            have := hA k hko j hj
            simp only [if_true] at this
            exact this b hb (Zof.grow.2 hz)
          have hsw : ∀ q, q < out.length → ZStep Z0 [(V.grow u0 Z0 3 1 (rowAt out k).length (fun j => vi ((rowAt out k).getD j 0)), V.val u0)] (if q = k then .grow u0 Z0 3 1 (rowAt out k).length (fun j => vi ((rowAt out k).getD j 0)) else F' q) (if q = k then .val u0 else F' q) := fun q hq => by
            by_cases e : q = k
            · rw [if_pos e, if_pos e]; exact .inr (by simp)
            · rw [if_neg e, if_neg e]; exact .inl ⟨hFq q hq e, rfl⟩
          have hz : ∀ (ps : List (V × V)) (x : Value), ZStep Z0 ps (.val x) (.val x) := fun ps x => .inl ⟨trivial, rfl⟩
          repeat' (first | ((with_reducible show scopeQ _ _ _) ; first | with_reducible refine scope_ret ?_ | with_reducible refine scope_normal ?_) | ((with_reducible show evNx _ _ _ _ _ _); first | (with_reducible refine nx_done ?_) | (refine nx_one rfl ?_) | (refine nx_alt rfl ?_ ?_) | (with_reducible refine nx_st ?_)) | ((with_reducible show evSx _ _ _ _ _ _); first | (with_reducible refine sx_done ?_) | (with_reducible refine sx_st ?_) | (with_reducible refine sx_op ?_)) | ((with_reducible show evTake _ _ _ _ _); with_reducible refine take_nil ?_) | ((with_reducible show evSy _ _ _ _ _ _ _); first | (with_reducible refine sy_done ?_) | (refine sy_last rfl ?_) | (refine sy_one (by decide) rfl ?_) | (refine sy_alt (by decide) rfl ?_ ?_) | (with_reducible refine sy_st ?_)) | ((with_reducible show StK _ _ _); first | (refine stk_take (take_go (t := 43) ⟨[(4, .one (.own 0 1 0 L.length)), (6, .one (.own 1 1 0 out.length)), (19, .one (.own 0 1 0 L.length)), (20, sc (.int .i64 L.length)), (21, sc (.int .i64 i)), (41, .one (.own 1 1 0 out.length)), (42, sc (.int .i64 k)), (45, .one (.own 2 1 0 1))], [some ⟨32, L.length, F1⟩, some ⟨53, out.length, fun q => if q = k then .val u0 else F' q⟩, some ⟨3, 1, fun _ => vi i⟩], 56⟩ rfl hZ0 (fun _ _ => trivial) rfl ⟨⟨rfl, rfl, rfl, rfl⟩, ⟨rfl, rfl, rfl, rfl⟩, ⟨rfl, rfl, rfl, rfl⟩, hz _ _, hz _ _, ⟨rfl, rfl, rfl, rfl⟩, hz _ _, ⟨rfl, rfl, rfl, rfl⟩, trivial⟩ ⟨⟨rfl, Nat.le_refl _, fun j hj => .inl ⟨kF1 j hj, rfl⟩⟩, ⟨rfl, Nat.le_refl _, hsw⟩, ⟨rfl, Nat.le_refl _, one_sw trivial⟩, trivial⟩ ?_) ; simp only [upd, List.nil_append, List.cons_append, List.length_cons, List.length_nil, Nat.reduceEqDiff, Nat.reduceAdd, Nat.mul_one, Nat.zero_add, ↓reduceIte]) | (refine stk_letGrow (letGrow_go (t := 46) rfl rfl (by simp) ?_) ; intro u1 Z1 hZ1 hD1 ; simp only [upd, List.set_cons_zero, List.set_cons_succ, Nat.reduceEqDiff, ↓reduceIte, eq_self]) | fail) | (with_reducible first | refine then_normal ?_ | refine then_ret ?_ | refine then_exit ?_ | refine block_normal ?_ | refine block_ret ?_) | ((with_reducible show blockQ _ _ _ _); first | refine block_exit ?_ | refine block_exit_ne rfl ?_) | ((with_reducible show AWP _ _ _ _ _); first | (first | refine AWP.scope ?_ | refine AWP.label ?_) | (refine AWP.region_sx (id := 12) [.op, .op, .op, .op, .op, .st, .op, .st, .op, .op] ?_) | (with_reducible first | refine AWP.seq ?_ | refine AWP.block ?_ | refine AWP.region ?_ | refine AWP.ret ?_ | refine AWP.exit ?_ | refine AWP.skip ?_) | refine AWP.drawn rfl (by kernel_rfl) ?_ | refine AWP.cond rfl ?_ ?_) | with_reducible refine ev_nil ?_ | ((first | ((with_reducible show evNx _ _ _ _ _ _); refine nx_take rfl ?_; intro K hK) | ((with_reducible show Ax _ _ _ _ _); first | (refine ax_op rfl ?_; intro K hK)) | ((with_reducible show evTake _ _ _ _ _); refine take_step rfl ?_; intro K hK) | ((with_reducible show evSy _ _ _ _ _ _ _); refine sy_take rfl ?_; intro K hK) | ((with_reducible show AxB _ _ _ _ _); first | (refine axb_op rfl rfl ?_; intro K hK)) | ((with_reducible show evOps _ _ _ _ _ _); (first | refine ev_step rfl ?_ | refine ev_undef rfl rfl rfl ?_); intro K hK) | ((with_reducible show EvOpen _ _ _ _ _ _ _); refine ev_open ?_; intro K hK) | ((with_reducible show SkOpen _ _ _ _ _ _ _); refine sk_open ?_; intro K hK) | ((with_reducible show callK _ _ _ _ _ _ _ _); first  | (refine call_scalar (heq) (Nat.le_of_ble_eq_true rfl) rfl ?_))); simp only [evOp, evQ, binK, withS, opd, kput, putS, upd, lookup, argsK, loadOwn, bringIn, bring, Res.list, Res.slot, InK_i64, appendK, srcK, growK, storeK, frz, storeV, setBlk, newBlk, partsK, buildSliceK, plSlice, V.one, Value.oneCell', List.set_cons_zero, List.set_cons_succ, sz_ints, c_int, ei_ints, ea_ints, sz_rows, c_ints, ei_rows, ea_rows, sz_termss, c_terms, List.getElem?_cons_zero, List.getElem?_cons_succ, List.reverse_cons, List.reverse_nil, List.nil_append, List.cons_append, List.length_cons, List.length_nil, Nat.reduceEqDiff, Nat.reduceAdd, Nat.reduceLT, Nat.reduceLeDiff, Nat.mul_one, Nat.zero_add, Nat.mod_one, List.getD_cons_zero, ↓reduceIte, eq_self, true_and, Bool.false_eq_true, forall_const, implies_true, Int.toNat_natCast, Int.toNat_zero]) | refine ev_guard rfl rfl rfl ?_ ?_ | ((with_reducible show retQ _ _ _ _); simp only [eq_self]) | (with_reducible refine hK _ ?_; clear hK K) | (with_reducible refine And.intro ?_ ?_) | (with_reducible intro hc; try simp only [decide_eq_true_eq, decide_eq_false_iff_not, Int.not_lt, Bool.true_eq_false] at hc) | omega)
          all_goals first
            | (exfalso; omega)
            | omega
            | (rename_i q; obtain rfl : q = 0 := (by omega); rfl)
            | skip
          have hout' : clsK L (i + 1) = out.set k (rowAt out k ++ [(i : Int)]) := by rw [hstep, clsStep_hit hko hp hno]
          have hG' := gL.step (u1 := u1) (Z1 := Z1) (p' := fun q => rowAt (out.set k (rowAt out k ++ [(i : Int)])) q) hG hko (fun q hq hne => row_set_ne hne) hZ1 (fun q hq hne b hb hb' => by
            obtain ⟨Z', h1, h2⟩ := hb
            simp only [if_neg hne] at h1
            exact hD1 Z' (zst_blk (id := 1) (i := q) rfl hq (if_neg hne) h1) b h2 hb')
          refine ⟨(i + 1, out.set k (rowAt out k ++ [(i : Int)]), _), ⟨by show i + 1 ≤ L.length; omega, hout'.symm, by show gL N (out.set k _).length _ _; rw [List.length_set]; exact hG', fun q hq j hj => ?_⟩, by show L.length - (i + 1) < L.length - i; omega, [0, 1], rfl, by decide, by simp [EntSR, SlR, VE, lookup, sc, VE.rfl'], BE.rfl' _, ⟨rfl, by show (out.set k _).length ≤ out.length; rw [List.length_set]; exact Nat.le_refl _, fun q hq => ?_⟩, trivial⟩
          · have hq : q < (out.set k (rowAt out k ++ [(i : Int)])).length := hq
            rw [List.length_set] at hq
            show Apart (F1 j) (if q = k then _ else if q = k then _ else F' q)
            by_cases e : q = k
            · rw [if_pos e]
              intro b hb hb'
              obtain ⟨Z', h1, h2⟩ := hb
              exact hD1 Z' (zst_blk (id := 0) (i := j) rfl hj rfl h1) b h2 (Zof.grow.1 hb')
            · have := hA q hq j hj
              simp only [if_neg e] at this
              rw [if_neg e, if_neg e]; exact this
          · show VE (if q = k then _ else if q = k then _ else F' q) (if q = k then _ else if q = k then _ else F' q)
            by_cases e : q = k
            · rw [if_pos e, if_pos e, row_set_eq hko]
              exact grow_app
            · rw [if_neg e, if_neg e, if_neg e, if_neg e]; exact VE.rfl' _
      · obtain rfl : k = out.length := by omega
        repeat' (first | ((with_reducible show scopeQ _ _ _) ; first | with_reducible refine scope_ret ?_ | with_reducible refine scope_normal ?_) | ((with_reducible show evNx _ _ _ _ _ _); first | (with_reducible refine nx_done ?_) | (refine nx_one rfl ?_) | (refine nx_alt rfl ?_ ?_) | (with_reducible refine nx_st ?_)) | ((with_reducible show evSx _ _ _ _ _ _); first | (with_reducible refine sx_done ?_) | (with_reducible refine sx_st ?_) | (with_reducible refine sx_op ?_)) | ((with_reducible show evTake _ _ _ _ _); with_reducible refine take_nil ?_) | ((with_reducible show evSy _ _ _ _ _ _ _); first | (with_reducible refine sy_done ?_) | (refine sy_last rfl ?_) | (refine sy_one (by decide) rfl ?_) | (refine sy_alt (by decide) rfl ?_ ?_) | (with_reducible refine sy_st ?_)) | ((with_reducible show StK _ _ _); first | (refine stk_letGrow (letGrow_go (t := 51) rfl rfl (by simp) ?_) ; intro u1 Z1 hZ1 hD1 ; simp only [upd, List.set_cons_zero, List.set_cons_succ, Nat.reduceEqDiff, ↓reduceIte, eq_self]) | fail) | (with_reducible first | refine then_normal ?_ | refine then_ret ?_ | refine then_exit ?_ | refine block_normal ?_ | refine block_ret ?_) | ((with_reducible show blockQ _ _ _ _); first | refine block_exit ?_ | refine block_exit_ne rfl ?_) | ((with_reducible show AWP _ _ _ _ _); first | (first | refine AWP.scope ?_ | refine AWP.label ?_) | (refine AWP.region_sx (id := 14) [.op, .op, .op, .st, .op, .op, .op] ?_) | (with_reducible first | refine AWP.seq ?_ | refine AWP.block ?_ | refine AWP.region ?_ | refine AWP.ret ?_ | refine AWP.exit ?_ | refine AWP.skip ?_) | refine AWP.drawn rfl (by kernel_rfl) ?_ | refine AWP.cond rfl ?_ ?_) | with_reducible refine ev_nil ?_ | ((first | ((with_reducible show evNx _ _ _ _ _ _); refine nx_take rfl ?_; intro K hK) | ((with_reducible show Ax _ _ _ _ _); first | (refine ax_op rfl ?_; intro K hK)) | ((with_reducible show evTake _ _ _ _ _); refine take_step rfl ?_; intro K hK) | ((with_reducible show evSy _ _ _ _ _ _ _); refine sy_take rfl ?_; intro K hK) | ((with_reducible show AxB _ _ _ _ _); first | (refine axb_op rfl rfl ?_; intro K hK)) | ((with_reducible show evOps _ _ _ _ _ _); (first | refine ev_step rfl ?_ | refine ev_undef rfl rfl rfl ?_); intro K hK) | ((with_reducible show EvOpen _ _ _ _ _ _ _); refine ev_open ?_; intro K hK) | ((with_reducible show SkOpen _ _ _ _ _ _ _); refine sk_open ?_; intro K hK) | ((with_reducible show callK _ _ _ _ _ _ _ _); first  | fail)); simp only [evOp, evQ, binK, withS, opd, kput, putS, upd, lookup, loadOwn, InK_i64, appendK, srcK, growK, frz, newBlk, partsK, buildSliceK, plSlice, V.one, Value.oneCell', List.set_cons_zero, List.set_cons_succ, sz_ints, ei_ints, ea_ints, sz_rows, c_ints, ei_rows, ea_rows, List.getElem?_cons_zero, List.getElem?_cons_succ, List.nil_append, List.cons_append, List.length_cons, List.length_nil, Nat.reduceEqDiff, Nat.reduceAdd, Nat.reduceLT, Nat.reduceLeDiff, Nat.mul_one, Nat.zero_add, Nat.mod_one, List.getD_cons_zero, ↓reduceIte, eq_self, true_and, Bool.false_eq_true, Int.toNat_natCast]) | refine ev_guard rfl rfl rfl ?_ ?_ | ((with_reducible show retQ _ _ _ _); simp only [eq_self]) | (with_reducible refine hK _ ?_; clear hK K) | (with_reducible refine And.intro ?_ ?_) | (with_reducible intro hc; try simp only [decide_eq_true_eq, decide_eq_false_iff_not, Int.not_lt] at hc) | omega)
        all_goals first
          | (exfalso; omega)
          | omega
          | exact (hG _ (by assumption)).1.one
          | (rename_i q; obtain rfl : q = 0 := (by omega); rfl)
          | skip
        have hout' : clsK L (i + 1) = out ++ [[(i : Int)]] := by rw [hstep, clsStep_miss hno]
        have hG' := hG.app (r := [(i : Int)]) (v := .grow u1 Z1 3 1 [(i : Int)].length fun j => vi ([(i : Int)].getD j 0)) ⟨u1, Z1, rfl⟩ (fun b hb => hZ1 b (Zof.grow.1 hb)) (fun q hq b hb hb' => by
          obtain ⟨Z', h1, h2⟩ := hb
          exact hD1 Z' (zst_blk (id := 1) (i := q) rfl hq rfl h1) b h2 (Zof.grow.1 hb'))
        refine ⟨(i + 1, out ++ [[(i : Int)]], _), ⟨by show i + 1 ≤ L.length; omega, hout'.symm, hG', fun q hq j hj => ?_⟩, by show L.length - (i + 1) < L.length - i; omega, [0, 4], rfl, by decide, by simp [EntSR, SlR, VE, lookup, sc, VE.rfl'], BE.rfl' _, grow_be3 (by simp) (one_ve rfl), trivial⟩
        show Apart (F1 j) (if q = out.length then _ else F q)
        by_cases e : q = out.length
        · rw [if_pos e]
          intro b hb hb'
          obtain ⟨Z', h1, h2⟩ := hb
          exact hD1 Z' (zst_blk (id := 0) (i := j) rfl hj rfl h1) b h2 (Zof.grow.1 hb')
        · have hq : q < (out ++ [[(i : Int)]]).length := hq
          rw [List.length_append, List.length_singleton] at hq
          rw [if_neg e]; exact hA q (by omega) j hj
    · obtain rfl : i = L.length := by omega
      rw [← hout]
      have hG : gL N out.length (fun q => rowAt out q) F := hG
      repeat' (first | ((with_reducible show scopeQ _ _ _) ; first | with_reducible refine scope_ret ?_ | with_reducible refine scope_normal ?_) | (with_reducible first | refine then_normal ?_ | refine then_ret ?_ | refine then_exit ?_ | refine block_normal ?_ | refine block_ret ?_) | ((with_reducible show blockQ _ _ _ _); first | refine block_exit ?_ | refine block_exit_ne rfl ?_) | ((with_reducible show AWP _ _ _ _ _); first | (first | refine AWP.scope ?_ | refine AWP.label ?_) | (with_reducible first | refine AWP.seq ?_ | refine AWP.block ?_ | refine AWP.region ?_ | refine AWP.ret ?_ | refine AWP.exit ?_ | refine AWP.skip ?_) | refine AWP.drawn rfl (by kernel_rfl) ?_ | refine AWP.cond rfl ?_ ?_) | with_reducible refine ev_nil ?_ | ((first | ((with_reducible show evOps _ _ _ _ _ _); (first | refine ev_step rfl ?_ | refine ev_undef rfl rfl rfl ?_); intro K hK) | ((with_reducible show EvOpen _ _ _ _ _ _ _); refine ev_open ?_; intro K hK) | ((with_reducible show SkOpen _ _ _ _ _ _ _); refine sk_open ?_; intro K hK) | ((with_reducible show callK _ _ _ _ _ _ _ _); first  | fail)); simp only [evOp, evQ, evB, binK, withS, opd, kput, putS, upd, lookup, loadOwn, sz_rows, sz_termss, c_terms, List.getElem?_cons_zero, Nat.reduceEqDiff, Nat.reduceLT, Nat.mul_one, Nat.zero_add, ↓reduceIte, eq_self, true_and, Int.toNat_natCast, Option.isSome_some]) | refine ev_guard rfl rfl rfl ?_ ?_ | ((with_reducible show retQ _ _ _ _); simp only [eq_self]) | (with_reducible refine hK _ ?_; clear hK K) | (with_reducible refine And.intro ?_ ?_) | (with_reducible intro hc; try simp only [decide_eq_true_eq, decide_eq_false_iff_not, Int.not_lt] at hc) | omega)
      all_goals first
        | (exfalso; omega)
        | skip
      refine ⟨_, ⟨fun q => rowOfG (F q), fun q hq => ⟨(hG q hq).1.row.1, fun r hr hne b hb hb' => ?_⟩, rfl⟩, ⟨fun q hq => NewV.of_zof (isRow.new (hG q hq).1.row.1) fun b hb => (hG q hq).2.1 b (((hG q hq).1.row.2.2 b).1 hb), trivial, trivial⟩, ?_⟩
      · exact (hG q hq).2.2 r hr hne b (((hG q hq).1.row.2.2 b).1 hb) (((hG r hr).1.row.2.2 b).1 hb')
      · simp only [retOk, getL, lookup, Option.map_some, fitsL, fits, ND, srcs, Res.list, VE, List.getElem?_cons_zero, List.getElem?_cons_succ, Nat.reduceEqDiff, ↓reduceIte, and_true, true_and]
        exact ⟨⟨_, rfl, rfl, Nat.le_refl _, fun q hq => (hG q hq).1.row.2.1⟩, by simp⟩

open Go.RowKit Go.Proofs
set_option linter.unusedSimpArgs false
set_option linter.unusedVariables false

/-- The classes while one more thing is put in. -/
def inOk (L : List (List T3)) (out : List (List Int)) (i k : Nat) (out' : List (List Int)) (fd : Bool) : Prop := (fd = false ∧ out' = out ∧ ∀ j, j < k → clsP L out i j = false) ∨ (fd = true ∧ ∃ q, q < k ∧ q < out.length ∧ clsP L out i q = true ∧ out' = out.set q (rowAt out q ++ [(i : Int)]))
theorem inOk.done {L : List (List T3)} {out out' : List (List Int)} {i : Nat} (h : inOk L out i out.length out' true) (hok : ClsOk L i out) : clsStep L out i = out' := by
  rcases h with ⟨h1, _⟩ | ⟨_, q, _, h2, h3, rfl⟩
  · cases h1
  · exact clsStep_hit h2 h3 fun j hj => hok.one h2 (by omega) h3 (by omega)
theorem inOk.none {L : List (List T3)} {out out' : List (List Int)} {i : Nat} (h : inOk L out i out.length out' false) : out' = out ∧ clsStep L out i = out ++ [[(i : Int)]] := by
  rcases h with ⟨_, h2, h3⟩ | ⟨h1, _⟩
  · exact ⟨h2, clsStep_miss h3⟩
  · cases h1

theorem inOk.len {L : List (List T3)} {out out' : List (List Int)} {i k : Nat} {fd : Bool} (h : inOk L out i k out' fd) : out'.length = out.length := by
  rcases h with ⟨_, rfl, _⟩ | ⟨_, q, _, _, _, rfl⟩
  · rfl
  · rw [List.length_set]
end Go.Proofs.YteapdildbfimnaaGreatDoor
