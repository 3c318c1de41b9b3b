/- Drawn bounds: some lists. No conditions but that the cursor has not been moved 2^39 times. -/
import Derived.Test.YtpimjkhfookipaaFnCur3
import Derived.Test.YtpimjkhfookipaaFnB
namespace Go.Proofs.Ytpimjkhfookipaa
open Go.RowKit Go.Proofs
theorem z_cur : zeroOf Try.prog 113 = some [.slice none 0 0, .int .i64 0, .int .u64 0] := by kernel_rfl
theorem pl_cur : placesOf Try.prog 113 = some [(0, 1), (1, 1), (2, 1)] := by kernel_rfl
theorem c_cur : cellsIn Try.prog 113 = some (some 3) := by kernel_rfl
theorem fc_0 : fieldIn Try.prog 113 0 = some (0, none) := by kernel_rfl
set_option linter.unusedSimpArgs false
set_option linter.unusedVariables false
set_option maxRecDepth 20000

theorem sm7 {x y z : Int} (h : -4 ≤ x ∧ x ≤ 8) (h' : -4 ≤ y ∧ y ≤ 8) (h2 : big64 z) : big64 0 ∧ big64 1 ∧ big64 (-1) ∧ big64 2 ∧ big64 x ∧ big64 y ∧ big64 z := by unfold big64 at *; omega

/-- Two lists of which p holds. -/
def some2L (p : List Int → Prop) : Res → Prop := fun r => ∃ l h : List Int, (p l ∧ p h) ∧ r = .many [.fr 1 l.length (bints l), .fr 1 h.length (bints h)]
theorem some2L.shape {p : List Int → Prop} (r : Res) (h : some2L p r) : r.shape 2 = true := by obtain ⟨x, y, _, rfl⟩ := h; rfl
section
variable {b m : Nat} {Z : Nat → Prop} {g : Nat → Int}

theorem place_fn (k : Nat) (hk : k ≤ 549755811000) (hb : BytOk m g) : FnC Try.prog 208 b k (k + 10) Z (bytV m g) [] (someI big64) := by
  refine FnC.of_body Try.call208 Try.func208 rfl Try.ntmps208 (ts := [2]) rfl (by simp) (someI.shape) (fun N cx hcx hbN => ?_)
  repeat' (first | ((with_reducible show evNx _ _ _ _ _ _); first | (with_reducible refine nx_done ?_) | (refine nx_one rfl ?_) | (refine nx_alt rfl ?_ ?_) | (with_reducible refine nx_st ?_)) | ((with_reducible show evSx _ _ _ _ _ _); first | (with_reducible refine sx_done ?_) | (with_reducible refine sx_st ?_) | (with_reducible refine sx_op ?_)) | ((with_reducible show evTake _ _ _ _ _); with_reducible refine take_nil ?_) | ((with_reducible show evSy _ _ _ _ _ _ _); first | (with_reducible refine sy_done ?_) | (refine sy_last rfl ?_) | (refine sy_one (by decide) rfl ?_) | (refine sy_alt (by decide) rfl ?_ ?_) | (with_reducible refine sy_st ?_)) | ((with_reducible show StK _ _ _); first | fail) | (with_reducible first | refine then_normal ?_ | refine then_ret ?_ | refine then_exit ?_ | refine block_normal ?_ | refine block_ret ?_) | ((with_reducible show blockQ _ _ _ _); first | refine block_exit ?_ | refine block_exit_ne rfl ?_) | ((with_reducible show AWP _ _ _ _ _); first | (refine AWP.region_sx (id := 1) [.op, .op, .op, .op, .op, .op, .op, .op, .op, .op, .op] ?_) | (with_reducible first | refine AWP.seq ?_ | refine AWP.block ?_ | refine AWP.region ?_ | refine AWP.ret ?_ | refine AWP.exit ?_ | refine AWP.skip ?_) | refine AWP.drawn rfl (by kernel_rfl) ?_ | refine AWP.cond rfl ?_ ?_) | with_reducible refine ev_nil ?_ | ((first | ((with_reducible show evNx _ _ _ _ _ _); refine nx_take rfl ?_; intro K hK) | ((with_reducible show Ax _ _ _ _ _); first | ((first | refine ax_callC (f := 143) ?_ | refine ax_callC (f := 110) ?_); refine callC_go (x := _) (xs := _) rfl rfl rfl (by first | exact .inl (by rw [hcx]; exact rfl) | exact .inr (by assumption)) (by (try simp only [okS, okSl, okH, eq_self, true_and, and_true, and_self]); repeat' (first | exact trivial | exact rfl | exact disj_cut | exact disj_lt (by assumption) | assumption | omega | refine And.intro ?_ ?_ | (intro i hi; first | exact trivial | (split <;> first | exact trivial | exact disj_lt (by assumption) | exact disj_cut) | (repeat' split) <;> exact trivial))) (by (try simp only [okS, okSl, okH, eq_self, true_and, and_true, and_self]); repeat' (first | exact trivial | exact rfl | exact disj_cut | exact disj_lt (by assumption) | assumption | omega | refine And.intro ?_ ?_ | (intro i hi; first | exact trivial | (split <;> first | exact trivial | exact disj_lt (by assumption) | exact disj_cut) | (repeat' split) <;> exact trivial))) (fun K1 hK1 => by simp only [argsC, opd, lookup, Nat.zero_add, Nat.reduceEqDiff, ↓reduceIte, List.getElem?_cons_zero, List.getElem?_cons_succ, List.reverse_cons, List.reverse_nil, List.nil_append, List.cons_append]; repeat' (first | exact hK1 | exact trivial | exact disj_cut | assumption | omega | refine And.intro ?_ ?_)) ?_; first | (refine ⟨_, _, small_fn _ (by omega) hb, ?_⟩; rintro _ ⟨x, hx, rfl⟩ hnewZ; clear hnewZ) | (refine ⟨_, _, among6_fn _ _ _ _ _ _ _ _ big64 (by omega) hb rfl rfl rfl rfl rfl rfl (by decide), ?_⟩; rintro _ ⟨z, hz, rfl⟩ hnewZ; clear hnewZ) | (refine ⟨_, _, among7_fn _ _ _ _ _ _ _ _ _ big64 (by omega) hb rfl rfl rfl rfl rfl rfl rfl (sm7 (by assumption) (by assumption) (by assumption)), ?_⟩; rintro _ ⟨y, hy, rfl⟩ hnewZ; clear hnewZ)) | (refine ax_op rfl ?_; intro K hK)) | ((with_reducible show evTake _ _ _ _ _); refine take_step rfl ?_; intro K hK) | ((with_reducible show evSy _ _ _ _ _ _ _); refine sy_take rfl ?_; intro K hK) | ((with_reducible show AxB _ _ _ _ _); first | (refine axb_op rfl rfl ?_; intro K hK)) | ((with_reducible show evOps _ _ _ _ _ _); (first | refine ev_step rfl ?_ | refine ev_undef rfl rfl rfl ?_); intro K hK) | ((with_reducible show EvOpen _ _ _ _ _ _ _); refine ev_open ?_; intro K hK) | ((with_reducible show SkOpen _ _ _ _ _ _ _); refine sk_open ?_; intro K hK) | ((with_reducible show callK _ _ _ _ _ _ _ _); first  | fail)); simp only [evOp, evQ, withS, opd, kput, putS, upd, lookup, bringIn, bring, Res.list, Res.slot, slotsOf, frz, newBlk, partsK, buildSliceK, plSlice, V.one, Value.oneCell', ei_ints, ea_ints, swpS, swSl, List.map_nil, List.nil_append, List.cons_append, List.length_cons, List.length_nil, Nat.reduceEqDiff, Nat.reduceLT, Nat.reduceLeDiff, Nat.mul_one, Nat.zero_add, Nat.mod_one, List.getD_cons_zero, ↓reduceIte, eq_self, true_and, Bool.false_eq_true]) | refine ev_guard rfl rfl rfl ?_ ?_ | ((with_reducible show retQ _ _ _ _); simp only [eq_self]) | (with_reducible refine hK _ ?_; clear hK K) | (with_reducible refine And.intro ?_ ?_) | (with_reducible intro hc; try simp only [eq_self] at hc) | omega)
  all_goals first
    | ((repeat' split) <;> rfl)
    | exact retC_int rfl rfl (by omega) (by assumption)
    | trace_state

end

open Go.RowKit Go.Proofs
set_option linter.unusedSimpArgs false
set_option linter.unusedVariables false
set_option maxRecDepth 20000

theorem AWP.letCur_rg [Cx] {P : Program} {N id : Nat} {ops : Array Oper} {d : Bool} {Q : Exit → ASt → Prop} {s : ASt} (t : Nat) {i : Nat} {blk : Blk} {Z : Nat → Prop} {c : V} (ht : lookup s.σ t = some (.one (.ptr i 0))) (hb : s.h[i]? = some (some blk)) (hn : Nat.ble 3 blk.n = true) (h0 : blk.f 0 = .old Z c) (h1 : blk.f 1 = .val (.int .i64 0)) (h2 : blk.f 2 = .val (.int .u64 0)) (hZ : ∀ j, Z j → j < N)
    (h : ∀ b, N ≤ b → AWP N P (.region id ops d) Q ⟨upd s.σ t (.one (.pv (.cur b 0 Z c))), s.h.set i none, s.nt⟩) : AWP N P (.region id ops d) Q s :=
  AWP.letCur t ⟨i, blk, Z, c, ht, hb, Nat.le_of_ble_eq_true hn, h0, h1, h2, hZ, fun b hb _ => h b hb⟩

/-- Three lists of which p holds. -/
def some3L (p : List Int → Prop) : Res → Prop := fun r => ∃ l h q : List Int, (p l ∧ p h ∧ p q) ∧ r = .many [.fr 1 l.length (bints l), .fr 1 h.length (bints h), .fr 1 q.length (bints q)]
theorem some3L.shape {p : List Int → Prop} (r : Res) (h : some3L p r) : r.shape 3 = true := by obtain ⟨x, y, z, _, rfl⟩ := h; rfl
/-- Two lists of which p holds, and an integer. -/
def some2I (p : List Int → Prop) : Res → Prop := fun r => ∃ (l h : List Int) (x : Int), (p l ∧ p h ∧ big64 x) ∧ r = .many [.fr 1 l.length (bints l), .fr 1 h.length (bints h), .pv (vi x)]
theorem some2I.shape {p : List Int → Prop} (r : Res) (h : some2I p r) : r.shape 3 = true := by obtain ⟨x, y, z, _, rfl⟩ := h; rfl

section
variable {m : Nat} {g : Nat → Int}
end

end Go.Proofs.Ytpimjkhfookipaa
