/- Parts of the proof of LawFnParts: contracts of functions, laws of an abstract state, plain facts. No conditions. -/
import Derived.Test.YteapdildbfimnaaB09
import Derived.WalkKit
import Derived.Shelf.RegionOpenPlain
import Derived.Lib.Walk
import Derived.Shelf.SlSortCmp.Xorshift
import Derived.Deep.LoopGhost
import Derived.Sort.WalkB2
import Derived.Sort.WalkB12
import Derived.Test.YteapdildbfimnaaShelf
namespace Go.Proofs.Yteapdildbfimnaa
open Go.RowKit Go.Proofs
set_option linter.unusedSimpArgs false
set_option linter.unusedVariables false
set_option maxRecDepth 20000

theorem Srt.next {a i : Nat} {d : Nat → Int} (h : Srt a i d) (h1 : a + 1 ≤ i) (h2 : d (i - 1) ≤ d i) : Srt a (i + 1) d := fun p q k1 k2 k3 => by
  by_cases hq : q = i
  · subst hq
    by_cases hp : p = q - 1
    · rw [hp]; exact h2
    · exact Int.le_trans (h p (q - 1) k1 (by omega) (by omega)) h2
  · exact h p q k1 k2 (by omega)
/-- The cells hold some d', a truth value comes back. -/
def boolR (p : (Nat → Int) → Bool → Prop) (D' : Nat → V) (v : Value) : Prop := ∃ d' q, D' = vuF d' ∧ p d' q ∧ v = .bool q
set_option maxHeartbeats 16000000 in
theorem partialInsertion_m (n : Nat) (d : Nat → Int) (a b : Nat) (hab : a < b) (hbn : b ≤ n) (hn : n ≤ 1099511627776) (h0 : Ahd a b d) : FnM Try.prog 134 n (vuF d) [.int .i64 a, .int .i64 b] (boolR fun d' q => Pm a b d d' ∧ (q = true → Srt a b d')) := by
  refine FnM.of_body (ts := [6]) Try.call134 Try.func134 rfl Try.ntmps134 rfl (by simp) vuF_val (fun N bk c e cx hcx hbN hnc => ?_)
  repeat' (first | (with_reducible first | refine then_normal ?_ | refine then_ret ?_ | refine then_exit ?_ | refine block_normal ?_ | refine block_ret ?_) | ((with_reducible show blockQ _ _ _ _); first | refine block_exit ?_ | refine block_exit_ne rfl ?_) | ((with_reducible show AWP _ _ _ _ _); first | (with_reducible first | refine AWP.seq ?_ | refine AWP.block ?_ | refine AWP.region ?_ | refine AWP.ret ?_ | refine AWP.exit ?_ | refine AWP.skip ?_) | refine AWP.drawn rfl (by kernel_rfl) ?_ | refine AWP.cond rfl ?_ ?_) | with_reducible refine ev_nil ?_ | ((first | ((with_reducible show evOps _ _ _ _ _ _); (first | refine ev_step rfl ?_ | refine ev_undef rfl rfl rfl ?_); intro K hK) | ((with_reducible show EvOpen _ _ _ _ _ _ _); refine ev_open ?_; intro K hK) | ((with_reducible show SkOpen _ _ _ _ _ _ _); refine sk_open ?_; intro K hK) | ((with_reducible show callK _ _ _ _ _ _ _ _); first | fail)); simp only [evOp, evQ, binK, withS, opd, kput, putS, upd, lookup, slotsOf, InK_i64, upd, List.map_cons, List.map_nil, Nat.reduceEqDiff, Nat.reduceAdd, Nat.reduceLT, Nat.zero_add, ↓reduceIte, eq_self, true_and]) | refine ev_guard rfl rfl rfl ?_ ?_ | ((with_reducible show retQ _ _ _ _); simp only [eq_self]) | (with_reducible refine hK _ ?_; clear hK K) | (with_reducible refine And.intro ?_ ?_) | (with_reducible intro hc; try simp only [eq_self] at hc) | omega)
  refine AWP.loop_entR [] (fun y : (Nat × Nat) × (Nat → Int) => ⟨[(0, .one (.pv (.grow (.slice (some ⟨bk, 0, none⟩) n c) (isB bk) e 1 n (vuF y.2)))), (1, sc (.int .i64 (a))), (2, sc (.int .i64 (b))), (7, sc (.int .i64 (y.1.1))), (8, sc (.int .i64 (y.1.2)))], [], 133⟩) (fun y => y.1.2 ≤ 5 ∧ a + 1 ≤ y.1.1 ∧ y.1.1 ≤ b ∧ Pm a b d y.2 ∧ Srt a y.1.1 y.2) (fun y => 5 - y.1.2) ((a + 1, 0), d) ⟨by show (0 : Nat) ≤ 5; omega, Nat.le_refl _, by show a + 1 ≤ b; omega, Pm.refl _ _ _, Srt.short (Nat.le_refl _)⟩ ⟨rfl, by decide, ⟨VE.rfl' _, vi_eq (by first | omega | (simp; done) | (simp; omega) | (dsimp only; push_cast; omega)), vi_eq (by first | omega | (simp; done) | (simp; omega) | (dsimp only; push_cast; omega)), vi_eq (by first | omega | (simp; done) | (simp; omega) | (dsimp only; push_cast; omega)), vi_eq (by first | omega | (simp; done) | (simp; omega) | (dsimp only; push_cast; omega)), trivial⟩, trivial⟩ ?_
  rintro ⟨⟨i0, s⟩, d1⟩ ⟨hs5, k1, k2, hpm, hsr⟩
  dsimp only at hs5 k1 k2 hpm hsr ⊢
  by_cases hs : s = 5
  · subst hs
    repeat' (first | (with_reducible first | refine then_normal ?_ | refine then_ret ?_ | refine then_exit ?_ | refine block_normal ?_ | refine block_ret ?_) | ((with_reducible show blockQ _ _ _ _); first | refine block_exit ?_ | refine block_exit_ne rfl ?_) | ((with_reducible show AWP _ _ _ _ _); first | (with_reducible first | refine AWP.seq ?_ | refine AWP.block ?_ | refine AWP.region ?_ | refine AWP.ret ?_ | refine AWP.exit ?_ | refine AWP.skip ?_) | refine AWP.drawn rfl (by kernel_rfl) ?_ | refine AWP.cond rfl ?_ ?_) | with_reducible refine ev_nil ?_ | ((first | ((with_reducible show evOps _ _ _ _ _ _); (first | refine ev_step rfl ?_ | refine ev_undef rfl rfl rfl ?_); intro K hK) | ((with_reducible show EvOpen _ _ _ _ _ _ _); refine ev_open ?_; intro K hK) | ((with_reducible show SkOpen _ _ _ _ _ _ _); refine sk_open ?_; intro K hK) | ((with_reducible show callK _ _ _ _ _ _ _ _); first | fail)); simp only [evOp, evQ, binK, withS, opd, kput, putS, upd, lookup, upd, Nat.reduceEqDiff, Nat.reduceLT, ↓reduceIte, eq_self, true_and]) | refine ev_guard rfl rfl rfl ?_ ?_ | ((with_reducible show retQ _ _ _ _); simp only [eq_self]) | (with_reducible refine hK _ ?_; clear hK K) | (with_reducible refine And.intro ?_ ?_) | (with_reducible intro hc; try simp only [decide_eq_true_eq, decide_eq_false_iff_not, Int.not_lt] at hc) | omega)
    all_goals first
      | (exfalso; omega; done)
      | exact ⟨_, _, rfl, vuF_val, rfl, d1, false, rfl, ⟨hpm, fun h => by cases h⟩, rfl⟩
      | trace_state
  repeat' (first | (with_reducible first | refine then_normal ?_ | refine then_ret ?_ | refine then_exit ?_ | refine block_normal ?_ | refine block_ret ?_) | ((with_reducible show blockQ _ _ _ _); first | refine block_exit ?_ | refine block_exit_ne rfl ?_) | ((with_reducible show AWP _ _ _ _ _); first | (refine AWP.seq_cutB (id := 2) (fun i : Nat => ⟨[(0, .one (.pv (.grow (.slice (some ⟨bk, 0, none⟩) n c) (isB bk) e 1 n (vuF d1)))), (1, sc (.int .i64 (a))), (2, sc (.int .i64 (b))), (7, sc (.int .i64 (i))), (8, sc (.int .i64 (s)))], [], 133⟩) (fun i => a + 1 ≤ i ∧ i ≤ b ∧ Srt a i d1 ∧ (i < b → d1 i < d1 (i - 1))) ?_ ?_) | (with_reducible first | refine AWP.seq ?_ | refine AWP.block ?_ | refine AWP.region ?_ | refine AWP.ret ?_ | refine AWP.exit ?_ | refine AWP.skip ?_) | refine AWP.drawn rfl (by kernel_rfl) ?_ | refine AWP.cond rfl ?_ ?_) | with_reducible refine ev_nil ?_ | ((first | ((with_reducible show evOps _ _ _ _ _ _); (first | refine ev_step rfl ?_ | refine ev_undef rfl rfl rfl ?_); intro K hK) | ((with_reducible show EvOpen _ _ _ _ _ _ _); refine ev_open ?_; intro K hK) | ((with_reducible show SkOpen _ _ _ _ _ _ _); refine sk_open ?_; intro K hK) | ((with_reducible show callK _ _ _ _ _ _ _ _); first  | fail)); simp only [evOp, evQ, binK, withS, opd, kput, putS, upd, lookup, upd, Nat.reduceEqDiff, Nat.reduceLT, ↓reduceIte, eq_self, true_and]) | refine ev_guard rfl rfl rfl ?_ ?_ | ((with_reducible show retQ _ _ _ _); simp only [eq_self]) | (with_reducible refine hK _ ?_; clear hK K) | (with_reducible refine And.intro ?_ ?_) | (with_reducible intro hc; try simp only [decide_eq_true_eq, decide_eq_false_iff_not, Int.not_lt] at hc) | omega)
  all_goals try (exfalso; omega; done)
  · refine AWP.loop_entR [] (fun i : Nat => ⟨[(0, .one (.pv (.grow (.slice (some ⟨bk, 0, none⟩) n c) (isB bk) e 1 n (vuF d1)))), (1, sc (.int .i64 (a))), (2, sc (.int .i64 (b))), (7, sc (.int .i64 (i))), (8, sc (.int .i64 (s)))], [], 133⟩) (fun i => a + 1 ≤ i ∧ i ≤ b ∧ Srt a i d1) (fun i => b - i) i0 ⟨k1, k2, hsr⟩ ⟨rfl, by decide, ⟨VE.rfl' _, vi_eq (by first | omega | (simp; done) | (simp; omega) | (dsimp only; push_cast; omega)), vi_eq (by first | omega | (simp; done) | (simp; omega) | (dsimp only; push_cast; omega)), vi_eq (by first | omega | (simp; done) | (simp; omega) | (dsimp only; push_cast; omega)), vi_eq (by first | omega | (simp; done) | (simp; omega) | (dsimp only; push_cast; omega)), trivial⟩, trivial⟩ ?_
    clear k1 k2 hsr
    rintro i ⟨k1, k2, hsr⟩
    have ei : ((i : Int) - 1).toNat = i - 1 := by omega
    by_cases hib : i < b
    · repeat' (first | (with_reducible first | refine then_normal ?_ | refine then_ret ?_ | refine then_exit ?_ | refine block_normal ?_ | refine block_ret ?_) | ((with_reducible show blockQ _ _ _ _); first | refine block_exit ?_ | refine block_exit_ne rfl ?_) | ((with_reducible show AWP _ _ _ _ _); first | (with_reducible first | refine AWP.seq ?_ | refine AWP.block ?_ | refine AWP.region ?_ | refine AWP.ret ?_ | refine AWP.exit ?_ | refine AWP.skip ?_) | refine AWP.drawn rfl (by kernel_rfl) ?_ | refine AWP.cond rfl ?_ ?_) | with_reducible refine ev_nil ?_ | ((first | ((with_reducible show evOps _ _ _ _ _ _); (first | refine ev_step rfl ?_ | refine ev_undef rfl rfl rfl ?_); intro K hK) | ((with_reducible show EvOpen _ _ _ _ _ _ _); refine ev_open ?_; intro K hK) | ((with_reducible show SkOpen _ _ _ _ _ _ _); refine sk_open ?_; intro K hK) | ((with_reducible show callK _ _ _ _ _ _ _ _); first  | (refine call_scalar (less_fn _ _) (Nat.le_of_ble_eq_true rfl) rfl ?_))); simp only [evOp, evQ, binK, withS, opd, kput, putS, upd, lookup, skipOp, argsK, bringIn, bring, Res.list, Res.slot, InK_i64, sz_bytes, c_u8, upd, List.reverse_cons, List.reverse_nil, List.nil_append, List.cons_append, Nat.reduceEqDiff, Nat.reduceLT, Nat.mul_one, Nat.add_zero, ↓reduceIte, eq_self, true_and, and_true, Bool.not_true, Bool.true_eq_false, Bool.false_eq_true, false_implies, forall_const, Int.toNat_natCast]) | refine ev_guard rfl rfl rfl ?_ ?_ | ((with_reducible show retQ _ _ _ _); simp only [eq_self]) | (with_reducible refine hK _ ?_; clear hK K) | (with_reducible refine And.intro ?_ ?_) | (with_reducible intro hc; try simp only [decide_eq_true_eq, decide_eq_false_iff_not, Bool.not_eq_true', Bool.not_eq_false', Bool.not_true, Int.not_lt, reduceCtorEq, Bool.true_eq_false] at hc) | omega)
      all_goals simp only [Int.toNat_natCast, ei] at *
      all_goals first
        | (exfalso; omega; done)
        | exact ⟨i + 1, ⟨by omega, by omega, hsr.next (by omega) (by omega)⟩, by omega, [], ⟨rfl, by decide, ⟨VE.rfl' _, vi_eq (by first | omega | (simp; done) | (simp; omega) | (dsimp only; push_cast; omega)), vi_eq (by first | omega | (simp; done) | (simp; omega) | (dsimp only; push_cast; omega)), vi_eq (by first | omega | (simp; done) | (simp; omega) | (dsimp only; push_cast; omega)), vi_eq (by first | omega | (simp; done) | (simp; omega) | (dsimp only; push_cast; omega)), trivial⟩, trivial⟩⟩
        | exact ⟨i, ⟨k1, k2, hsr, fun _ => by omega⟩, [], ⟨rfl, by decide, ⟨VE.rfl' _, vi_eq (by first | omega | (simp; done) | (simp; omega) | (dsimp only; push_cast; omega)), vi_eq (by first | omega | (simp; done) | (simp; omega) | (dsimp only; push_cast; omega)), vi_eq (by first | omega | (simp; done) | (simp; omega) | (dsimp only; push_cast; omega)), vi_eq (by first | omega | (simp; done) | (simp; omega) | (dsimp only; push_cast; omega)), trivial⟩, trivial⟩⟩
        | trace_state
    · repeat' (first | (with_reducible first | refine then_normal ?_ | refine then_ret ?_ | refine then_exit ?_ | refine block_normal ?_ | refine block_ret ?_) | ((with_reducible show blockQ _ _ _ _); first | refine block_exit ?_ | refine block_exit_ne rfl ?_) | ((with_reducible show AWP _ _ _ _ _); first | (with_reducible first | refine AWP.seq ?_ | refine AWP.block ?_ | refine AWP.region ?_ | refine AWP.ret ?_ | refine AWP.exit ?_ | refine AWP.skip ?_) | refine AWP.drawn rfl (by kernel_rfl) ?_ | refine AWP.cond rfl ?_ ?_) | with_reducible refine ev_nil ?_ | ((first | ((with_reducible show evOps _ _ _ _ _ _); (first | refine ev_step rfl ?_ | refine ev_undef rfl rfl rfl ?_); intro K hK) | ((with_reducible show EvOpen _ _ _ _ _ _ _); refine ev_open ?_; intro K hK) | ((with_reducible show SkOpen _ _ _ _ _ _ _); refine sk_open ?_; intro K hK) | ((with_reducible show callK _ _ _ _ _ _ _ _); first | fail)); simp only [evOp, evQ, binK, withS, opd, kput, putS, upd, lookup, skipOp, argsK, InK_i64, sz_bytes, c_u8, upd, List.reverse_cons, List.reverse_nil, List.nil_append, List.cons_append, Nat.reduceEqDiff, Nat.reduceLT, Nat.mul_one, Nat.add_zero, ↓reduceIte, eq_self, true_and, Bool.not_true, Bool.false_eq_true, false_implies, forall_const, Int.toNat_natCast]) | refine ev_guard rfl rfl rfl ?_ ?_ | ((with_reducible show retQ _ _ _ _); simp only [eq_self]) | (with_reducible refine hK _ ?_; clear hK K) | (with_reducible refine And.intro ?_ ?_) | (with_reducible intro hc; try simp only [decide_eq_true_eq, decide_eq_false_iff_not, Bool.not_true, Int.not_lt, reduceCtorEq, Bool.true_eq_false] at hc) | omega)
      all_goals first
        | (exfalso; omega; done)
        | exact ⟨i, ⟨k1, k2, hsr, fun h => by omega⟩, [], ⟨rfl, by decide, ⟨VE.rfl' _, vi_eq (by first | omega | (simp; done) | (simp; omega) | (dsimp only; push_cast; omega)), vi_eq (by first | omega | (simp; done) | (simp; omega) | (dsimp only; push_cast; omega)), vi_eq (by first | omega | (simp; done) | (simp; omega) | (dsimp only; push_cast; omega)), vi_eq (by first | omega | (simp; done) | (simp; omega) | (dsimp only; push_cast; omega)), trivial⟩, trivial⟩⟩
        | trace_state
  clear k1 k2 hsr
  rintro i ⟨k1, k2, hsr, hlt⟩
  have ei : ((i : Int) - 1).toNat = i - 1 := by omega
  by_cases hib : i = b
  · subst hib
    repeat' (first | (with_reducible first | refine then_normal ?_ | refine then_ret ?_ | refine then_exit ?_ | refine block_normal ?_ | refine block_ret ?_) | ((with_reducible show blockQ _ _ _ _); first | refine block_exit ?_ | refine block_exit_ne rfl ?_) | ((with_reducible show AWP _ _ _ _ _); first | (with_reducible first | refine AWP.seq ?_ | refine AWP.block ?_ | refine AWP.region ?_ | refine AWP.ret ?_ | refine AWP.exit ?_ | refine AWP.skip ?_) | refine AWP.drawn rfl (by kernel_rfl) ?_ | refine AWP.cond rfl ?_ ?_) | with_reducible refine ev_nil ?_ | ((first | ((with_reducible show evOps _ _ _ _ _ _); (first | refine ev_step rfl ?_ | refine ev_undef rfl rfl rfl ?_); intro K hK) | ((with_reducible show EvOpen _ _ _ _ _ _ _); refine ev_open ?_; intro K hK) | ((with_reducible show SkOpen _ _ _ _ _ _ _); refine sk_open ?_; intro K hK) | ((with_reducible show callK _ _ _ _ _ _ _ _); first | fail)); simp only [evOp, evQ, binK, withS, opd, kput, putS, upd, lookup, upd, Nat.reduceEqDiff, Nat.reduceLT, ↓reduceIte, eq_self, true_and]) | refine ev_guard rfl rfl rfl ?_ ?_ | ((with_reducible show retQ _ _ _ _); simp only [eq_self]) | (with_reducible refine hK _ ?_; clear hK K) | (with_reducible refine And.intro ?_ ?_) | (with_reducible intro hc; try simp only [beq_iff_eq, beq_eq_false_iff_ne, ne_eq, not_true_eq_false] at hc) | omega)
    all_goals first
      | (exfalso; omega; done)
      | exact ⟨_, _, rfl, vuF_val, rfl, d1, true, rfl, ⟨hpm, fun _ => hsr⟩, rfl⟩
      | trace_state
  have hlt := hlt (by omega)
  repeat' (first | ((with_reducible show Ax _ _ _ _ _); (first | ((with_reducible show Ax _ _ _ (Oper.mk _ (Op.indexAddr _ _ _) _ _ _ _) _); refine ax_addr rfl rfl sz_bytes (by omega) (by omega) rfl ?_; simp only [putS, upd, upd, Nat.reduceEqDiff, ↓reduceIte, true_and, Int.toNat_natCast]) | ((with_reducible show Ax _ _ _ (Oper.mk none (Op.store _ _ _) _ _ _ _) _); refine ax_storeR 0 rfl rfl rfl rfl c_u8 (by omega) hcx (by intro i hi; (try dsimp only); (repeat' split) <;> exact ⟨_, rfl⟩) rfl (by simp only [okRS, okR]; repeat' (first | exact trivial | exact rfl | refine And.intro ?_ ?_)) trivial ?_; simp only [rwS, rwSl]))) | ((with_reducible show evNx _ _ _ _ _ _); first | (with_reducible refine nx_done ?_) | (refine nx_one rfl ?_) | (refine nx_alt rfl ?_ ?_) | (with_reducible refine nx_st ?_)) | ((with_reducible show evSx _ _ _ _ _ _); first | (with_reducible refine sx_done ?_) | (with_reducible refine sx_st ?_) | (with_reducible refine sx_op ?_)) | ((with_reducible show evTake _ _ _ _ _); with_reducible refine take_nil ?_) | ((with_reducible show evSy _ _ _ _ _ _ _); first | (with_reducible refine sy_done ?_) | (refine sy_last rfl ?_) | (refine sy_one (by decide) rfl ?_) | (refine sy_alt (by decide) rfl ?_ ?_) | (with_reducible refine sy_st ?_)) | ((with_reducible show StK _ _ _); first | fail) | (with_reducible first | refine then_normal ?_ | refine then_ret ?_ | refine then_exit ?_ | refine block_normal ?_ | refine block_ret ?_) | ((with_reducible show blockQ _ _ _ _); first | refine block_exit ?_ | refine block_exit_ne rfl ?_) | ((with_reducible show AWP _ _ _ _ _); first | (refine AWP.seq_cutXr (id := 11) (fun _ : Unit => ⟨[(0, .one (.pv (.grow (.slice (some ⟨bk, 0, none⟩) n c) (isB bk) e 1 n (vuF (swF d1 i (i - 1)))))), (1, sc (.int .i64 (a))), (2, sc (.int .i64 (b))), (7, sc (.int .i64 (i))), (8, sc (.int .i64 (s)))], [], 133⟩) (fun _ => True) ?_ ?_) | (refine AWP.drawn_nx (id := 11) (.take 0 (.take 1 (.take 2 (.take 3 (.take 4 (.take 5 (.take 6 (.take 7 (.take 8 (.take 10 (.take 11 (.take 12 (.alt 9 (.one 13 (.one 14 (.one 15 (.one 16 (.one 17 .done))))) (.one 13 (.one 9 (.one 14 (.one 15 (.one 16 (.one 17 .done))))))))))))))))))) rfl (by kernel_rfl) ?_) | (with_reducible first | refine AWP.seq ?_ | refine AWP.block ?_ | refine AWP.region ?_ | refine AWP.ret ?_ | refine AWP.exit ?_ | refine AWP.skip ?_) | refine AWP.drawn rfl (by kernel_rfl) ?_ | refine AWP.cond rfl ?_ ?_) | with_reducible refine ev_nil ?_ | ((first | ((with_reducible show evNx _ _ _ _ _ _); refine nx_take rfl ?_; intro K hK) | ((with_reducible show Ax _ _ _ _ _); first | (refine ax_op rfl ?_; intro K hK)) | ((with_reducible show evTake _ _ _ _ _); refine take_step rfl ?_; intro K hK) | ((with_reducible show evSy _ _ _ _ _ _ _); refine sy_take rfl ?_; intro K hK) | ((with_reducible show AxB _ _ _ _ _); first | (refine axb_op rfl rfl ?_; intro K hK)) | ((with_reducible show evOps _ _ _ _ _ _); (first | refine ev_step rfl ?_ | refine ev_undef rfl rfl rfl ?_); intro K hK) | ((with_reducible show EvOpen _ _ _ _ _ _ _); refine ev_open ?_; intro K hK) | ((with_reducible show SkOpen _ _ _ _ _ _ _); refine sk_open ?_; intro K hK) | ((with_reducible show callK _ _ _ _ _ _ _ _); first  | fail)); simp only [evOp, evQ, binK, withS, opd, kput, putS, upd, lookup, InK_i64, sz_bytes, c_u8, upd, Nat.reduceEqDiff, Nat.reduceLT, Nat.mul_one, Nat.add_zero, ↓reduceIte, eq_self, true_and, Int.toNat_natCast]) | refine ev_guard rfl rfl rfl ?_ ?_ | ((with_reducible show retQ _ _ _ _); simp only [eq_self]) | (with_reducible refine hK _ ?_; clear hK K) | (with_reducible refine And.intro ?_ ?_) | (with_reducible intro hc; try simp only [decide_eq_true_eq, decide_eq_false_iff_not, beq_iff_eq, beq_eq_false_iff_ne, Int.not_lt, ne_eq] at hc) | omega)
  all_goals try (first | (exfalso; omega; done) | exact ⟨(), [], ⟨rfl, by decide, ⟨(sw_ve fun k hk => by (try dsimp only); (try simp only [ei, Int.toNat_natCast]); (repeat' split) <;> first | rfl | (exfalso; omega) | exact congrArg (fun t => vu (d1 t)) (by omega)), vi_eq (by first | omega | (simp; done) | (simp; omega) | (dsimp only; push_cast; omega)), vi_eq (by first | omega | (simp; done) | (simp; omega) | (dsimp only; push_cast; omega)), vi_eq (by first | omega | (simp; done) | (simp; omega) | (dsimp only; push_cast; omega)), vi_eq (by first | omega | (simp; done) | (simp; omega) | (dsimp only; push_cast; omega)), trivial⟩, trivial⟩⟩ | exact ⟨_, _, rfl, vuF_val, rfl, d1, false, rfl, ⟨hpm, fun h => by cases h⟩, rfl⟩)
  intro _ _
  have hpm2 := hpm.trans (Pm.sw d1 (show a ≤ i ∧ i < b by omega) (show a ≤ i - 1 ∧ i - 1 < b by omega))
  have hsr2 : Srt a (i - 1) (swF d1 i (i - 1)) := fun p q h1 h2 h3 => by
    unfold swF
    rw [if_neg (by omega), if_neg (by omega), if_neg (by omega), if_neg (by omega)]
    exact hsr p q h1 h2 (by omega)
  have h02 : Ahd a b (swF d1 i (i - 1)) := h0.perm hpm2
  clear hpm hsr hlt
  generalize swF d1 i (i - 1) = d2 at hpm2 hsr2 h02 ⊢
  repeat' (first | (with_reducible first | refine then_normal ?_ | refine then_ret ?_ | refine then_exit ?_ | refine block_normal ?_ | refine block_ret ?_) | ((with_reducible show blockQ _ _ _ _); first | refine block_exit ?_ | refine block_exit_ne rfl ?_) | ((with_reducible show AWP _ _ _ _ _); first | (refine AWP.condX (t := 61) (fun d3 : Nat → Int => ⟨[(0, .one (.pv (.grow (.slice (some ⟨bk, 0, none⟩) n c) (isB bk) e 1 n (vuF d3)))), (1, sc (.int .i64 (a))), (2, sc (.int .i64 (b))), (7, sc (.int .i64 (i))), (8, sc (.int .i64 (s)))], [], 133⟩) (fun d3 => Pm a b d d3 ∧ Srt a i d3) ?_ ?_) | (refine AWP.holdW (id := 13) ?_) | (with_reducible first | refine AWP.seq ?_ | refine AWP.block ?_ | refine AWP.region ?_ | refine AWP.ret ?_ | refine AWP.exit ?_ | refine AWP.skip ?_) | refine AWP.drawn rfl (by kernel_rfl) ?_ | refine AWP.cond rfl ?_ ?_) | with_reducible refine ev_nil ?_ | ((first | ((with_reducible show evOps _ _ _ _ _ _); (first | refine ev_step rfl ?_ | refine ev_undef rfl rfl rfl ?_); intro K hK) | ((with_reducible show EvOpen _ _ _ _ _ _ _); refine ev_open ?_; intro K hK) | ((with_reducible show SkOpen _ _ _ _ _ _ _); refine sk_open ?_; intro K hK) | ((with_reducible show callK _ _ _ _ _ _ _ _); first  | fail)); simp only [evOp, evQ, binK, withS, opd, kput, putS, upd, lookup, InK_i64, upd, Nat.reduceEqDiff, Nat.reduceLT, ↓reduceIte, eq_self, true_and]) | refine ev_guard rfl rfl rfl ?_ ?_ | ((with_reducible show retQ _ _ _ _); simp only [eq_self]) | (with_reducible refine hK _ ?_; clear hK K) | (with_reducible refine And.intro ?_ ?_) | (with_reducible intro hc; try simp only [decide_eq_true_eq, decide_eq_false_iff_not, Int.not_le, ge_iff_le] at hc) | omega)
  all_goals try (exfalso; omega; done)
  · unfold HoldW
    repeat' (first | (with_reducible first | refine then_normal ?_ | refine then_ret ?_ | refine then_exit ?_ | refine block_normal ?_ | refine block_ret ?_) | ((with_reducible show blockQ _ _ _ _); first | refine block_exit ?_ | refine block_exit_ne rfl ?_) | ((with_reducible show AWP _ _ _ _ _); first | (with_reducible first | refine AWP.seq ?_ | refine AWP.block ?_ | refine AWP.region ?_ | refine AWP.ret ?_ | refine AWP.exit ?_ | refine AWP.skip ?_) | refine AWP.drawn rfl (by kernel_rfl) ?_ | refine AWP.cond rfl ?_ ?_) | with_reducible refine ev_nil ?_ | ((first | ((with_reducible show evOps _ _ _ _ _ _); (first | refine ev_step rfl ?_ | refine ev_undef rfl rfl rfl ?_); intro K hK) | ((with_reducible show EvOpen _ _ _ _ _ _ _); refine ev_open ?_; intro K hK) | ((with_reducible show SkOpen _ _ _ _ _ _ _); refine sk_open ?_; intro K hK) | ((with_reducible show callK _ _ _ _ _ _ _ _); first | fail)); simp only [evOp, evQ, binK, withS, opd, kput, putS, upd, lookup, InK_i64, upd, Nat.reduceEqDiff, Nat.reduceLT, ↓reduceIte, eq_self, true_and]) | refine ev_guard rfl rfl rfl ?_ ?_ | ((with_reducible show retQ _ _ _ _); simp only [eq_self]) | (with_reducible refine hK _ ?_; clear hK K) | (with_reducible refine And.intro ?_ ?_) | (with_reducible intro hc; try simp only [eq_self] at hc) | omega)
    refine AWP.loop_entR [] (fun y : Nat × (Nat → Int) => ⟨[(0, .one (.pv (.grow (.slice (some ⟨bk, 0, none⟩) n c) (isB bk) e 1 n (vuF y.2)))), (1, sc (.int .i64 (a))), (2, sc (.int .i64 (b))), (7, sc (.int .i64 (i))), (8, sc (.int .i64 (s))), (9, sc (.int .i64 (y.1)))], [], 133⟩) (fun y => a ≤ y.1 ∧ y.1 ≤ i - 1 ∧ Pm a b d y.2 ∧ Ins a (i - 1) y.1 y.2) (fun y => y.1) (i - 1, d2) ⟨by show a ≤ i - 1; omega, Nat.le_refl _, hpm2, Ins.start hsr2⟩ ⟨rfl, by decide, ⟨VE.rfl' _, vi_eq (by first | omega | (simp; done) | (simp; omega) | (dsimp only; push_cast; omega)), vi_eq (by first | omega | (simp; done) | (simp; omega) | (dsimp only; push_cast; omega)), vi_eq (by first | omega | (simp; done) | (simp; omega) | (dsimp only; push_cast; omega)), vi_eq (by first | omega | (simp; done) | (simp; omega) | (dsimp only; push_cast; omega)), vi_eq (by first | omega | (simp; done) | (simp; omega) | (dsimp only; push_cast; omega)), trivial⟩, trivial⟩ ?_
    rintro ⟨j, d3⟩ ⟨hj1, hj2, hpm3, hin⟩
    dsimp only at hj1 hj2 hpm3 hin ⊢
    have ej : ((j : Int) - 1).toNat = j - 1 := by omega
    have h03 : Ahd a b d3 := h0.perm hpm3
    have hh := fun hp : 0 < a => h03 hp a (Nat.le_refl _) hab
    by_cases hj0 : j = 0
    · subst hj0
      repeat' (first | (with_reducible first | refine then_normal ?_ | refine then_ret ?_ | refine then_exit ?_ | refine block_normal ?_ | refine block_ret ?_) | ((with_reducible show blockQ _ _ _ _); first | refine block_exit ?_ | refine block_exit_ne rfl ?_) | ((with_reducible show AWP _ _ _ _ _); first | (with_reducible first | refine AWP.seq ?_ | refine AWP.block ?_ | refine AWP.region ?_ | refine AWP.ret ?_ | refine AWP.exit ?_ | refine AWP.skip ?_) | refine AWP.drawn rfl (by kernel_rfl) ?_ | refine AWP.cond rfl ?_ ?_) | with_reducible refine ev_nil ?_ | ((first | ((with_reducible show evOps _ _ _ _ _ _); (first | refine ev_step rfl ?_ | refine ev_undef rfl rfl rfl ?_); intro K hK) | ((with_reducible show EvOpen _ _ _ _ _ _ _); refine ev_open ?_; intro K hK) | ((with_reducible show SkOpen _ _ _ _ _ _ _); refine sk_open ?_; intro K hK) | ((with_reducible show callK _ _ _ _ _ _ _ _); first | fail)); simp only [evOp, evQ, binK, withS, opd, kput, putS, upd, lookup, argsK, InK_i64, sz_bytes, c_u8, upd, List.reverse_cons, List.reverse_nil, List.nil_append, List.cons_append, Nat.reduceEqDiff, Nat.reduceLT, Nat.mul_one, Nat.add_zero, Nat.zero_add, ↓reduceIte, eq_self, true_and, Int.toNat_natCast]) | refine ev_guard rfl rfl rfl ?_ ?_ | ((with_reducible show retQ _ _ _ _); simp only [eq_self]) | (with_reducible refine hK _ ?_; clear hK K) | (with_reducible refine And.intro ?_ ?_) | (with_reducible intro hc; try simp only [decide_eq_true_eq, decide_eq_false_iff_not, Int.not_le, ge_iff_le] at hc) | omega)
      all_goals first
        | (exfalso; omega; done)
        | exact ⟨d3, ⟨hpm3, by have := hin.done (.inl (by omega)) hj1 hj2; rwa [show i - 1 + 1 = i by omega] at this⟩, [], ⟨rfl, by decide, ⟨VE.rfl' _, vi_eq (by first | omega | (simp; done) | (simp; omega) | (dsimp only; push_cast; omega)), vi_eq (by first | omega | (simp; done) | (simp; omega) | (dsimp only; push_cast; omega)), vi_eq (by first | omega | (simp; done) | (simp; omega) | (dsimp only; push_cast; omega)), vi_eq (by first | omega | (simp; done) | (simp; omega) | (dsimp only; push_cast; omega)), trivial⟩, trivial⟩⟩
        | trace_state
    · repeat' (first | ((with_reducible show Ax _ _ _ _ _); (first | ((with_reducible show Ax _ _ _ (Oper.mk _ (Op.indexAddr _ _ _) _ _ _ _) _); refine ax_addr rfl rfl sz_bytes (by omega) (by omega) rfl ?_; simp only [putS, upd, upd, Nat.reduceEqDiff, ↓reduceIte, Int.toNat_natCast]) | ((with_reducible show Ax _ _ _ (Oper.mk none (Op.store _ _ _) _ _ _ _) _); refine ax_storeR 0 rfl rfl rfl rfl c_u8 (by omega) hcx (by intro i hi; (try dsimp only); (repeat' split) <;> exact ⟨_, rfl⟩) rfl (by simp only [okRS, okR]; repeat' (first | exact trivial | exact rfl | refine And.intro ?_ ?_)) trivial ?_; simp only [rwS, rwSl]))) | ((with_reducible show evNx _ _ _ _ _ _); first | (with_reducible refine nx_done ?_) | (refine nx_one rfl ?_) | (refine nx_alt rfl ?_ ?_) | (with_reducible refine nx_st ?_)) | ((with_reducible show evSx _ _ _ _ _ _); first | (with_reducible refine sx_done ?_) | (with_reducible refine sx_st ?_) | (with_reducible refine sx_op ?_)) | ((with_reducible show evTake _ _ _ _ _); with_reducible refine take_nil ?_) | ((with_reducible show evSy _ _ _ _ _ _ _); first | (with_reducible refine sy_done ?_) | (refine sy_last rfl ?_) | (refine sy_one (by decide) rfl ?_) | (refine sy_alt (by decide) rfl ?_ ?_) | (with_reducible refine sy_st ?_)) | ((with_reducible show StK _ _ _); first | fail) | (with_reducible first | refine then_normal ?_ | refine then_ret ?_ | refine then_exit ?_ | refine block_normal ?_ | refine block_ret ?_) | ((with_reducible show blockQ _ _ _ _); first | refine block_exit ?_ | refine block_exit_ne rfl ?_) | ((with_reducible show AWP _ _ _ _ _); first | (refine AWP.drawn_nx (id := 17) (.take 0 (.take 1 (.take 2 (.take 3 (.take 4 (.take 5 (.take 6 (.take 7 (.take 8 (.take 10 (.take 11 (.take 12 (.alt 9 (.one 13 (.one 14 (.one 15 (.one 16 (.one 17 .done))))) (.one 13 (.one 9 (.one 14 (.one 15 (.one 16 (.one 17 .done))))))))))))))))))) rfl (by kernel_rfl) ?_) | (with_reducible first | refine AWP.seq ?_ | refine AWP.block ?_ | refine AWP.region ?_ | refine AWP.ret ?_ | refine AWP.exit ?_ | refine AWP.skip ?_) | refine AWP.drawn rfl (by kernel_rfl) ?_ | refine AWP.cond rfl ?_ ?_) | with_reducible refine ev_nil ?_ | ((first | ((with_reducible show evNx _ _ _ _ _ _); refine nx_take rfl ?_; intro K hK) | ((with_reducible show Ax _ _ _ _ _); first | (refine ax_op rfl ?_; intro K hK)) | ((with_reducible show evTake _ _ _ _ _); refine take_step rfl ?_; intro K hK) | ((with_reducible show evSy _ _ _ _ _ _ _); refine sy_take rfl ?_; intro K hK) | ((with_reducible show AxB _ _ _ _ _); first | (refine axb_op rfl rfl ?_; intro K hK)) | ((with_reducible show evOps _ _ _ _ _ _); (first | refine ev_step rfl ?_ | refine ev_undef rfl rfl rfl ?_); intro K hK) | ((with_reducible show EvOpen _ _ _ _ _ _ _); refine ev_open ?_; intro K hK) | ((with_reducible show SkOpen _ _ _ _ _ _ _); refine sk_open ?_; intro K hK) | ((with_reducible show callK _ _ _ _ _ _ _ _); first  | (refine call_scalar (less_fn _ _) (Nat.le_of_ble_eq_true rfl) rfl ?_))); simp only [evOp, evQ, binK, withS, opd, kput, putS, upd, lookup, argsK, bringIn, bring, Res.list, Res.slot, InK_i64, sz_bytes, c_u8, upd, List.reverse_cons, List.reverse_nil, List.nil_append, List.cons_append, Nat.reduceEqDiff, Nat.reduceLT, Nat.mul_one, Nat.add_zero, ↓reduceIte, eq_self, true_and, Int.toNat_natCast]) | refine ev_guard rfl rfl rfl ?_ ?_ | ((with_reducible show retQ _ _ _ _); simp only [eq_self]) | (with_reducible refine hK _ ?_; clear hK K) | (with_reducible refine And.intro ?_ ?_) | (with_reducible intro hc; try simp only [decide_eq_true_eq, decide_eq_false_iff_not, Bool.not_eq_true', Bool.not_eq_false', Int.not_lt, Int.not_le, ge_iff_le] at hc) | omega)
      all_goals simp only [Int.toNat_natCast, ej] at *
      all_goals first
        | (exfalso; omega; done)
        | (have hja : j ≠ a := (fun e => by subst e; have := hh (by omega); omega)
           exact ⟨(j - 1, swF d3 j (j - 1)), ⟨by show a ≤ j - 1; omega, by show j - 1 ≤ i - 1; omega, hpm3.trans (Pm.sw d3 (by omega) (by omega)), hin.step (by omega) hj2 (by assumption)⟩, by show j - 1 < j; omega, [], ⟨rfl, by decide, ⟨(sw_ve fun k hk => by (try dsimp only); (try simp only [ej, Int.toNat_natCast]); (repeat' split) <;> first | rfl | (exfalso; omega) | exact congrArg (fun t => vu (d3 t)) (by omega)), vi_eq (by first | omega | (simp; done) | (simp; omega) | (dsimp only; push_cast; omega)), vi_eq (by first | omega | (simp; done) | (simp; omega) | (dsimp only; push_cast; omega)), vi_eq (by first | omega | (simp; done) | (simp; omega) | (dsimp only; push_cast; omega)), vi_eq (by first | omega | (simp; done) | (simp; omega) | (dsimp only; push_cast; omega)), vi_eq (by first | omega | (simp; done) | (simp; omega) | (dsimp only; push_cast; omega)), trivial⟩, trivial⟩⟩)
        | exact ⟨d3, ⟨hpm3, by have := hin.done (.inr (by omega)) hj1 hj2; rwa [show i - 1 + 1 = i by omega] at this⟩, [], ⟨rfl, by decide, ⟨VE.rfl' _, vi_eq (by first | omega | (simp; done) | (simp; omega) | (dsimp only; push_cast; omega)), vi_eq (by first | omega | (simp; done) | (simp; omega) | (dsimp only; push_cast; omega)), vi_eq (by first | omega | (simp; done) | (simp; omega) | (dsimp only; push_cast; omega)), vi_eq (by first | omega | (simp; done) | (simp; omega) | (dsimp only; push_cast; omega)), trivial⟩, trivial⟩⟩
        | trace_state
  · have hi1 : i = a + 1 := by omega
    exact ⟨d2, ⟨hpm2, Srt.short (by omega)⟩, [], ⟨rfl, by decide, ⟨VE.rfl' _, vi_eq (by first | omega | (simp; done) | (simp; omega) | (dsimp only; push_cast; omega)), vi_eq (by first | omega | (simp; done) | (simp; omega) | (dsimp only; push_cast; omega)), vi_eq (by first | omega | (simp; done) | (simp; omega) | (dsimp only; push_cast; omega)), vi_eq (by first | omega | (simp; done) | (simp; omega) | (dsimp only; push_cast; omega)), trivial⟩, trivial⟩⟩
  clear hpm2 hsr2 h02 d2
  rintro d2 ⟨hpm2, hsr2⟩
  repeat' (first | (with_reducible first | refine then_normal ?_ | refine then_ret ?_ | refine then_exit ?_ | refine block_normal ?_ | refine block_ret ?_) | ((with_reducible show blockQ _ _ _ _); first | refine block_exit ?_ | refine block_exit_ne rfl ?_) | ((with_reducible show AWP _ _ _ _ _); first | (refine AWP.holdW (id := 19) ?_) | (with_reducible first | refine AWP.seq ?_ | refine AWP.block ?_ | refine AWP.region ?_ | refine AWP.ret ?_ | refine AWP.exit ?_ | refine AWP.skip ?_) | refine AWP.drawn rfl (by kernel_rfl) ?_ | refine AWP.cond rfl ?_ ?_) | with_reducible refine ev_nil ?_ | ((first | ((with_reducible show evOps _ _ _ _ _ _); (first | refine ev_step rfl ?_ | refine ev_undef rfl rfl rfl ?_); intro K hK) | ((with_reducible show EvOpen _ _ _ _ _ _ _); refine ev_open ?_; intro K hK) | ((with_reducible show SkOpen _ _ _ _ _ _ _); refine sk_open ?_; intro K hK) | ((with_reducible show callK _ _ _ _ _ _ _ _); first  | fail)); simp only [evOp, evQ, binK, withS, opd, kput, putS, upd, lookup, InK_i64, upd, Nat.reduceEqDiff, Nat.reduceLT, ↓reduceIte, eq_self, true_and]) | refine ev_guard rfl rfl rfl ?_ ?_ | ((with_reducible show retQ _ _ _ _); simp only [eq_self]) | (with_reducible refine hK _ ?_; clear hK K) | (with_reducible refine And.intro ?_ ?_) | (with_reducible intro hc; try simp only [decide_eq_true_eq, decide_eq_false_iff_not, Int.not_le, ge_iff_le] at hc) | omega)
  all_goals try (exfalso; omega; done)
  · unfold HoldW
    repeat' (first | (with_reducible first | refine then_normal ?_ | refine then_ret ?_ | refine then_exit ?_ | refine block_normal ?_ | refine block_ret ?_) | ((with_reducible show blockQ _ _ _ _); first | refine block_exit ?_ | refine block_exit_ne rfl ?_) | ((with_reducible show AWP _ _ _ _ _); first | (with_reducible first | refine AWP.seq ?_ | refine AWP.block ?_ | refine AWP.region ?_ | refine AWP.ret ?_ | refine AWP.exit ?_ | refine AWP.skip ?_) | refine AWP.drawn rfl (by kernel_rfl) ?_ | refine AWP.cond rfl ?_ ?_) | with_reducible refine ev_nil ?_ | ((first | ((with_reducible show evOps _ _ _ _ _ _); (first | refine ev_step rfl ?_ | refine ev_undef rfl rfl rfl ?_); intro K hK) | ((with_reducible show EvOpen _ _ _ _ _ _ _); refine ev_open ?_; intro K hK) | ((with_reducible show SkOpen _ _ _ _ _ _ _); refine sk_open ?_; intro K hK) | ((with_reducible show callK _ _ _ _ _ _ _ _); first | fail)); simp only [evOp, evQ, binK, withS, opd, kput, putS, upd, lookup, InK_i64, upd, Nat.reduceEqDiff, Nat.reduceLT, ↓reduceIte, eq_self, true_and]) | refine ev_guard rfl rfl rfl ?_ ?_ | ((with_reducible show retQ _ _ _ _); simp only [eq_self]) | (with_reducible refine hK _ ?_; clear hK K) | (with_reducible refine And.intro ?_ ?_) | (with_reducible intro hc; try simp only [eq_self] at hc) | omega)
    refine AWP.loop_entR [] (fun y : Nat × (Nat → Int) => ⟨[(0, .one (.pv (.grow (.slice (some ⟨bk, 0, none⟩) n c) (isB bk) e 1 n (vuF y.2)))), (1, sc (.int .i64 (a))), (2, sc (.int .i64 (b))), (7, sc (.int .i64 (i))), (8, sc (.int .i64 (s))), (10, sc (.int .i64 (y.1)))], [], 133⟩) (fun y => i < y.1 ∧ y.1 ≤ b ∧ Pm a b d y.2 ∧ Srt a i y.2) (fun y => b - y.1) (i + 1, d2) ⟨by show i < i + 1; omega, by show i + 1 ≤ b; omega, hpm2, hsr2⟩ ⟨rfl, by decide, ⟨VE.rfl' _, vi_eq (by first | omega | (simp; done) | (simp; omega) | (dsimp only; push_cast; omega)), vi_eq (by first | omega | (simp; done) | (simp; omega) | (dsimp only; push_cast; omega)), vi_eq (by first | omega | (simp; done) | (simp; omega) | (dsimp only; push_cast; omega)), vi_eq (by first | omega | (simp; done) | (simp; omega) | (dsimp only; push_cast; omega)), vi_eq (by first | omega | (simp; done) | (simp; omega) | (dsimp only; push_cast; omega)), trivial⟩, trivial⟩ ?_
    rintro ⟨j, d3⟩ ⟨hj1, hj2, hpm3, hsr3⟩
    dsimp only at hj1 hj2 hpm3 hsr3 ⊢
    have ej : ((j : Int) - 1).toNat = j - 1 := by omega
    by_cases hjb : j < b
    · repeat' (first | ((with_reducible show Ax _ _ _ _ _); (first | ((with_reducible show Ax _ _ _ (Oper.mk _ (Op.indexAddr _ _ _) _ _ _ _) _); refine ax_addr rfl rfl sz_bytes (by omega) (by omega) rfl ?_; simp only [putS, upd, upd, Nat.reduceEqDiff, ↓reduceIte, Int.toNat_natCast]) | ((with_reducible show Ax _ _ _ (Oper.mk none (Op.store _ _ _) _ _ _ _) _); refine ax_storeR 0 rfl rfl rfl rfl c_u8 (by omega) hcx (by intro i hi; (try dsimp only); (repeat' split) <;> exact ⟨_, rfl⟩) rfl (by simp only [okRS, okR]; repeat' (first | exact trivial | exact rfl | refine And.intro ?_ ?_)) trivial ?_; simp only [rwS, rwSl]))) | ((with_reducible show evNx _ _ _ _ _ _); first | (with_reducible refine nx_done ?_) | (refine nx_one rfl ?_) | (refine nx_alt rfl ?_ ?_) | (with_reducible refine nx_st ?_)) | ((with_reducible show evSx _ _ _ _ _ _); first | (with_reducible refine sx_done ?_) | (with_reducible refine sx_st ?_) | (with_reducible refine sx_op ?_)) | ((with_reducible show evTake _ _ _ _ _); with_reducible refine take_nil ?_) | ((with_reducible show evSy _ _ _ _ _ _ _); first | (with_reducible refine sy_done ?_) | (refine sy_last rfl ?_) | (refine sy_one (by decide) rfl ?_) | (refine sy_alt (by decide) rfl ?_ ?_) | (with_reducible refine sy_st ?_)) | ((with_reducible show StK _ _ _); first | fail) | (with_reducible first | refine then_normal ?_ | refine then_ret ?_ | refine then_exit ?_ | refine block_normal ?_ | refine block_ret ?_) | ((with_reducible show blockQ _ _ _ _); first | refine block_exit ?_ | refine block_exit_ne rfl ?_) | ((with_reducible show AWP _ _ _ _ _); first | (refine AWP.drawn_nx (id := 23) (.take 0 (.take 1 (.take 2 (.take 3 (.take 4 (.take 5 (.take 6 (.take 7 (.take 8 (.take 10 (.take 11 (.take 12 (.alt 9 (.one 13 (.one 14 (.one 15 (.one 16 (.one 17 .done))))) (.one 13 (.one 9 (.one 14 (.one 15 (.one 16 (.one 17 .done))))))))))))))))))) rfl (by kernel_rfl) ?_) | (with_reducible first | refine AWP.seq ?_ | refine AWP.block ?_ | refine AWP.region ?_ | refine AWP.ret ?_ | refine AWP.exit ?_ | refine AWP.skip ?_) | refine AWP.drawn rfl (by kernel_rfl) ?_ | refine AWP.cond rfl ?_ ?_) | with_reducible refine ev_nil ?_ | ((first | ((with_reducible show evNx _ _ _ _ _ _); refine nx_take rfl ?_; intro K hK) | ((with_reducible show Ax _ _ _ _ _); first | (refine ax_op rfl ?_; intro K hK)) | ((with_reducible show evTake _ _ _ _ _); refine take_step rfl ?_; intro K hK) | ((with_reducible show evSy _ _ _ _ _ _ _); refine sy_take rfl ?_; intro K hK) | ((with_reducible show AxB _ _ _ _ _); first | (refine axb_op rfl rfl ?_; intro K hK)) | ((with_reducible show evOps _ _ _ _ _ _); (first | refine ev_step rfl ?_ | refine ev_undef rfl rfl rfl ?_); intro K hK) | ((with_reducible show EvOpen _ _ _ _ _ _ _); refine ev_open ?_; intro K hK) | ((with_reducible show SkOpen _ _ _ _ _ _ _); refine sk_open ?_; intro K hK) | ((with_reducible show callK _ _ _ _ _ _ _ _); first  | (refine call_scalar (less_fn _ _) (Nat.le_of_ble_eq_true rfl) rfl ?_))); simp only [evOp, evQ, binK, withS, opd, kput, putS, upd, lookup, argsK, bringIn, bring, Res.list, Res.slot, InK_i64, sz_bytes, c_u8, upd, List.reverse_cons, List.reverse_nil, List.nil_append, List.cons_append, Nat.reduceEqDiff, Nat.reduceLT, Nat.mul_one, Nat.add_zero, ↓reduceIte, eq_self, true_and, Int.toNat_natCast]) | refine ev_guard rfl rfl rfl ?_ ?_ | ((with_reducible show retQ _ _ _ _); simp only [eq_self]) | (with_reducible refine hK _ ?_; clear hK K) | (with_reducible refine And.intro ?_ ?_) | (with_reducible intro hc; try simp only [decide_eq_true_eq, decide_eq_false_iff_not, Bool.not_eq_true', Bool.not_eq_false', Int.not_lt] at hc) | omega)
      all_goals simp only [Int.toNat_natCast, ej] at *
      all_goals first
        | (exfalso; omega; done)
        | exact ⟨(j + 1, swF d3 j (j - 1)), ⟨by show i < j + 1; omega, by show j + 1 ≤ b; omega, hpm3.trans (Pm.sw d3 (by omega) (by omega)), by show Srt a i (swF d3 j (j - 1)); exact hsr3.congr fun k h1 h2 => by (unfold swF; rw [if_neg (by omega), if_neg (by omega)])⟩, by show b - (j + 1) < b - j; omega, [], ⟨rfl, by decide, ⟨(sw_ve fun k hk => by (try dsimp only); (try simp only [ej, Int.toNat_natCast]); (repeat' split) <;> first | rfl | (exfalso; omega) | exact congrArg (fun t => vu (d3 t)) (by omega)), vi_eq (by first | omega | (simp; done) | (simp; omega) | (dsimp only; push_cast; omega)), vi_eq (by first | omega | (simp; done) | (simp; omega) | (dsimp only; push_cast; omega)), vi_eq (by first | omega | (simp; done) | (simp; omega) | (dsimp only; push_cast; omega)), vi_eq (by first | omega | (simp; done) | (simp; omega) | (dsimp only; push_cast; omega)), vi_eq (by first | omega | (simp; done) | (simp; omega) | (dsimp only; push_cast; omega)), trivial⟩, trivial⟩⟩
        | exact ⟨((i, s + 1), d3), ⟨by show s + 1 ≤ 5; omega, k1, k2, hpm3, hsr3⟩, by show 5 - (s + 1) < 5 - s; omega, [], ⟨rfl, by decide, ⟨VE.rfl' _, vi_eq (by first | omega | (simp; done) | (simp; omega) | (dsimp only; push_cast; omega)), vi_eq (by first | omega | (simp; done) | (simp; omega) | (dsimp only; push_cast; omega)), vi_eq (by first | omega | (simp; done) | (simp; omega) | (dsimp only; push_cast; omega)), vi_eq (by first | omega | (simp; done) | (simp; omega) | (dsimp only; push_cast; omega)), trivial⟩, trivial⟩⟩
        | trace_state
    · repeat' (first | (with_reducible first | refine then_normal ?_ | refine then_ret ?_ | refine then_exit ?_ | refine block_normal ?_ | refine block_ret ?_) | ((with_reducible show blockQ _ _ _ _); first | refine block_exit ?_ | refine block_exit_ne rfl ?_) | ((with_reducible show AWP _ _ _ _ _); first | (with_reducible first | refine AWP.seq ?_ | refine AWP.block ?_ | refine AWP.region ?_ | refine AWP.ret ?_ | refine AWP.exit ?_ | refine AWP.skip ?_) | refine AWP.drawn rfl (by kernel_rfl) ?_ | refine AWP.cond rfl ?_ ?_) | with_reducible refine ev_nil ?_ | ((first | ((with_reducible show evOps _ _ _ _ _ _); (first | refine ev_step rfl ?_ | refine ev_undef rfl rfl rfl ?_); intro K hK) | ((with_reducible show EvOpen _ _ _ _ _ _ _); refine ev_open ?_; intro K hK) | ((with_reducible show SkOpen _ _ _ _ _ _ _); refine sk_open ?_; intro K hK) | ((with_reducible show callK _ _ _ _ _ _ _ _); first | fail)); simp only [evOp, evQ, binK, withS, opd, kput, putS, upd, lookup, argsK, InK_i64, sz_bytes, c_u8, upd, List.reverse_cons, List.reverse_nil, List.nil_append, List.cons_append, Nat.reduceEqDiff, Nat.reduceLT, Nat.mul_one, Nat.add_zero, ↓reduceIte, eq_self, true_and, Int.toNat_natCast]) | refine ev_guard rfl rfl rfl ?_ ?_ | ((with_reducible show retQ _ _ _ _); simp only [eq_self]) | (with_reducible refine hK _ ?_; clear hK K) | (with_reducible refine And.intro ?_ ?_) | (with_reducible intro hc; try simp only [decide_eq_true_eq, decide_eq_false_iff_not, Int.not_lt] at hc) | omega)
      all_goals first
        | (exfalso; omega; done)
        | exact ⟨((i, s + 1), d3), ⟨by show s + 1 ≤ 5; omega, k1, k2, hpm3, hsr3⟩, by show 5 - (s + 1) < 5 - s; omega, [], ⟨rfl, by decide, ⟨VE.rfl' _, vi_eq (by first | omega | (simp; done) | (simp; omega) | (dsimp only; push_cast; omega)), vi_eq (by first | omega | (simp; done) | (simp; omega) | (dsimp only; push_cast; omega)), vi_eq (by first | omega | (simp; done) | (simp; omega) | (dsimp only; push_cast; omega)), vi_eq (by first | omega | (simp; done) | (simp; omega) | (dsimp only; push_cast; omega)), trivial⟩, trivial⟩⟩
        | trace_state
  all_goals first
    | (exfalso; omega; done)
    | exact ⟨((i, s + 1), d2), ⟨by show s + 1 ≤ 5; omega, k1, k2, hpm2, hsr2⟩, by show 5 - (s + 1) < 5 - s; omega, [], ⟨rfl, by decide, ⟨VE.rfl' _, vi_eq (by first | omega | (simp; done) | (simp; omega) | (dsimp only; push_cast; omega)), vi_eq (by first | omega | (simp; done) | (simp; omega) | (dsimp only; push_cast; omega)), vi_eq (by first | omega | (simp; done) | (simp; omega) | (dsimp only; push_cast; omega)), vi_eq (by first | omega | (simp; done) | (simp; omega) | (dsimp only; push_cast; omega)), trivial⟩, trivial⟩⟩
    | trace_state
end Go.Proofs.Yteapdildbfimnaa
namespace Go.Proofs.Yteapdildbfimnaa
open Go.RowKit Go.Proofs
set_option linter.unusedSimpArgs false
set_option linter.unusedVariables false
set_option maxRecDepth 20000

theorem isNaN_w (x : Int) (w : World) : Calls Try.prog 168 #[.int .u8 x] w fun e w' => e = .returned (.bool false) ∧ w' = w := by
  go_enter Try.func168, Try.ntmps168
  go_wp2
  go_ret
  exact ⟨rfl, rfl⟩
theorem less_w (x y : Int) (w : World) : Calls Try.prog 135 #[.int .u8 x, .int .u8 y] w fun e w' => e = .returned (.bool (decide (x < y))) ∧ w' = w := by
  go_enter Try.func135, Try.ntmps135
  go_wp2_with (go_at_call 168; refine (isNaN_w _ _).mono ?_; rintro e w' ⟨rfl, rfl⟩)
  all_goals
    go_ret
    exact ⟨rfl, rfl⟩
set_option maxHeartbeats 1000000 in
theorem order2_w (b0 off n c0 pb : Nat) (da db x : Int) (a b : Nat) (W : World) (ha : ∀ q, (W.drewN q).cell? ⟨b0, off + a, none⟩ = some (.int .u8 da)) (hb : ∀ q, (W.drewN q).cell? ⟨b0, off + b, none⟩ = some (.int .u8 db)) (han : (a : Int) < n) (hbn : (b : Int) < n)
    (hx : ∀ q, (W.drewN q).cell? ⟨pb, 0, none⟩ = some (.int .i64 x)) (hf : ∀ q, (W.drewN q).frozen? ⟨pb, 0, none⟩ = false) :
    Calls Try.prog 180 #[.slice (some ⟨b0, off, none⟩) n c0, .int .i64 a, .int .i64 b, .pointer (some ⟨pb, 0, none⟩)] W fun e w' =>
      (e = .returned (.tuple #[.int .i64 b, .int .i64 a]) ∧ ∃ q, w' = (W.drewN q).setCell ⟨pb, 0, none⟩ (.int .i64 (wrap64 (x + 1)))) ∨ (e = .returned (.tuple #[.int .i64 a, .int .i64 b]) ∧ ∃ q, w' = W.drewN q) := by
  go_enter Try.func180, Try.ntmps180
  have mixed : Try.prog.follows .mixedOrders = true := rfl
  go_wp2_with fail
  go_quiet_o (first | (go_at_call 135; refine (less_w _ _ _).mono ?_; rintro e w' ⟨rfl, rfl⟩; exact ⟨rfl, _, rfl⟩))
  by_cases hlt : db < da
  · go_wp2
    exact ⟨rfl, _, run_results (ts := [8, 9]) rfl _ _, .inl ⟨rfl, _, rfl⟩⟩
  · go_wp2
    exact ⟨rfl, _, run_results (ts := [8, 9]) rfl _ _, .inr ⟨rfl, _, rfl⟩⟩

/-- The data stand as in W0, the counter's block holds some number. -/
structure Sg (b0 off n pb n2 : Nat) (e2 : TypeId) (d : Nat → Int) (W0 w : World) : Prop where
  ab : AllBut pb W0 w
  ne : b0 ≠ pb
  lt : b0 < W0.heap.size
  data : ∀ i, i < n → W0.cell? ⟨b0, off + i, none⟩ = some (.int .u8 (d i))
  sw : ∃ (cur : Array Value) (x : Int), w.heap[pb]? = some (.cells cur e2 (0, 0)) ∧ cur.size = n2 ∧ cur[0]? = some (.int .i64 x)
theorem Sg.at {b0 off n pb n2 : Nat} {e2 : TypeId} {d : Nat → Int} {W0 w : World} (h : Sg b0 off n pb n2 e2 d W0 w) {i : Nat} (hi : i < n) : w.cell? ⟨b0, off + i, none⟩ = some (.int .u8 (d i)) := by
  rw [← h.data i hi]
  exact World.cell?_of_block (a := ⟨b0, off + i, none⟩) (h.ab.oth b0 h.lt h.ne)
theorem Sg.set {b0 off n pb n2 : Nat} {e2 : TypeId} {d : Nat → Int} {W0 w : World} (h : Sg b0 off n pb n2 e2 d W0 w) (q : Nat) (y : Int) : Sg b0 off n pb n2 e2 d W0 ((w.drewN q).setCell ⟨pb, 0, none⟩ (.int .i64 y)) := by
  obtain ⟨cur, x, h1, h2, h3⟩ := h.sw
  have hlt : 0 < cur.size := by
    rcases Nat.eq_zero_or_pos cur.size with e | e
    · rw [Array.getElem?_eq_none (by omega)] at h3; cases h3
    · exact e
  have h1' : (w.drewN q).heap[pb]? = some (.cells cur e2 (0, 0)) := h1
  refine ⟨⟨h.ab.os, h.ab.tape, h.ab.output, by rw [setCell_size]; exact h.ab.size, fun j hj hne => ?_⟩, h.ne, h.lt, h.data, cur.setIfInBounds 0 (.int .i64 y), y, setCell_at h1', by simpa using h2, by simp [hlt]⟩
  rw [Below.heap_setCell _ _ _ _ hne]
  exact h.ab.oth j hj hne
theorem Sg.drew {b0 off n pb n2 : Nat} {e2 : TypeId} {d : Nat → Int} {W0 w : World} (h : Sg b0 off n pb n2 e2 d W0 w) (q : Nat) : Sg b0 off n pb n2 e2 d W0 (w.drewN q) := ⟨⟨h.ab.os, h.ab.tape, h.ab.output, h.ab.size, h.ab.oth⟩, h.ne, h.lt, h.data, h.sw⟩
theorem order2_sg {b0 off n c0 pb n2 : Nat} {e2 : TypeId} {d : Nat → Int} {W0 w : World} (h : Sg b0 off n pb n2 e2 d W0 w) {M : Nat → Prop} (hM : ∀ k, M k → k < n) (a b : Nat) (ha : M a) (hb : M b) :
    Calls Try.prog 180 #[.slice (some ⟨b0, off, none⟩) n c0, .int .i64 a, .int .i64 b, .pointer (some ⟨pb, 0, none⟩)] w fun e w' => ∃ r s : Nat, M r ∧ M s ∧ e = .returned (.tuple #[.int .i64 r, .int .i64 s]) ∧ Sg b0 off n pb n2 e2 d W0 w' := by
  obtain ⟨cur, x, h1, h2, h3⟩ := h.sw
  have k1 := hM a ha
  have k2 := hM b hb
  refine (order2_w b0 off n c0 pb (d a) (d b) x a b w (fun q => h.at k1) (fun q => h.at k2) (by omega) (by omega) (fun q => cell_of_blk (w := w) h1 h3) (fun q => by show w.frozen? _ = false; simp [World.frozen?, h1])).mono ?_
  rintro e w' (⟨rfl, q, rfl⟩ | ⟨rfl, q, rfl⟩)
  · exact ⟨b, a, hb, ha, rfl, h.set q _⟩
  · exact ⟨a, b, ha, hb, rfl, h.drew q⟩
set_option maxHeartbeats 1000000 in
theorem median_sg {b0 off n c0 pb n2 : Nat} {e2 : TypeId} {d : Nat → Int} {W0 w : World} (h : Sg b0 off n pb n2 e2 d W0 w) {M : Nat → Prop} (hM : ∀ k, M k → k < n) (a b c : Nat) (ha : M a) (hb : M b) (hc : M c) :
    Calls Try.prog 167 #[.slice (some ⟨b0, off, none⟩) n c0, .int .i64 a, .int .i64 b, .int .i64 c, .pointer (some ⟨pb, 0, none⟩)] w fun e w' => ∃ r : Nat, M r ∧ e = .returned (.int .i64 r) ∧ Sg b0 off n pb n2 e2 d W0 w' := by
  go_enter Try.func167, Try.ntmps167
  go_wp2_with (go_at_call 180; refine (order2_sg (by assumption) hM _ _ (by assumption) (by assumption)).mono ?_; rintro e w' ⟨r, s, hr, hs, rfl, hsg⟩)
  go_ret
  exact ⟨_, by assumption, rfl, by assumption⟩
end Go.Proofs.Yteapdildbfimnaa
namespace Go.Proofs.Yteapdildbfimnaa
open Go.RowKit Go.Proofs
set_option linter.unusedSimpArgs false
set_option linter.unusedVariables false
set_option maxRecDepth 20000

set_option maxHeartbeats 1000000 in
theorem medianAdjacent_sg {b0 off n c0 pb n2 : Nat} {e2 : TypeId} {d : Nat → Int} {W0 w : World} (h : Sg b0 off n pb n2 e2 d W0 w) {M : Nat → Prop} (hM : ∀ k, M k → k < n) (a : Nat) (h1 : 1 ≤ a) (ha : a ≤ 1099511627776) (k1 : M (a - 1)) (k2 : M a) (k3 : M (a + 1)) :
    Calls Try.prog 166 #[.slice (some ⟨b0, off, none⟩) n c0, .int .i64 a, .pointer (some ⟨pb, 0, none⟩)] w fun e w' => ∃ r : Nat, M r ∧ e = .returned (.int .i64 r) ∧ Sg b0 off n pb n2 e2 d W0 w' := by
  go_enter Try.func166, Try.ntmps166
  go_wp2_with (go_at_call 167; rw [show (a : Int) - 1 = ((a - 1 : Nat) : Int) by omega, show (a : Int) + 1 = ((a + 1 : Nat) : Int) by omega]; refine (median_sg (by assumption) hM _ _ _ k1 k2 k3).mono ?_; rintro e w' ⟨r, hr, rfl, hsg⟩)
  go_ret
  exact ⟨_, by assumption, rfl, by assumption⟩
theorem Sg.start {w : World} {bk c n : Nat} {cur : Array Value} {e : TypeId} {d : Nat → Int} (hw : Gb w bk e cur) (hc : ∀ i, i < n → ∃ x, cur[i]? = some x ∧ vuF d i = .val x) :
    Sg bk 0 n w.heap.size 1 3 d (w.alloc (Obj.cells #[Value.int IntKind.i64 0] 3)) (w.alloc (Obj.cells #[Value.int IntKind.i64 0] 3)) := by
  have hl : bk < w.heap.size := hw.lt
  refine ⟨⟨rfl, rfl, rfl, Nat.le_refl _, fun _ _ _ => rfl⟩, by omega, by show bk < (w.heap.push _).size; rw [Array.size_push]; omega, fun i hi => ?_, ⟨#[.int .i64 0], 0, by show (w.heap.push _)[w.heap.size]? = _; rw [Array.getElem?_push_size], rfl, rfl⟩⟩
  obtain ⟨x, h1, h2⟩ := hc i hi
  have h2 : vu (d i) = .val x := h2
  injection h2 with h2
  rw [Nat.zero_add, h2]
  refine (hw.congr ?_).cell h1
  show (w.heap.push _)[bk]? = _
  rw [Array.getElem?_push_lt hl]
  simp [hl]
theorem Sg.done {w w' : World} {bk n : Nat} {cur : Array Value} {e : TypeId} {d : Nat → Int} (hw : Gb w bk e cur)
    (h : Sg bk 0 n w.heap.size 1 3 d (w.alloc (Obj.cells #[Value.int IntKind.i64 0] 3)) w') : AllBut bk w w' ∧ Gb w' bk e cur := by
  have hl : bk < w.heap.size := hw.lt
  have key : ∀ k, k < w.heap.size → w'.heap[k]? = w.heap[k]? := fun k hk => by
    rw [h.ab.oth k (by show k < (w.heap.push _).size; rw [Array.size_push]; omega) (by omega)]
    show (w.heap.push _)[k]? = _
    rw [Array.getElem?_push_lt hk]
    simp [hk]
  exact ⟨⟨h.ab.os, h.ab.tape, h.ab.output, by have h9 : (w.heap.push _).size ≤ w'.heap.size := h.ab.size; rw [Array.size_push] at h9; omega, fun k hk _ => key k hk⟩, hw.congr (key bk hl)⟩
theorem Sg.cell {b0 off n pb n2 : Nat} {e2 : TypeId} {d : Nat → Int} {W0 w : World} (h : Sg b0 off n pb n2 e2 d W0 w) : ∃ x, w.cell? ⟨pb, 0, none⟩ = some (.int .i64 x) := by
  obtain ⟨cur, x, h1, h2, h3⟩ := h.sw
  exact ⟨x, cell_of_blk (w := w) h1 h3⟩
def InAB (a b : Nat) (k : Nat) : Prop := a ≤ k ∧ k < b
set_option maxHeartbeats 4000000 in
theorem choosePivot_m (n : Nat) (d : Nat → Int) (a b : Nat) (hab : a < b) (hbn : b ≤ n) (hn : n ≤ 1099511627776) : FnM Try.prog 132 n (vuF d) [.int .i64 a, .int .i64 b] (fun D' v => D' = vuF d ∧ ∃ p h : Nat, a ≤ p ∧ p < b ∧ v = .tuple #[.int .i64 p, .int .i64 h]) := by
  refine ⟨Try.call132, fun w bk c cur e hw hnc hcm hsz hc => ?_⟩
  have hsg0 := Sg.start (c := c) hw hc
  have hM : ∀ k, InAB a b k → k < n := fun k hk => by unfold InAB at hk; omega
  obtain ⟨p1, hp1⟩ : ∃ p1, p1 = a + (b - a) / 4 := ⟨_, rfl⟩
  obtain ⟨p2, hp2⟩ : ∃ p2, p2 = a + (b - a) / 4 * 2 := ⟨_, rfl⟩
  obtain ⟨p3, hp3⟩ : ∃ p3, p3 = a + (b - a) / 4 * 3 := ⟨_, rfl⟩
  go_enter Try.func132, Try.ntmps132
  rcases Nat.lt_or_ge (b - a) 8 with h8 | h8
  · go_wp2
    refine ⟨rfl, _, run_results (ts := [6, 7]) rfl _ _, ?_⟩
    obtain ⟨hA, hB⟩ := Sg.done hw hsg0
    exact ⟨_, _, ⟨rfl, p2, 1, by omega, by omega, by rw [show ((p2 : Nat) : Int) = (a : Int) + ((b : Int) - a) / 4 * 2 by omega]; rfl⟩, rfl, hA, cur, hB, rfl, hc⟩
  · have m1 : InAB a b p1 := by unfold InAB; omega
    have m2 : InAB a b p2 := by unfold InAB; omega
    have m3 : InAB a b p3 := by unfold InAB; omega
    rcases Nat.lt_or_ge (b - a) 50 with h50 | h50
    · go_wp2_with (go_at_call 167; rw [show (a : Int) + ((b : Int) - a) / 4 * 3 = ((p3 : Nat) : Int) by omega, show (a : Int) + ((b : Int) - a) / 4 * 2 = ((p2 : Nat) : Int) by omega, show (a : Int) + ((b : Int) - a) / 4 = ((p1 : Nat) : Int) by omega]; refine (median_sg hsg0 hM _ _ _ m1 m2 m3).mono ?_; rintro e w' ⟨r, hr, rfl, hsg⟩; obtain ⟨x, hx⟩ := hsg.cell)
      all_goals
        refine ⟨rfl, _, run_results (ts := [6, 7]) rfl _ _, ?_⟩
        obtain ⟨hA, hB⟩ := Sg.done hw hsg
        first
          | exact ⟨_, _, ⟨rfl, r, 0, hr.1, hr.2, rfl⟩, rfl, hA, cur, hB, rfl, hc⟩
          | exact ⟨_, _, ⟨rfl, r, 1, hr.1, hr.2, rfl⟩, rfl, hA, cur, hB, rfl, hc⟩
          | exact ⟨_, _, ⟨rfl, r, 2, hr.1, hr.2, rfl⟩, rfl, hA, cur, hB, rfl, hc⟩
    · have i1 : InAB a b (p1 - 1) := by unfold InAB; omega
      have i2 : InAB a b (p2 - 1) := by unfold InAB; omega
      have i3 : InAB a b (p3 - 1) := by unfold InAB; omega
      have j1 : InAB a b (p1 + 1) := by unfold InAB; omega
      have j2 : InAB a b (p2 + 1) := by unfold InAB; omega
      have j3 : InAB a b (p3 + 1) := by unfold InAB; omega
      have g1 : 1 ≤ p1 ∧ p1 ≤ 1099511627776 := by omega
      have g2 : 1 ≤ p2 ∧ p2 ≤ 1099511627776 := by omega
      have g3 : 1 ≤ p3 ∧ p3 ≤ 1099511627776 := by omega
      go_wp2_with (first
        | (go_at_call 166
           first
            | ((with_reducible show Calls _ _ #[_, .int .i64 (_ + _ / 4 * 3), _] _ _); rw [show (a : Int) + ((b : Int) - a) / 4 * 3 = ((p3 : Nat) : Int) by omega]; refine (medianAdjacent_sg (by assumption) hM _ g3.1 g3.2 i3 m3 j3).mono ?_; rintro e w' ⟨r3, hr3, rfl, hsg3⟩)
            | ((with_reducible show Calls _ _ #[_, .int .i64 (_ + _ / 4 * 2), _] _ _); rw [show (a : Int) + ((b : Int) - a) / 4 * 2 = ((p2 : Nat) : Int) by omega]; refine (medianAdjacent_sg (by assumption) hM _ g2.1 g2.2 i2 m2 j2).mono ?_; rintro e w' ⟨r2, hr2, rfl, hsg2⟩)
            | ((with_reducible show Calls _ _ #[_, .int .i64 (_ + _ / 4), _] _ _); rw [show (a : Int) + ((b : Int) - a) / 4 = ((p1 : Nat) : Int) by omega]; refine (medianAdjacent_sg hsg0 hM _ g1.1 g1.2 i1 m1 j1).mono ?_; rintro e w' ⟨r1, hr1, rfl, hsg1⟩))
        | (go_at_call 167; refine (median_sg hsg3 hM _ _ _ hr1 hr2 hr3).mono ?_; rintro e w' ⟨r, hr, rfl, hsg⟩; obtain ⟨x, hx⟩ := hsg.cell))
      all_goals
        refine ⟨rfl, _, run_results (ts := [6, 7]) rfl _ _, ?_⟩
        obtain ⟨hA, hB⟩ := Sg.done hw hsg
        first
          | exact ⟨_, _, ⟨rfl, r, 0, hr.1, hr.2, rfl⟩, rfl, hA, cur, hB, rfl, hc⟩
          | exact ⟨_, _, ⟨rfl, r, 1, hr.1, hr.2, rfl⟩, rfl, hA, cur, hB, rfl, hc⟩
          | exact ⟨_, _, ⟨rfl, r, 2, hr.1, hr.2, rfl⟩, rfl, hA, cur, hB, rfl, hc⟩
end Go.Proofs.Yteapdildbfimnaa
namespace Go.Proofs
open Go.Shelf
def Try.byteSort_ren : Go.Shelf.Ren := ⟨fun | 15 => 94 | 28 => 138 | 29 => 139 | 47 => 164 | 48 => 165 | n => n,
  fun | 0 => 0 | 3 => 3 | 4 => 4 | 5 => 5 | 9 => 9 | 39 => 119 | 53 => 151 | 55 => 71 | 66 => 165 | 76 => 173 | n => n, fun n => n⟩
set_option maxRecDepth 100000 in
theorem Try.byteSort47 : SlLaysF0.n47 Try.prog Try.byteSort_ren := {
  mixed := by kernel_rfl
  f15 := Try.func94.trans (congrArg some (by kernel_rfl))
  f28 := Try.func138.trans (congrArg some (by kernel_rfl))
  f29 := Try.func139.trans (congrArg some (by kernel_rfl))
  f47 := Try.func164.trans (congrArg some (by kernel_rfl))
  t3 := Try.underlying3
  a3 := Try.isAgg3
  z3 := Try.sizeOf3
  v3 := Try.zeroValue3
  t4 := Try.underlying4
  a4 := Try.isAgg4
  z4 := Try.sizeOf4
  v4 := Try.zeroValue4
  t5 := Try.underlying5
  a5 := Try.isAgg5
  z5 := Try.sizeOf5
  v5 := Try.zeroValue5
  t9 := Try.underlying9
  a9 := Try.isAgg9
  z9 := Try.sizeOf9
  v9 := Try.zeroValue9
  t39 := Try.underlying119
  a39 := Try.isAgg119
  z39 := Try.sizeOf119
  v39 := Try.zeroValue119
  t53 := Try.underlying151
  a53 := Try.isAgg151
  z53 := Try.sizeOf151
  v53 := Try.zeroValue151
  t55 := Try.underlying71
  a55 := Try.isAgg71
  z55 := Try.sizeOf71
  v55 := Try.zeroValue71
}
set_option maxRecDepth 100000 in
theorem Try.byteSort48 : SlLaysF0.n48 Try.prog Try.byteSort_ren := {
  mixed := by kernel_rfl
  f48 := Try.func165.trans (congrArg some (by kernel_rfl))
  t0 := Try.underlying0
  a0 := Try.isAgg0
  z0 := Try.sizeOf0
  v0 := Try.zeroValue0
  t39 := Try.underlying119
  a39 := Try.isAgg119
  z39 := Try.sizeOf119
  v39 := Try.zeroValue119
  t55 := Try.underlying71
  a55 := Try.isAgg71
  z55 := Try.sizeOf71
  v55 := Try.zeroValue71
  t66 := Try.underlying165
  a66 := Try.isAgg165
  z66 := Try.sizeOf165
  v66 := Try.zeroValue165
  t76 := Try.underlying173
  a76 := Try.isAgg173
  z76 := Try.sizeOf173
  v76 := Try.zeroValue173
}
end Go.Proofs
namespace Go.Proofs.Yteapdildbfimnaa
open Go.Shelf Go.RowKit Go.Proofs Go.Sort Go.Lib
set_option linter.unusedSimpArgs false
set_option linter.unusedVariables false
set_option maxRecDepth 20000

theorem nextPow (n : Nat) (hn : n < 4611686018427387904) (w : World) : Calls Try.prog 164 #[.int .i64 n] w fun e w' => e = .returned (.int .u64 ((1 <<< bitsLen n : Nat) : Int)) ∧ w' = w := AnyF.nextPowerOfTwo Try.byteSort47 n hn w
theorem xorNext_w (pb X : Nat) (hX : X < 18446744073709551616) (w : World) (hc : w.cell? ⟨pb, 0, none⟩ = some (.int .u64 X)) (hf : w.frozen? ⟨pb, 0, none⟩ = false) :
    Calls Try.prog 165 #[.pointer (some ⟨pb, 0, none⟩)] w fun e w' => e = .returned (.int .u64 (xorNextN X : Nat)) ∧ w' = (w.setCell ⟨pb, 0, none⟩ (.int .u64 (xorNextN X : Nat))).drewN 3 := AnyF.xorshift_Next Try.byteSort48 pb 0 X hX w hc hf

structure Bp (bk n c : Nat) (e : TypeId) (a b : Nat) (d : Nat → Int) (W0 : World) (d' : Nat → Int) (X : Nat) (w : World) : Prop where
  ab : AllBut bk W0 w
  lt : bk < W0.heap.size
  pm : Pm a b d d'
  cur : ∃ cur : Array Value, Gb w bk e cur ∧ cur.size = c ∧ ∀ i, i < n → cur[i]? = some (.int .u8 (d' i))
  hX : X < 18446744073709551616
  rx : ∃ e2, w.heap[W0.heap.size]? = some (.cells #[.int .u64 X] e2 (0, 0))

section
variable {bk n c : Nat} {e : TypeId} {a b : Nat} {d : Nat → Int} {W0 : World} {d' : Nat → Int} {X : Nat} {w : World}
theorem Bp.at (h : Bp bk n c e a b d W0 d' X w) {i : Nat} (hi : i < n) : w.cell? ⟨bk, i, none⟩ = some (.int .u8 (d' i)) := by
  obtain ⟨cur, h1, h2, h3⟩ := h.cur
  exact h1.cell (h3 i hi)
theorem Bp.fz (h : Bp bk n c e a b d W0 d' X w) {i : Nat} (hi : i < n) : w.frozen? ⟨bk, i, none⟩ = false := by
  obtain ⟨cur, h1, h2, h3⟩ := h.cur
  exact h1.fz (Array.getElem?_eq_some_iff.1 (h3 i hi)).1
theorem Bp.rc (h : Bp bk n c e a b d W0 d' X w) : w.cell? ⟨W0.heap.size, 0, none⟩ = some (.int .u64 X) := by
  obtain ⟨e2, h1⟩ := h.rx
  exact cell_of_blk h1 rfl
theorem Bp.rf (h : Bp bk n c e a b d W0 d' X w) : w.frozen? ⟨W0.heap.size, 0, none⟩ = false := by
  obtain ⟨e2, h1⟩ := h.rx
  simp [World.frozen?, h1]
theorem Bp.next (h : Bp bk n c e a b d W0 d' X w) (Y : Nat) (hY : Y < 18446744073709551616) : Bp bk n c e a b d W0 d' Y ((w.setCell ⟨W0.heap.size, 0, none⟩ (.int .u64 (Y : Nat))).drewN 3) := by
  obtain ⟨e2, h1⟩ := h.rx
  obtain ⟨cur, k1, k2, k3⟩ := h.cur
  have hl := h.lt
  refine ⟨⟨h.ab.os, h.ab.tape, h.ab.output, by show W0.heap.size ≤ (w.setCell _ _).heap.size; rw [setCell_size]; exact h.ab.size, fun j hj hne => ?_⟩, h.lt, h.pm, ⟨cur, ?_, k2, k3⟩, hY, ⟨e2, ?_⟩⟩
  · show (w.setCell _ _).heap[j]? = _
    rw [Below.heap_setCell _ _ _ _ (by show j ≠ W0.heap.size; omega)]
    exact h.ab.oth j hj hne
  · refine k1.congr ?_
    show (w.setCell _ _).heap[bk]? = _
    rw [Below.heap_setCell _ _ _ _ (by show bk ≠ W0.heap.size; omega)]
  · show (w.setCell _ _).heap[W0.heap.size]? = _
    rw [setCell_at h1]
    rfl
theorem Bp.c2 (h : Bp bk n c e a b d W0 d' X w) {i j : Nat} (hi : i < n) (hj : j < n) (v : Value) : ∃ u, (w.setCell ⟨bk, i, none⟩ v).cell? ⟨bk, j, none⟩ = some u := by
  by_cases e1 : i = j
  · subst e1; exact ⟨v, World.cell?_setCell_same _ _ _ (h.at hi)⟩
  · exact ⟨_, (World.cell?_setCell_other _ _ _ _ (by intro e'; simp only [Addr.mk.injEq] at e'; omega)).trans (h.at hj)⟩
theorem Bp.swap (h : Bp bk n c e a b d W0 d' X w) {i j : Nat} (hbn : b ≤ n) (hi : a ≤ i ∧ i < b) (hj : a ≤ j ∧ j < b) : Bp bk n c e a b d W0 (swF d' i j) X (((w.setCell ⟨bk, i, none⟩ (.int .u8 (d' j))).setCell ⟨bk, j, none⟩ (.int .u8 (d' i))).drew) := by
  obtain ⟨e2, h1⟩ := h.rx
  obtain ⟨cur, k1, k2, k3⟩ := h.cur
  have hl := h.lt
  refine ⟨⟨h.ab.os, h.ab.tape, h.ab.output, by show W0.heap.size ≤ ((w.setCell _ _).setCell _ _).heap.size; rw [setCell_size, setCell_size]; exact h.ab.size, fun k hk hne => ?_⟩, h.lt, h.pm.trans (Pm.sw d' hi hj), ⟨(cur.setIfInBounds i (.int .u8 (d' j))).setIfInBounds j (.int .u8 (d' i)), ?_, by simpa using k2, fun k hk => ?_⟩, h.hX, ⟨e2, ?_⟩⟩
  · show ((w.setCell _ _).setCell _ _).heap[k]? = _
    rw [Below.heap_setCell _ _ _ _ hne, Below.heap_setCell _ _ _ _ hne]
    exact h.ab.oth k hk hne
  · exact ((k1.set i _).set j _).congr rfl
  · have hc := k3 k hk
    have hci := k3 i (by omega)
    have hcj := k3 j (by omega)
    obtain ⟨li, _⟩ := Array.getElem?_eq_some_iff.1 hci
    obtain ⟨lj, _⟩ := Array.getElem?_eq_some_iff.1 hcj
    unfold swF
    by_cases ej : k = j
    · subst ej
      rw [Array.getElem?_setIfInBounds_self_of_lt (by simpa using lj)]
      by_cases ei : k = i
      · rw [if_pos ei, ei]
      · rw [if_neg ei, if_pos rfl]
    · rw [Array.getElem?_setIfInBounds_ne (fun h => ej h.symm)]
      by_cases ei : k = i
      · subst ei
        rw [Array.getElem?_setIfInBounds_self_of_lt li, if_pos rfl]
      · rw [Array.getElem?_setIfInBounds_ne (fun h => ei h.symm), if_neg ei, if_neg ej]
        exact hc
  · show ((w.setCell _ _).setCell _ _).heap[W0.heap.size]? = _
    rw [Below.heap_setCell _ _ _ _ (by show W0.heap.size ≠ bk; omega), Below.heap_setCell _ _ _ _ (by show W0.heap.size ≠ bk; omega)]
    exact h1
end
end Go.Proofs.Yteapdildbfimnaa
namespace Go.Proofs.Yteapdildbfimnaa
open Go.Shelf Go.RowKit Go.Proofs Go.Sort Go.Lib
set_option linter.unusedSimpArgs false
set_option linter.unusedVariables false
set_option maxRecDepth 1000000

def unitM (p : (Nat → Int) → Prop) (D' : Nat → V) (v : Value) : Prop := ∃ d', D' = vuF d' ∧ p d' ∧ v = .tuple #[]
theorem Bp.start {w : World} {bk n c : Nat} {cur : Array Value} {e : TypeId} {a b : Nat} {d : Nat → Int} {L : Nat} {t : TypeId} (hL : L < 18446744073709551616) (hw : Gb w bk e cur) (hs : cur.size = c) (hc : ∀ i, i < n → ∃ x, cur[i]? = some x ∧ vuF d i = .val x) :
    Bp bk n c e a b d w d L (w.alloc (Obj.cells #[Value.int IntKind.u64 (L : Int)] t)) := by
  have hl : bk < w.heap.size := hw.lt
  have key : ∀ k, k < w.heap.size → (w.alloc (Obj.cells #[Value.int IntKind.u64 (L : Int)] t)).heap[k]? = w.heap[k]? := fun k hk => by
    show (w.heap.push _)[k]? = _
    rw [Array.getElem?_push_lt hk]
    simp [hk]
  refine ⟨⟨rfl, rfl, rfl, by show w.heap.size ≤ (w.heap.push _).size; rw [Array.size_push]; omega, fun k hk _ => key k hk⟩, hl, Pm.refl _ _ _, ⟨cur, hw.congr (key bk hl), hs, fun i hi => ?_⟩, hL, ⟨t, by show (w.heap.push _)[w.heap.size]? = _; rw [Array.getElem?_push_size]⟩⟩
  obtain ⟨x, h1, h2⟩ := hc i hi
  have h2 : vu (d i) = .val x := h2
  injection h2 with h2
  rw [h1, h2]
theorem Bp.done {bk n c : Nat} {e : TypeId} {a b : Nat} {d : Nat → Int} {W0 : World} {d' : Nat → Int} {X : Nat} {w : World} (h : Bp bk n c e a b d W0 d' X w) : AllBut bk W0 w ∧ ∃ cur : Array Value, Gb w bk e cur ∧ cur.size = c ∧ ∀ i, i < n → ∃ x, cur[i]? = some x ∧ vuF d' i = .val x := by
  obtain ⟨cur, h1, h2, h3⟩ := h.cur
  exact ⟨h.ab, cur, h1, h2, fun i hi => ⟨_, h3 i hi, rfl⟩⟩

set_option maxHeartbeats 8000000 in
theorem breakPatterns_m (n : Nat) (d : Nat → Int) (a b : Nat) (hab : a < b) (hbn : b ≤ n) (hn : n ≤ 1099511627776) : FnM Try.prog 131 n (vuF d) [.int .i64 a, .int .i64 b] (unitM fun d' => Pm a b d d') := by
  refine ⟨Try.call131, fun w bk c cur e hw hnc hcm hsz hc => ?_⟩
  obtain ⟨L, hL⟩ : ∃ L, b = a + L := ⟨b - a, by omega⟩
  subst hL
  have hLz : ((a : Int) + (L : Int) - (a : Int)) = (L : Int) := by omega
  by_cases h8 : 8 ≤ L
  · have h8z : (8 : Int) ≤ (L : Int) := by omega
    obtain ⟨M, hM⟩ : ∃ M : Nat, M = 1 <<< bitsLen L := ⟨_, rfl⟩
    have hM1 : 1 ≤ M := by rw [hM, Nat.one_shiftLeft]; exact Nat.two_pow_pos _
    have hM2 : M ≤ 2 * L := by rw [hM, Nat.one_shiftLeft]; exact two_pow_bitsLen_le (by omega)
    have hNP : ∀ w, Calls Try.prog 164 #[.int .i64 (L : Int)] w fun e w' => e = .returned (.int .u64 (M : Int)) ∧ w' = w := by rw [hM]; exact fun w => nextPow L (by omega) w
    clear hM
    have mixed : Try.prog.follows .mixedOrders = true := rfl
    have S0 : Aside (∀ t, Bp bk n c e a (a + L) d w d L (w.alloc (Obj.cells #[Value.int IntKind.u64 (L : Int)] t))) := fun t => Bp.start (by omega) hw hsz hc
    have HC : Aside (cur.size = c) := hsz
    clear hw hc hsz
    go_enter Try.func131, Try.ntmps131
    go_wp2_with (first | (go_at_call 164; refine (hNP _).mono ?_; rintro e w' ⟨rfl, rfl⟩))
    go_loopg [9] 3 (fun g1 vi wr => ∃ (t : Nat) (X : Nat) (dk : Nat → Int), vi = .int .i64 ((a : Int) + (L : Int) / 4 * 2 - 1 + (t : Int)) ∧ t ≤ 3 ∧ 3 - t ≤ g1 ∧ Aside (Bp bk n c e a (a + L) d w dk X wr))
    case atStart =>
      exact ⟨0, L, d, by simp, by omega, by omega, S0 _⟩
    case round =>
      clear S0
      obtain ⟨t, X, dk, rfl, ht, hg1, S1⟩ := hrel
      by_cases ht3 : t < 3
      · have hle : (a : Int) + (L : Int) / 4 * 2 - 1 + (t : Int) ≤ (a : Int) + (L : Int) / 4 * 2 + 1 := by omega
        have hNext : Calls Try.prog 165 #[.pointer (some ⟨w.heap.size, 0, none⟩)] wr fun e w' => e = .returned (.int .u64 (xorNextN X : Nat)) ∧ w' = (wr.setCell ⟨w.heap.size, 0, none⟩ (.int .u64 (xorNextN X : Nat))).drewN 3 := xorNext_w _ X S1.out.hX wr S1.out.rc S1.out.rf
        have lR' := xorNextN_lt X S1.out.hX
        have S2 : Aside (Bp bk n c e a (a + L) d w dk (xorNextN X) ((wr.setCell ⟨w.heap.size, 0, none⟩ (.int .u64 (xorNextN X : Nat))).drewN 3)) := S1.out.next _ lR'
        obtain ⟨R', hR'⟩ : ∃ R' : Nat, R' = xorNextN X := ⟨_, rfl⟩
        rw [← hR'] at hNext lR' S2
        obtain ⟨O, hO⟩ : ∃ O : Nat, O = R' &&& (M - 1) := ⟨_, rfl⟩
        have lO : O ≤ M - 1 := by rw [hO]; exact Nat.and_le_right
        have eAnd : bits .and .u64 (R' : Int) ((M : Int) - 1) = (O : Int) := by
          rw [show ((M : Int) - 1) = ((M - 1 : Nat) : Int) by omega, bits_and_u64_nat _ _ lR' (by omega), hO]
        clear hR' hO S1
        generalize (wr.setCell ⟨w.heap.size, 0, none⟩ (.int .u64 (R' : Nat))).drewN 3 = w2 at hNext S2
        by_cases hLO : L ≤ O
        · have hLOz : (L : Int) ≤ (O : Int) := by omega
          go_wp2_with (go_at_call 165; refine hNext.mono ?_; rintro e w' ⟨rfl, hw'⟩; obtain rfl : w2 = w' := hw'.symm)
          obtain ⟨i1, hi1⟩ : ∃ q, q = a + L / 4 * 2 - 1 + t := ⟨_, rfl⟩
          obtain ⟨j1, hj1⟩ : ∃ q, q = a + (O - L) := ⟨_, rfl⟩
          have ea : ((a : Int) + (L : Int) / 4 * 2 - 1 + (t : Int)).toNat = i1 := by omega
          have pa : (0 : Int) ≤ (a : Int) + (L : Int) / 4 * 2 - 1 + (t : Int) := by omega
          have ba : (a : Int) + (L : Int) / 4 * 2 - 1 + (t : Int) < (n : Int) := by omega
          have ra : IntKind.i64.wrap ((a : Int) + (L : Int) / 4 * 2 - 1 + (t : Int)) = (a : Int) + (L : Int) / 4 * 2 - 1 + (t : Int) := by rw [IntKind.wrap_i64]; omega
          have ec : ((a : Int) + ((O : Int) - (L : Int))).toNat = j1 := by omega
          have pc : (0 : Int) ≤ (a : Int) + ((O : Int) - (L : Int)) := by omega
          have bc : (a : Int) + ((O : Int) - (L : Int)) < (n : Int) := by omega
          have rc : IntKind.i64.wrap ((a : Int) + ((O : Int) - (L : Int))) = (a : Int) + ((O : Int) - (L : Int)) := by rw [IntKind.wrap_i64]; omega
          have li : a ≤ i1 ∧ i1 < a + L := by omega
          have lj : a ≤ j1 ∧ j1 < a + L := by omega
          obtain ⟨x, hx⟩ : ∃ x, x = dk i1 := ⟨_, rfl⟩
          obtain ⟨y, hy⟩ : ∃ x, x = dk j1 := ⟨_, rfl⟩
          have S3 : Aside (Bp bk n c e a (a + L) d w (swF dk i1 j1) R' (((w2.setCell ⟨bk, i1, none⟩ (.int .u8 y)).setCell ⟨bk, j1, none⟩ (.int .u8 x)).drew)) := by rw [hx, hy]; exact S2.out.swap hbn li lj
          have ca := S2.out.at (show i1 < n by omega)
          have cb := S2.out.at (show j1 < n by omega)
          have fa := S2.out.fz (show i1 < n by omega)
          have fb := S2.out.fz (show j1 < n by omega)
          obtain ⟨u, cc⟩ := S2.out.c2 (show i1 < n by omega) (show j1 < n by omega) (.int .u8 y)
          rw [← hx] at ca
          rw [← hy] at cb
          have HI : Aside (i1 = a + L / 4 * 2 - 1 + t) := hi1
          clear S2 hx hy hi1 hj1 li lj
          go_wp2_with fail
          go_big_region_o
          clear ca cb cc fa fb
          generalize ((w2.setCell ⟨bk, i1, none⟩ (.int .u8 y)).setCell ⟨bk, j1, none⟩ (.int .u8 x)).drew = w3 at S3 ⊢
          clear ea ec
          go_wp2
          go_roundg (3 - (t + 1))
          case measure => omega
          case rel => exact ⟨t + 1, R', swF dk i1 j1, by congr 1; push_cast; omega, by omega, Nat.le_refl _, S3⟩
        · have hLOz : ¬ (L : Int) ≤ (O : Int) := by omega
          go_wp2_with (go_at_call 165; refine hNext.mono ?_; rintro e w' ⟨rfl, hw'⟩; obtain rfl : w2 = w' := hw'.symm)
          obtain ⟨i1, hi1⟩ : ∃ q, q = a + L / 4 * 2 - 1 + t := ⟨_, rfl⟩
          obtain ⟨j1, hj1⟩ : ∃ q, q = a + O := ⟨_, rfl⟩
          have ea : ((a : Int) + (L : Int) / 4 * 2 - 1 + (t : Int)).toNat = i1 := by omega
          have pa : (0 : Int) ≤ (a : Int) + (L : Int) / 4 * 2 - 1 + (t : Int) := by omega
          have ba : (a : Int) + (L : Int) / 4 * 2 - 1 + (t : Int) < (n : Int) := by omega
          have ra : IntKind.i64.wrap ((a : Int) + (L : Int) / 4 * 2 - 1 + (t : Int)) = (a : Int) + (L : Int) / 4 * 2 - 1 + (t : Int) := by rw [IntKind.wrap_i64]; omega
          have ec : ((a : Int) + (O : Int)).toNat = j1 := by omega
          have pc : (0 : Int) ≤ (a : Int) + (O : Int) := by omega
          have bc : (a : Int) + (O : Int) < (n : Int) := by omega
          have rc : IntKind.i64.wrap ((a : Int) + (O : Int)) = (a : Int) + (O : Int) := by rw [IntKind.wrap_i64]; omega
          have li : a ≤ i1 ∧ i1 < a + L := by omega
          have lj : a ≤ j1 ∧ j1 < a + L := by omega
          obtain ⟨x, hx⟩ : ∃ x, x = dk i1 := ⟨_, rfl⟩
          obtain ⟨y, hy⟩ : ∃ x, x = dk j1 := ⟨_, rfl⟩
          have S3 : Aside (Bp bk n c e a (a + L) d w (swF dk i1 j1) R' (((w2.setCell ⟨bk, i1, none⟩ (.int .u8 y)).setCell ⟨bk, j1, none⟩ (.int .u8 x)).drew)) := by rw [hx, hy]; exact S2.out.swap hbn li lj
          have ca := S2.out.at (show i1 < n by omega)
          have cb := S2.out.at (show j1 < n by omega)
          have fa := S2.out.fz (show i1 < n by omega)
          have fb := S2.out.fz (show j1 < n by omega)
          obtain ⟨u, cc⟩ := S2.out.c2 (show i1 < n by omega) (show j1 < n by omega) (.int .u8 y)
          rw [← hx] at ca
          rw [← hy] at cb
          have HI : Aside (i1 = a + L / 4 * 2 - 1 + t) := hi1
          clear S2 hx hy hi1 hj1 li lj
          go_wp2_with fail
          go_big_region_o
          clear ca cb cc fa fb
          generalize ((w2.setCell ⟨bk, i1, none⟩ (.int .u8 y)).setCell ⟨bk, j1, none⟩ (.int .u8 x)).drew = w3 at S3 ⊢
          clear ea ec
          go_wp2
          go_roundg (3 - (t + 1))
          case measure => omega
          case rel => exact ⟨t + 1, R', swF dk i1 j1, by congr 1; push_cast; omega, by omega, Nat.le_refl _, S3⟩
      · obtain rfl : t = 3 := by omega
        have hle : ¬ ((a : Int) + (L : Int) / 4 * 2 - 1 + ((3 : Nat) : Int) ≤ (a : Int) + (L : Int) / 4 * 2 + 1) := by omega
        go_wp2
        go_end0
        obtain ⟨hA, cur', h1, h2, h3⟩ := S1.out.done
        exact ⟨_, _, ⟨dk, rfl, S1.out.pm, rfl⟩, rfl, hA, cur', h1, by rw [h2]; exact HC.out.symm, h3⟩
  · have h8z : ¬ (8 : Int) ≤ (L : Int) := by omega
    go_enter Try.func131, Try.ntmps131
    go_wp2
    go_end0
    exact ⟨_, _, ⟨d, rfl, Pm.refl _ _ _, rfl⟩, rfl, ⟨rfl, rfl, rfl, Nat.le_refl _, fun _ _ _ => rfl⟩, cur, hw, hsz, hc⟩
end Go.Proofs.Yteapdildbfimnaa
namespace Go.Proofs.Yteapdildbfimnaa
open Go.RowKit Go.Proofs
set_option linter.unusedSimpArgs false
set_option linter.unusedVariables false
set_option maxRecDepth 20000

set_option maxHeartbeats 16000000 in
theorem pdq_m (n : Nat) (hn : n ≤ 1099511627776) : ∀ (k a b l : Nat) (d : Nat → Int), b - a ≤ k → a ≤ b → b ≤ n → l ≤ 1024 → Ahd a b d → FnM Try.prog 93 n (vuF d) [.int .i64 a, .int .i64 b, .int .i64 l] (unitR fun d' => Pm a b d d' ∧ Srt a b d') := by
  intro k
  induction k using Nat.strongRecOn with
  | _ k ih =>
  intro a b l d hk hab hbn hl h0
  refine FnM.of_body (ts := []) Try.call93 Try.func93 rfl Try.ntmps93 rfl (by simp) vuF_val (fun N bk c e cx hcx hbN hnc => ?_)
  repeat' (first | (with_reducible first | refine then_normal ?_ | refine then_ret ?_ | refine then_exit ?_ | refine block_normal ?_ | refine block_ret ?_) | ((with_reducible show blockQ _ _ _ _); first | refine block_exit ?_ | refine block_exit_ne rfl ?_) | ((with_reducible show AWP _ _ _ _ _); first | (with_reducible first | refine AWP.seq ?_ | refine AWP.block ?_ | refine AWP.region ?_ | refine AWP.ret ?_ | refine AWP.exit ?_ | refine AWP.skip ?_) | refine AWP.drawn rfl (by kernel_rfl) ?_ | refine AWP.cond rfl ?_ ?_) | with_reducible refine ev_nil ?_ | ((first | ((with_reducible show evOps _ _ _ _ _ _); (first | refine ev_step rfl ?_ | refine ev_undef rfl rfl rfl ?_); intro K hK) | ((with_reducible show EvOpen _ _ _ _ _ _ _); refine ev_open ?_; intro K hK) | ((with_reducible show SkOpen _ _ _ _ _ _ _); refine sk_open ?_; intro K hK) | ((with_reducible show callK _ _ _ _ _ _ _ _); first | fail)); simp only [evOp, evQ, withS, opd, kput, putS, upd, slotsOf, upd, List.map_cons, List.map_nil, Nat.reduceEqDiff, Nat.reduceAdd, Nat.reduceLT, Nat.zero_add, ↓reduceIte, true_and]) | refine ev_guard rfl rfl rfl ?_ ?_ | ((with_reducible show retQ _ _ _ _); simp only [eq_self]) | (with_reducible refine hK _ ?_; clear hK K) | (with_reducible refine And.intro ?_ ?_) | (with_reducible intro hc; try simp only [eq_self] at hc) | omega)
  refine AWP.loop_entR [] (fun y : ((Nat × Nat) × Nat) × ((Bool × Bool) × (Nat → Int)) => ⟨[(0, .one (.pv (.grow (.slice (some ⟨bk, 0, none⟩) n c) (isB bk) e 1 n (vuF y.2.2)))), (1, sc (.int .i64 (y.1.1.1))), (2, sc (.int .i64 (y.1.1.2))), (3, sc (.int .i64 (y.1.2))), (8, sc (.bool y.2.1.1)), (9, sc (.bool y.2.1.2))], [], 134⟩) (fun y => a ≤ y.1.1.1 ∧ y.1.1.1 ≤ y.1.1.2 ∧ y.1.1.2 ≤ b ∧ y.1.2 ≤ 1024 ∧ Pm a b d y.2.2 ∧ Sp a b y.1.1.1 y.1.1.2 y.2.2) (fun y => y.1.1.2 - y.1.1.1) (((a, b), l), ((true, true), d)) ⟨Nat.le_refl _, hab, Nat.le_refl _, hl, Pm.refl _ _ _, Sp.start _ _ _⟩ ⟨rfl, by decide, ⟨VE.rfl' _, vi_eq (by first | omega | (simp; done) | (simp; omega) | (dsimp only; push_cast; omega)), vi_eq (by first | omega | (simp; done) | (simp; omega) | (dsimp only; push_cast; omega)), vi_eq (by first | omega | (simp; done) | (simp; omega) | (dsimp only; push_cast; omega)), rfl, rfl, trivial⟩, trivial⟩ ?_
  rintro ⟨⟨⟨a1, b1⟩, l1⟩, ⟨wb, wp⟩, d1⟩ ⟨k1, k2, k3, k4, hpm, hsp⟩
  dsimp only at k1 k2 k3 k4 hpm hsp ⊢
  have h01 : Ahd a1 b1 d1 := hsp.ahd (h0.perm hpm) k1 k3
  repeat' (first | ((with_reducible show Ax _ _ _ _ _); (refine ax_callM (f := 129) rfl rfl (by repeat' (first | exact rfl | refine argsV_ci rfl (by omega) ?_)) rfl hcx (by intro i hi; (try dsimp only); (repeat' split) <;> exact ⟨_, rfl⟩) rfl (by simp only [okRS, okR]; repeat' (first | exact trivial | exact rfl | refine And.intro ?_ ?_)) trivial (insertion_m n d1 a1 b1 (by omega) (by omega) hn) ?_ ; rintro _ _ ⟨d2, rfl, ⟨hpm2, hs2⟩, rfl⟩ hv2 ; simp only [upd, rwS, rwSl, upd, slotV, List.map_nil, Nat.reduceEqDiff, ↓reduceIte])) | ((with_reducible show Ax _ _ _ _ _); (refine ax_callM (f := 130) rfl rfl (by repeat' (first | exact rfl | refine argsV_ci rfl (by omega) ?_)) rfl hcx (by intro i hi; (try dsimp only); (repeat' split) <;> exact ⟨_, rfl⟩) rfl (by simp only [okRS, okR]; repeat' (first | exact trivial | exact rfl | refine And.intro ?_ ?_)) trivial (heapSort_m n d1 a1 b1 (by omega) (by omega) hn) ?_ ; rintro _ _ ⟨d2, rfl, ⟨hpm2, hs2⟩, rfl⟩ hv2 ; simp only [upd, rwS, rwSl, upd, slotV, List.map_nil, Nat.reduceEqDiff, ↓reduceIte])) | ((with_reducible show Ax _ _ _ _ _); (refine ax_callM (f := 131) rfl rfl (by repeat' (first | exact rfl | refine argsV_ci rfl (by omega) ?_)) rfl hcx (by intro i hi; (try dsimp only); (repeat' split) <;> exact ⟨_, rfl⟩) rfl (by simp only [okRS, okR]; repeat' (first | exact trivial | exact rfl | refine And.intro ?_ ?_)) trivial (breakPatterns_m n d1 a1 b1 (by omega) (by omega) hn) ?_ ; rintro _ _ ⟨d2, rfl, hpm2, rfl⟩ hv2 ; simp only [upd, rwS, rwSl, upd, slotV, List.map_nil, Nat.reduceEqDiff, ↓reduceIte])) | ((with_reducible show evNx _ _ _ _ _ _); first | (with_reducible refine nx_done ?_) | (refine nx_one rfl ?_) | (refine nx_alt rfl ?_ ?_) | (with_reducible refine nx_st ?_)) | ((with_reducible show evSx _ _ _ _ _ _); first | (with_reducible refine sx_done ?_) | (with_reducible refine sx_st ?_) | (with_reducible refine sx_op ?_)) | ((with_reducible show evTake _ _ _ _ _); with_reducible refine take_nil ?_) | ((with_reducible show evSy _ _ _ _ _ _ _); first | (with_reducible refine sy_done ?_) | (refine sy_last rfl ?_) | (refine sy_one (by decide) rfl ?_) | (refine sy_alt (by decide) rfl ?_ ?_) | (with_reducible refine sy_st ?_)) | ((with_reducible show StK _ _ _); first | fail) | (with_reducible first | refine then_normal ?_ | refine then_ret ?_ | refine then_exit ?_ | refine block_normal ?_ | refine block_ret ?_) | ((with_reducible show blockQ _ _ _ _); first | refine block_exit ?_ | refine block_exit_ne rfl ?_) | ((with_reducible show AWP _ _ _ _ _); first | (refine AWP.region_sx (id := 4) [.op, .op, .op, .op] ?_) | (refine AWP.region_sx (id := 6) [.op, .op, .op, .op] ?_) | (refine AWP.condX (t := 35) (fun y : Nat × (Nat → Int) => ⟨[(0, .one (.pv (.grow (.slice (some ⟨bk, 0, none⟩) n c) (isB bk) e 1 n (vuF y.2)))), (1, sc (.int .i64 (a1))), (2, sc (.int .i64 (b1))), (3, sc (.int .i64 (y.1))), (8, sc (.bool wb)), (9, sc (.bool wp)), (10, sc (.int .i64 ((b1 : Int) - a1)))], [], 134⟩) (fun y => y.1 ≤ 1024 ∧ Pm a1 b1 d1 y.2) ?_ ?_) | (refine AWP.region_sx (id := 8) [.op, .op, .op, .op] ?_) | (with_reducible first | refine AWP.seq ?_ | refine AWP.block ?_ | refine AWP.region ?_ | refine AWP.ret ?_ | refine AWP.exit ?_ | refine AWP.skip ?_) | refine AWP.drawn rfl (by kernel_rfl) ?_ | refine AWP.cond rfl ?_ ?_) | with_reducible refine ev_nil ?_ | ((first | ((with_reducible show evNx _ _ _ _ _ _); refine nx_take rfl ?_; intro K hK) | ((with_reducible show Ax _ _ _ _ _); first | (refine ax_op rfl ?_; intro K hK)) | ((with_reducible show evTake _ _ _ _ _); refine take_step rfl ?_; intro K hK) | ((with_reducible show evSy _ _ _ _ _ _ _); refine sy_take rfl ?_; intro K hK) | ((with_reducible show AxB _ _ _ _ _); first | (refine axb_op rfl rfl ?_; intro K hK)) | ((with_reducible show evOps _ _ _ _ _ _); (first | refine ev_step rfl ?_ | refine ev_undef rfl rfl rfl ?_); intro K hK) | ((with_reducible show EvOpen _ _ _ _ _ _ _); refine ev_open ?_; intro K hK) | ((with_reducible show SkOpen _ _ _ _ _ _ _); refine sk_open ?_; intro K hK) | ((with_reducible show callK _ _ _ _ _ _ _ _); first  | fail)); simp only [evOp, evQ, binK, withS, opd, kput, putS, upd, lookup, InK_i64, upd, Nat.reduceEqDiff, Nat.reduceLT, ↓reduceIte, eq_self, true_and]) | refine ev_guard rfl rfl rfl ?_ ?_ | ((with_reducible show retQ _ _ _ _); simp only [eq_self]) | (with_reducible refine hK _ ?_; clear hK K) | (with_reducible refine And.intro ?_ ?_) | (with_reducible intro hc; try simp only [decide_eq_true_eq, decide_eq_false_iff_not, beq_iff_eq, beq_eq_false_iff_ne, Bool.not_eq_true', Bool.not_eq_false', Int.not_le, ne_eq] at hc) | omega)
  all_goals try first
    | (exfalso; omega; done)
    | exact ⟨_, _, rfl, vuF_val, rfl, d2, rfl, ⟨hpm.trans (hpm2.widen k1 k3), (hsp.perm k1 k3 hpm2).done hs2⟩, rfl⟩
    | exact ⟨(l1 - 1, d2), ⟨by show l1 - 1 ≤ 1024; omega, hpm2⟩, [], ⟨rfl, by decide, ⟨VE.rfl' _, vi_eq (by first | omega | (simp; done) | (simp; omega) | (dsimp only; push_cast; omega)), vi_eq (by first | omega | (simp; done) | (simp; omega) | (dsimp only; push_cast; omega)), vi_eq (by first | omega | (simp; done) | (simp; omega) | (dsimp only; push_cast; omega)), rfl, rfl, vi_eq (by first | omega | (simp; done) | (simp; omega) | (dsimp only; push_cast; omega)), trivial⟩, trivial⟩⟩
    | exact ⟨(l1, d1), ⟨k4, Pm.refl _ _ _⟩, [], ⟨rfl, by decide, ⟨VE.rfl' _, vi_eq (by first | omega | (simp; done) | (simp; omega) | (dsimp only; push_cast; omega)), vi_eq (by first | omega | (simp; done) | (simp; omega) | (dsimp only; push_cast; omega)), vi_eq (by first | omega | (simp; done) | (simp; omega) | (dsimp only; push_cast; omega)), rfl, rfl, vi_eq (by first | omega | (simp; done) | (simp; omega) | (dsimp only; push_cast; omega)), trivial⟩, trivial⟩⟩
  have hlen : a1 + 12 < b1 := by omega
  rintro ⟨l2, d2⟩ ⟨k5, hpm2⟩
  dsimp only at k5 hpm2 ⊢
  have h02 : Ahd a1 b1 d2 := h01.perm hpm2
  repeat' (first | ((with_reducible show Ax _ _ _ _ _); (refine ax_callM (f := 132) rfl rfl (by repeat' (first | exact rfl | refine argsV_ci rfl (by omega) ?_)) rfl hcx (by intro i hi; (try dsimp only); (repeat' split) <;> exact ⟨_, rfl⟩) rfl (by simp only [okRS, okR]; repeat' (first | exact trivial | exact rfl | refine And.intro ?_ ?_)) trivial (choosePivot_m n d2 a1 b1 (by omega) (by omega) hn) ?_ ; rintro _ _ ⟨rfl, p1, h1, hp1, hp2, rfl⟩ hv2 ; simp only [upd, rwS, rwSl, upd, slotV, List.map_cons, List.map_nil, Nat.reduceEqDiff, ↓reduceIte])) | ((with_reducible show Ax _ _ _ _ _); (refine ax_callM (f := 133) rfl rfl (by repeat' (first | exact rfl | refine argsV_ci rfl (by omega) ?_)) rfl hcx (by intro i hi; (try dsimp only); (repeat' split) <;> exact ⟨_, rfl⟩) rfl (by simp only [okRS, okR]; repeat' (first | exact trivial | exact rfl | refine And.intro ?_ ?_)) trivial (reverse_m n d2 a1 b1 (by omega) (by omega) hn) ?_ ; rintro _ _ ⟨d3, rfl, hpm3, rfl⟩ hv3 ; simp only [upd, rwS, rwSl, upd, slotV, List.map_nil, Nat.reduceEqDiff, ↓reduceIte])) | ((with_reducible show evNx _ _ _ _ _ _); first | (with_reducible refine nx_done ?_) | (refine nx_one rfl ?_) | (refine nx_alt rfl ?_ ?_) | (with_reducible refine nx_st ?_)) | ((with_reducible show evSx _ _ _ _ _ _); first | (with_reducible refine sx_done ?_) | (with_reducible refine sx_st ?_) | (with_reducible refine sx_op ?_)) | ((with_reducible show evTake _ _ _ _ _); with_reducible refine take_nil ?_) | ((with_reducible show evSy _ _ _ _ _ _ _); first | (with_reducible refine sy_done ?_) | (refine sy_last rfl ?_) | (refine sy_one (by decide) rfl ?_) | (refine sy_alt (by decide) rfl ?_ ?_) | (with_reducible refine sy_st ?_)) | ((with_reducible show StK _ _ _); first | fail) | (with_reducible first | refine then_normal ?_ | refine then_ret ?_ | refine then_exit ?_ | refine block_normal ?_ | refine block_ret ?_) | ((with_reducible show blockQ _ _ _ _); first | refine block_exit ?_ | refine block_exit_ne rfl ?_) | ((with_reducible show AWP _ _ _ _ _); first | (refine AWP.region_sx (id := 10) [.op, .op, .op, .op, .op, .op, .op, .op, .op] ?_) | (refine AWP.condX (t := 50) (fun y : (Nat × Nat) × (Nat → Int) => ⟨[(0, .one (.pv (.grow (.slice (some ⟨bk, 0, none⟩) n c) (isB bk) e 1 n (vuF y.2)))), (1, sc (.int .i64 (a1))), (2, sc (.int .i64 (b1))), (3, sc (.int .i64 (l2))), (8, sc (.bool wb)), (9, sc (.bool wp)), (10, sc (.int .i64 ((b1 : Int) - a1))), (11, sc (.int .i64 (y.1.1))), (12, sc (.int .i64 (y.1.2)))], [], 134⟩) (fun y => a1 ≤ y.1.1 ∧ y.1.1 < b1 ∧ Pm a1 b1 d2 y.2) ?_ ?_) | (refine AWP.region_sx (id := 12) [.op, .op, .op, .op] ?_) | (with_reducible first | refine AWP.seq ?_ | refine AWP.block ?_ | refine AWP.region ?_ | refine AWP.ret ?_ | refine AWP.exit ?_ | refine AWP.skip ?_) | refine AWP.drawn rfl (by kernel_rfl) ?_ | refine AWP.cond rfl ?_ ?_) | with_reducible refine ev_nil ?_ | ((first | ((with_reducible show evNx _ _ _ _ _ _); refine nx_take rfl ?_; intro K hK) | ((with_reducible show Ax _ _ _ _ _); first | (refine ax_op rfl ?_; intro K hK)) | ((with_reducible show evTake _ _ _ _ _); refine take_step rfl ?_; intro K hK) | ((with_reducible show evSy _ _ _ _ _ _ _); refine sy_take rfl ?_; intro K hK) | ((with_reducible show AxB _ _ _ _ _); first | (refine axb_op rfl rfl ?_; intro K hK)) | ((with_reducible show evOps _ _ _ _ _ _); (first | refine ev_step rfl ?_ | refine ev_undef rfl rfl rfl ?_); intro K hK) | ((with_reducible show EvOpen _ _ _ _ _ _ _); refine ev_open ?_; intro K hK) | ((with_reducible show SkOpen _ _ _ _ _ _ _); refine sk_open ?_; intro K hK) | ((with_reducible show callK _ _ _ _ _ _ _ _); first  | fail)); simp only [evOp, evQ, binK, withS, opd, kput, putS, upd, lookup, InK_i64, upd, List.getElem?_cons_zero, List.getElem?_cons_succ, Nat.reduceEqDiff, Nat.reduceLT, ↓reduceIte, eq_self, true_and]) | refine ev_guard rfl rfl rfl ?_ ?_ | ((with_reducible show retQ _ _ _ _); simp only [eq_self]) | (with_reducible refine hK _ ?_; clear hK K) | (with_reducible refine And.intro ?_ ?_) | (with_reducible intro hc; try simp only [beq_iff_eq, beq_eq_false_iff_ne, ne_eq] at hc) | omega)
  all_goals try first
    | (exfalso; omega; done)
    | exact ⟨((b1 - 1 - (p1 - a1), 1), d3), ⟨by show a1 ≤ b1 - 1 - (p1 - a1); omega, by show b1 - 1 - (p1 - a1) < b1; omega, hpm3⟩, [], ⟨rfl, by decide, ⟨VE.rfl' _, vi_eq (by first | omega | (simp; done) | (simp; omega) | (dsimp only; push_cast; omega)), vi_eq (by first | omega | (simp; done) | (simp; omega) | (dsimp only; push_cast; omega)), vi_eq (by first | omega | (simp; done) | (simp; omega) | (dsimp only; push_cast; omega)), rfl, rfl, vi_eq (by first | omega | (simp; done) | (simp; omega) | (dsimp only; push_cast; omega)), vi_eq (by first | omega | (simp; done) | (simp; omega) | (dsimp only; push_cast; omega)), vi_eq (by first | omega | (simp; done) | (simp; omega) | (dsimp only; push_cast; omega)), trivial⟩, trivial⟩⟩
    | exact ⟨((p1, h1), d2), ⟨hp1, hp2, Pm.refl _ _ _⟩, [], ⟨rfl, by decide, ⟨VE.rfl' _, vi_eq (by first | omega | (simp; done) | (simp; omega) | (dsimp only; push_cast; omega)), vi_eq (by first | omega | (simp; done) | (simp; omega) | (dsimp only; push_cast; omega)), vi_eq (by first | omega | (simp; done) | (simp; omega) | (dsimp only; push_cast; omega)), rfl, rfl, vi_eq (by first | omega | (simp; done) | (simp; omega) | (dsimp only; push_cast; omega)), vi_eq (by first | omega | (simp; done) | (simp; omega) | (dsimp only; push_cast; omega)), vi_eq (by first | omega | (simp; done) | (simp; omega) | (dsimp only; push_cast; omega)), trivial⟩, trivial⟩⟩
  rintro ⟨⟨p, h⟩, d3⟩ ⟨k6, k7, hpm3⟩
  dsimp only at k6 k7 hpm3 ⊢
  have h03 : Ahd a1 b1 d3 := h02.perm hpm3
  repeat' (first | ((with_reducible show Ax _ _ _ _ _); (refine ax_callM (f := 134) rfl rfl (by repeat' (first | exact rfl | refine argsV_ci rfl (by omega) ?_)) rfl hcx (by intro i hi; (try dsimp only); (repeat' split) <;> exact ⟨_, rfl⟩) rfl (by simp only [okRS, okR]; repeat' (first | exact trivial | exact rfl | refine And.intro ?_ ?_)) trivial (partialInsertion_m n d3 a1 b1 (by omega) (by omega) hn h03) ?_ ; rintro _ _ ⟨d4, q, rfl, ⟨hpm4, hq⟩, rfl⟩ hv4 ; simp only [upd, rwS, rwSl, upd, slotV, Nat.reduceEqDiff, ↓reduceIte])) | ((with_reducible show evNx _ _ _ _ _ _); first | (with_reducible refine nx_done ?_) | (refine nx_one rfl ?_) | (refine nx_alt rfl ?_ ?_) | (with_reducible refine nx_st ?_)) | ((with_reducible show evSx _ _ _ _ _ _); first | (with_reducible refine sx_done ?_) | (with_reducible refine sx_st ?_) | (with_reducible refine sx_op ?_)) | ((with_reducible show evTake _ _ _ _ _); with_reducible refine take_nil ?_) | ((with_reducible show evSy _ _ _ _ _ _ _); first | (with_reducible refine sy_done ?_) | (refine sy_last rfl ?_) | (refine sy_one (by decide) rfl ?_) | (refine sy_alt (by decide) rfl ?_ ?_) | (with_reducible refine sy_st ?_)) | ((with_reducible show StK _ _ _); first | fail) | (with_reducible first | refine then_normal ?_ | refine then_ret ?_ | refine then_exit ?_ | refine block_normal ?_ | refine block_ret ?_) | ((with_reducible show blockQ _ _ _ _); first | refine block_exit ?_ | refine block_exit_ne rfl ?_) | ((with_reducible show AWP _ _ _ _ _); first | (refine AWP.regX (id := 15) (t := 68) (fun d4 : Nat → Int => ⟨[(0, .one (.pv (.grow (.slice (some ⟨bk, 0, none⟩) n c) (isB bk) e 1 n (vuF d4)))), (1, sc (.int .i64 (a1))), (2, sc (.int .i64 (b1))), (3, sc (.int .i64 (l2))), (8, sc (.bool wb)), (9, sc (.bool wp)), (10, sc (.int .i64 ((b1 : Int) - a1))), (11, sc (.int .i64 (p)))], [], 134⟩) (fun d4 => Pm a1 b1 d3 d4) ?_ ?_) | (refine AWP.region_sx (id := 16) [.op, .op, .op, .op] ?_) | (with_reducible first | refine AWP.seq ?_ | refine AWP.block ?_ | refine AWP.region ?_ | refine AWP.ret ?_ | refine AWP.exit ?_ | refine AWP.skip ?_) | refine AWP.drawn rfl (by kernel_rfl) ?_ | refine AWP.cond rfl ?_ ?_) | with_reducible refine ev_nil ?_ | ((first | ((with_reducible show evNx _ _ _ _ _ _); refine nx_take rfl ?_; intro K hK) | ((with_reducible show Ax _ _ _ _ _); first | (refine ax_op rfl ?_; intro K hK)) | ((with_reducible show evTake _ _ _ _ _); refine take_step rfl ?_; intro K hK) | ((with_reducible show evSy _ _ _ _ _ _ _); refine sy_take rfl ?_; intro K hK) | ((with_reducible show AxB _ _ _ _ _); first | (refine axb_op rfl rfl ?_; intro K hK)) | ((with_reducible show evOps _ _ _ _ _ _); (first | refine ev_step rfl ?_ | refine ev_undef rfl rfl rfl ?_); intro K hK) | ((with_reducible show EvOpen _ _ _ _ _ _ _); refine ev_open ?_; intro K hK) | ((with_reducible show SkOpen _ _ _ _ _ _ _); refine sk_open ?_; intro K hK) | ((with_reducible show callK _ _ _ _ _ _ _ _); first  | fail)); simp only [evOp, evQ, binK, withS, opd, kput, putS, upd, lookup, skipOp, upd, Nat.reduceEqDiff, Nat.reduceLT, ↓reduceIte, eq_self, true_and, and_true, Bool.not_true, Bool.true_eq_false, Bool.false_eq_true, false_implies, forall_const]) | refine ev_guard rfl rfl rfl ?_ ?_ | ((with_reducible show retQ _ _ _ _); simp only [eq_self]) | (with_reducible refine hK _ ?_; clear hK K) | (with_reducible refine And.intro ?_ ?_) | (with_reducible intro hc; try simp only [beq_iff_eq, beq_eq_false_iff_ne, Bool.not_true, ne_eq, reduceCtorEq, Bool.true_eq_false] at hc) | omega)
  all_goals try first
    | (exfalso; omega; done)
    | exact ⟨_, _, rfl, vuF_val, rfl, d4, rfl, ⟨(((hpm.trans (hpm2.widen k1 k3)).trans (hpm3.widen k1 k3)).trans (hpm4.widen k1 k3)), (hsp.perm k1 k3 ((hpm2.trans hpm3).trans hpm4)).done (hq (by assumption))⟩, rfl⟩
    | exact ⟨d4, hpm4, [], ⟨rfl, by decide, ⟨VE.rfl' _, vi_eq (by first | omega | (simp; done) | (simp; omega) | (dsimp only; push_cast; omega)), vi_eq (by first | omega | (simp; done) | (simp; omega) | (dsimp only; push_cast; omega)), vi_eq (by first | omega | (simp; done) | (simp; omega) | (dsimp only; push_cast; omega)), rfl, rfl, vi_eq (by first | omega | (simp; done) | (simp; omega) | (dsimp only; push_cast; omega)), vi_eq (by first | omega | (simp; done) | (simp; omega) | (dsimp only; push_cast; omega)), trivial⟩, trivial⟩⟩
    | exact ⟨d3, Pm.refl _ _ _, [], ⟨rfl, by decide, ⟨VE.rfl' _, vi_eq (by first | omega | (simp; done) | (simp; omega) | (dsimp only; push_cast; omega)), vi_eq (by first | omega | (simp; done) | (simp; omega) | (dsimp only; push_cast; omega)), vi_eq (by first | omega | (simp; done) | (simp; omega) | (dsimp only; push_cast; omega)), rfl, rfl, vi_eq (by first | omega | (simp; done) | (simp; omega) | (dsimp only; push_cast; omega)), vi_eq (by first | omega | (simp; done) | (simp; omega) | (dsimp only; push_cast; omega)), trivial⟩, trivial⟩⟩
  rintro d4 hpm4
  have h04 : Ahd a1 b1 d4 := h03.perm hpm4
  have hsp4 : Sp a b a1 b1 d4 := hsp.perm k1 k3 ((hpm2.trans hpm3).trans hpm4)
  have hpm4' : Pm a b d d4 := hpm.trans (((hpm2.trans hpm3).trans hpm4).widen k1 k3)
  clear hpm2 hpm3 hpm4 h03 h02 h01 hsp hpm
  have ea : ((a1 : Int) - 1).toNat = a1 - 1 := by omega
  repeat' (first | ((with_reducible show Ax _ _ _ _ _); (refine ax_callM (f := 136) rfl rfl (by repeat' (first | exact rfl | refine argsV_ci rfl (by omega) ?_)) rfl hcx (by intro i hi; (try dsimp only); (repeat' split) <;> exact ⟨_, rfl⟩) rfl (by simp only [okRS, okR]; repeat' (first | exact trivial | exact rfl | refine And.intro ?_ ?_)) trivial (partitionEqual_m n d4 a1 b1 p k6 k7 (by omega) hn) ?_ ; rintro _ _ ⟨d5, m, rfl, ⟨hpm5, hm1, hm2, hm3, hm4⟩, rfl⟩ hv5 ; simp only [upd, rwS, rwSl, upd, slotV, Nat.reduceEqDiff, ↓reduceIte, true_and])) | ((with_reducible show evNx _ _ _ _ _ _); first | (with_reducible refine nx_done ?_) | (refine nx_one rfl ?_) | (refine nx_alt rfl ?_ ?_) | (with_reducible refine nx_st ?_)) | ((with_reducible show evSx _ _ _ _ _ _); first | (with_reducible refine sx_done ?_) | (with_reducible refine sx_st ?_) | (with_reducible refine sx_op ?_)) | ((with_reducible show evTake _ _ _ _ _); with_reducible refine take_nil ?_) | ((with_reducible show evSy _ _ _ _ _ _ _); first | (with_reducible refine sy_done ?_) | (refine sy_last rfl ?_) | (refine sy_one (by decide) rfl ?_) | (refine sy_alt (by decide) rfl ?_ ?_) | (with_reducible refine sy_st ?_)) | ((with_reducible show StK _ _ _); first | fail) | (with_reducible first | refine then_normal ?_ | refine then_ret ?_ | refine then_exit ?_ | refine block_normal ?_ | refine block_ret ?_) | ((with_reducible show blockQ _ _ _ _); first | refine block_exit ?_ | refine block_exit_ne rfl ?_) | ((with_reducible show AWP _ _ _ _ _); first | (refine AWP.regX (id := 17) (t := 87) (fun _ : Unit => ⟨[(0, .one (.pv (.grow (.slice (some ⟨bk, 0, none⟩) n c) (isB bk) e 1 n (vuF d4)))), (1, sc (.int .i64 (a1))), (2, sc (.int .i64 (b1))), (3, sc (.int .i64 (l2))), (8, sc (.bool wb)), (9, sc (.bool wp)), (10, sc (.int .i64 ((b1 : Int) - a1))), (11, sc (.int .i64 (p)))], [], 134⟩) (fun _ => True) ?_ ?_) | (refine AWP.region_sx (id := 18) [.op, .op, .op, .op, .op, .op] ?_) | (with_reducible first | refine AWP.seq ?_ | refine AWP.block ?_ | refine AWP.region ?_ | refine AWP.ret ?_ | refine AWP.exit ?_ | refine AWP.skip ?_) | refine AWP.drawn rfl (by kernel_rfl) ?_ | refine AWP.cond rfl ?_ ?_) | with_reducible refine ev_nil ?_ | ((first | ((with_reducible show evNx _ _ _ _ _ _); refine nx_take rfl ?_; intro K hK) | ((with_reducible show Ax _ _ _ _ _); first | (refine ax_op rfl ?_; intro K hK)) | ((with_reducible show evTake _ _ _ _ _); refine take_step rfl ?_; intro K hK) | ((with_reducible show evSy _ _ _ _ _ _ _); refine sy_take rfl ?_; intro K hK) | ((with_reducible show AxB _ _ _ _ _); first | (refine axb_op rfl rfl ?_; intro K hK)) | ((with_reducible show evOps _ _ _ _ _ _); (first | refine ev_step rfl ?_ | refine ev_undef rfl rfl rfl ?_); intro K hK) | ((with_reducible show EvOpen _ _ _ _ _ _ _); refine ev_open ?_; intro K hK) | ((with_reducible show SkOpen _ _ _ _ _ _ _); refine sk_open ?_; intro K hK) | ((with_reducible show callK _ _ _ _ _ _ _ _); first  | (refine call_scalar (less_fn _ _) (Nat.le_of_ble_eq_true rfl) rfl ?_))); simp only [evOp, evQ, binK, withS, opd, kput, putS, upd, lookup, skipOp, argsK, bringIn, bring, Res.list, Res.slot, InK_i64, sz_bytes, c_u8, upd, List.reverse_cons, List.reverse_nil, List.nil_append, List.cons_append, Nat.reduceEqDiff, Nat.reduceLT, Nat.mul_one, Nat.add_zero, ↓reduceIte, eq_self, true_and, and_true, Bool.not_true, Bool.true_eq_false, Bool.false_eq_true, false_implies, forall_const, Int.toNat_natCast]) | refine ev_guard rfl rfl rfl ?_ ?_ | ((with_reducible show retQ _ _ _ _); simp only [eq_self]) | (with_reducible refine hK _ ?_; clear hK K) | (with_reducible refine And.intro ?_ ?_) | (with_reducible intro hc; try simp only [decide_eq_true_eq, decide_eq_false_iff_not, Bool.not_eq_true', Bool.not_eq_false', Bool.not_true, Int.not_lt, gt_iff_lt, reduceCtorEq, Bool.true_eq_false] at hc) | omega)
  all_goals simp only [Int.toNat_natCast, ea] at *
  all_goals try first
    | (exfalso; omega; done)
    | exact ⟨(), trivial, [], ⟨rfl, by decide, ⟨VE.rfl' _, vi_eq (by first | omega | (simp; done) | (simp; omega) | (dsimp only; push_cast; omega)), vi_eq (by first | omega | (simp; done) | (simp; omega) | (dsimp only; push_cast; omega)), vi_eq (by first | omega | (simp; done) | (simp; omega) | (dsimp only; push_cast; omega)), rfl, rfl, vi_eq (by first | omega | (simp; done) | (simp; omega) | (dsimp only; push_cast; omega)), vi_eq (by first | omega | (simp; done) | (simp; omega) | (dsimp only; push_cast; omega)), trivial⟩, trivial⟩⟩
  · exact ⟨(((m, b1), l2), ((wb, wp), d5)), ⟨by show a ≤ m; omega, hm2, k3, k5, hpm4'.trans (hpm5.widen k1 k3), hsp4.equal (p := d4 p) k1 k3 hpm5 ⟨Nat.le_of_lt hm1, hm2⟩ (fun i j1 j2 => by rw [← hm3]; exact hm4 i j1 j2) (fun i j1 j2 => Int.le_trans (by have := hpm5.out (a1 - 1) (by omega); omega) ((h04.perm hpm5) (by omega) i j1 j2))⟩, by show b1 - m < b1 - a1; omega, [], ⟨rfl, by decide, ⟨VE.rfl' _, vi_eq (by first | omega | (simp; done) | (simp; omega) | (dsimp only; push_cast; omega)), vi_eq (by first | omega | (simp; done) | (simp; omega) | (dsimp only; push_cast; omega)), vi_eq (by first | omega | (simp; done) | (simp; omega) | (dsimp only; push_cast; omega)), rfl, rfl, trivial⟩, trivial⟩⟩
  rintro _ _
  repeat' (first | ((with_reducible show Ax _ _ _ _ _); (refine ax_callM (f := 137) rfl rfl (by repeat' (first | exact rfl | refine argsV_ci rfl (by omega) ?_)) rfl hcx (by intro i hi; (try dsimp only); (repeat' split) <;> exact ⟨_, rfl⟩) rfl (by simp only [okRS, okR]; repeat' (first | exact trivial | exact rfl | refine And.intro ?_ ?_)) trivial (partition_m n d4 a1 b1 p k6 k7 (by omega) hn) ?_ ; rintro _ _ ⟨d5, m, q, rfl, ⟨hpm5, hm1, hm2, hprt⟩, rfl⟩ hv5 ; simp only [upd, rwS, rwSl, upd, slotV, List.map_cons, List.map_nil, Nat.reduceEqDiff, ↓reduceIte])) | ((with_reducible show evNx _ _ _ _ _ _); first | (with_reducible refine nx_done ?_) | (refine nx_one rfl ?_) | (refine nx_alt rfl ?_ ?_) | (with_reducible refine nx_st ?_)) | ((with_reducible show evSx _ _ _ _ _ _); first | (with_reducible refine sx_done ?_) | (with_reducible refine sx_st ?_) | (with_reducible refine sx_op ?_)) | ((with_reducible show evTake _ _ _ _ _); with_reducible refine take_nil ?_) | ((with_reducible show evSy _ _ _ _ _ _ _); first | (with_reducible refine sy_done ?_) | (refine sy_last rfl ?_) | (refine sy_one (by decide) rfl ?_) | (refine sy_alt (by decide) rfl ?_ ?_) | (with_reducible refine sy_st ?_)) | ((with_reducible show StK _ _ _); first | fail) | (with_reducible first | refine then_normal ?_ | refine then_ret ?_ | refine then_exit ?_ | refine block_normal ?_ | refine block_ret ?_) | ((with_reducible show blockQ _ _ _ _); first | refine block_exit ?_ | refine block_exit_ne rfl ?_) | ((with_reducible show AWP _ _ _ _ _); first | (refine AWP.region_sx (id := 20) [.op, .op, .op, .op, .op, .op, .op, .op, .op, .op] ?_) | (refine AWP.holdW (id := 21) ?_) | (with_reducible first | refine AWP.seq ?_ | refine AWP.block ?_ | refine AWP.region ?_ | refine AWP.ret ?_ | refine AWP.exit ?_ | refine AWP.skip ?_) | refine AWP.drawn rfl (by kernel_rfl) ?_ | refine AWP.cond rfl ?_ ?_) | with_reducible refine ev_nil ?_ | ((first | ((with_reducible show evNx _ _ _ _ _ _); refine nx_take rfl ?_; intro K hK) | ((with_reducible show Ax _ _ _ _ _); first | (refine ax_op rfl ?_; intro K hK)) | ((with_reducible show evTake _ _ _ _ _); refine take_step rfl ?_; intro K hK) | ((with_reducible show evSy _ _ _ _ _ _ _); refine sy_take rfl ?_; intro K hK) | ((with_reducible show AxB _ _ _ _ _); first | (refine axb_op rfl rfl ?_; intro K hK)) | ((with_reducible show evOps _ _ _ _ _ _); (first | refine ev_step rfl ?_ | refine ev_undef rfl rfl rfl ?_); intro K hK) | ((with_reducible show EvOpen _ _ _ _ _ _ _); refine ev_open ?_; intro K hK) | ((with_reducible show SkOpen _ _ _ _ _ _ _); refine sk_open ?_; intro K hK) | ((with_reducible show callK _ _ _ _ _ _ _ _); first  | fail)); simp only [evOp, evQ, withS, opd, kput, putS, upd, lookup, upd, List.getElem?_cons_zero, List.getElem?_cons_succ, Nat.reduceEqDiff, Nat.reduceLT, ↓reduceIte, eq_self, true_and]) | refine ev_guard rfl rfl rfl ?_ ?_ | ((with_reducible show retQ _ _ _ _); simp only [eq_self]) | (with_reducible refine hK _ ?_; clear hK K) | (with_reducible refine And.intro ?_ ?_) | (with_reducible intro hc; try simp only [eq_self] at hc) | omega)
  unfold HoldW
  refine AWP.entR [] ⟨[(0, .one (.pv (.grow (.slice (some ⟨bk, 0, none⟩) n c) (isB bk) e 1 n (vuF d5)))), (1, sc (.int .i64 (a1))), (2, sc (.int .i64 (b1))), (3, sc (.int .i64 (l2))), (8, sc (.bool wb)), (9, sc (.bool wp)), (10, sc (.int .i64 ((b1 : Int) - a1))), (14, sc (.int .i64 (m))), (15, sc (.bool q))], [], 134⟩ ⟨rfl, by decide, ⟨VE.rfl' _, vi_eq (by first | omega | (simp; done) | (simp; omega) | (dsimp only; push_cast; omega)), vi_eq (by first | omega | (simp; done) | (simp; omega) | (dsimp only; push_cast; omega)), vi_eq (by first | omega | (simp; done) | (simp; omega) | (dsimp only; push_cast; omega)), rfl, rfl, vi_eq (by first | omega | (simp; done) | (simp; omega) | (dsimp only; push_cast; omega)), vi_eq (by first | omega | (simp; done) | (simp; omega) | (dsimp only; push_cast; omega)), rfl, trivial⟩, trivial⟩ ?_
  have hpm5' : Pm a b d d5 := hpm4'.trans (hpm5.widen k1 k3)
  have hsp5 : Sp a b a1 b1 d5 := hsp4.perm k1 k3 hpm5
  have h05 : Ahd a1 b1 d5 := h04.perm hpm5
  clear hpm5 hsp4 h04 hpm4'
  repeat' (first | ((with_reducible show Ax _ _ _ _ _); (first | ((with_reducible show Ax _ _ _ (Oper.mk (some 121) _ _ _ _ _) _) ; refine ax_callM (f := 93) rfl rfl (by repeat' (first | exact rfl | refine argsV_ci rfl (by omega) ?_)) rfl hcx (by intro i hi; (try dsimp only); (repeat' split) <;> exact ⟨_, rfl⟩) rfl (by simp only [okRS, okR]; repeat' (first | exact trivial | exact rfl | refine And.intro ?_ ?_)) trivial (ih (m - a1) (by omega) a1 m l2 d5 (Nat.le_refl _) hm1 (by omega) k5 (h05.short (by omega))) ?_ ; rintro _ _ ⟨d6, rfl, ⟨hpm6, hs6⟩, rfl⟩ hv6 ; simp only [upd, rwS, rwSl, upd, slotV, List.map_nil, Nat.reduceEqDiff, ↓reduceIte]) | ((with_reducible show Ax _ _ _ (Oper.mk (some 132) _ _ _ _ _) _) ; refine ax_callM (f := 93) rfl rfl (by repeat' (first | exact rfl | refine argsV_ci rfl (by omega) ?_)) rfl hcx (by intro i hi; (try dsimp only); (repeat' split) <;> exact ⟨_, rfl⟩) rfl (by simp only [okRS, okR]; repeat' (first | exact trivial | exact rfl | refine And.intro ?_ ?_)) trivial (ih (b1 - (m + 1)) (by omega) (m + 1) b1 l2 d5 (Nat.le_refl _) (by omega) (by omega) k5 hprt.ahd) ?_ ; rintro _ _ ⟨d6, rfl, ⟨hpm6, hs6⟩, rfl⟩ hv6 ; simp only [upd, rwS, rwSl, upd, slotV, List.map_nil, Nat.reduceEqDiff, ↓reduceIte]))) | ((with_reducible show evNx _ _ _ _ _ _); first | (with_reducible refine nx_done ?_) | (refine nx_one rfl ?_) | (refine nx_alt rfl ?_ ?_) | (with_reducible refine nx_st ?_)) | ((with_reducible show evSx _ _ _ _ _ _); first | (with_reducible refine sx_done ?_) | (with_reducible refine sx_st ?_) | (with_reducible refine sx_op ?_)) | ((with_reducible show evTake _ _ _ _ _); with_reducible refine take_nil ?_) | ((with_reducible show evSy _ _ _ _ _ _ _); first | (with_reducible refine sy_done ?_) | (refine sy_last rfl ?_) | (refine sy_one (by decide) rfl ?_) | (refine sy_alt (by decide) rfl ?_ ?_) | (with_reducible refine sy_st ?_)) | ((with_reducible show StK _ _ _); first | fail) | (with_reducible first | refine then_normal ?_ | refine then_ret ?_ | refine then_exit ?_ | refine block_normal ?_ | refine block_ret ?_) | ((with_reducible show blockQ _ _ _ _); first | refine block_exit ?_ | refine block_exit_ne rfl ?_) | ((with_reducible show AWP _ _ _ _ _); first | (refine AWP.region_sx (id := 26) [.op, .op, .op, .op, .op] ?_) | (refine AWP.region_sx (id := 29) [.op, .op, .op, .op, .op, .op] ?_) | (with_reducible first | refine AWP.seq ?_ | refine AWP.block ?_ | refine AWP.region ?_ | refine AWP.ret ?_ | refine AWP.exit ?_ | refine AWP.skip ?_) | refine AWP.drawn rfl (by kernel_rfl) ?_ | refine AWP.cond rfl ?_ ?_) | with_reducible refine ev_nil ?_ | ((first | ((with_reducible show evNx _ _ _ _ _ _); refine nx_take rfl ?_; intro K hK) | ((with_reducible show Ax _ _ _ _ _); first | (refine ax_op rfl ?_; intro K hK)) | ((with_reducible show evTake _ _ _ _ _); refine take_step rfl ?_; intro K hK) | ((with_reducible show evSy _ _ _ _ _ _ _); refine sy_take rfl ?_; intro K hK) | ((with_reducible show AxB _ _ _ _ _); first | (refine axb_op rfl rfl ?_; intro K hK)) | ((with_reducible show evOps _ _ _ _ _ _); (first | refine ev_step rfl ?_ | refine ev_undef rfl rfl rfl ?_); intro K hK) | ((with_reducible show EvOpen _ _ _ _ _ _ _); refine ev_open ?_; intro K hK) | ((with_reducible show SkOpen _ _ _ _ _ _ _); refine sk_open ?_; intro K hK) | ((with_reducible show callK _ _ _ _ _ _ _ _); first  | fail)); simp only [evOp, evQ, binK, withS, opd, kput, putS, upd, lookup, InK_i64, upd, Nat.reduceEqDiff, Nat.reduceLT, ↓reduceIte, eq_self, true_and]) | refine ev_guard rfl rfl rfl ?_ ?_ | ((with_reducible show retQ _ _ _ _); simp only [eq_self]) | (with_reducible refine hK _ ?_; clear hK K) | (with_reducible refine And.intro ?_ ?_) | (with_reducible intro hc; try simp only [decide_eq_true_eq, decide_eq_false_iff_not, Int.not_lt] at hc) | omega)
  all_goals first
    | (exfalso; omega; done)
    | exact ⟨(((m + 1, b1), l2), ((_, _), d6)), ⟨by show a ≤ m + 1; omega, by show m + 1 ≤ b1; omega, k3, k5, hpm5'.trans (hpm6.widen k1 (by omega)), hsp5.left k1 k3 ⟨hm1, hm2⟩ hprt hpm6 hs6⟩, by show b1 - (m + 1) < b1 - a1; omega, [], ⟨rfl, by decide, ⟨VE.rfl' _, vi_eq (by first | omega | (simp; done) | (simp; omega) | (dsimp only; push_cast; omega)), vi_eq (by first | omega | (simp; done) | (simp; omega) | (dsimp only; push_cast; omega)), vi_eq (by first | omega | (simp; done) | (simp; omega) | (dsimp only; push_cast; omega)), rfl, rfl, trivial⟩, trivial⟩⟩
    | exact ⟨(((a1, m), l2), ((_, _), d6)), ⟨k1, hm1, by show m ≤ b; omega, k5, hpm5'.trans (hpm6.widen (by omega) k3), hsp5.right k1 k3 ⟨hm1, hm2⟩ hprt hpm6 hs6⟩, by show m - a1 < b1 - a1; omega, [], ⟨rfl, by decide, ⟨VE.rfl' _, vi_eq (by first | omega | (simp; done) | (simp; omega) | (dsimp only; push_cast; omega)), vi_eq (by first | omega | (simp; done) | (simp; omega) | (dsimp only; push_cast; omega)), vi_eq (by first | omega | (simp; done) | (simp; omega) | (dsimp only; push_cast; omega)), rfl, rfl, trivial⟩, trivial⟩⟩
    | trace_state
end Go.Proofs.Yteapdildbfimnaa
namespace Go.Proofs.Yteapdildbfimnaa
open Go.RowKit Go.Proofs Go.Sort
set_option linter.unusedSimpArgs false
set_option linter.unusedVariables false
set_option maxRecDepth 20000

theorem bitLen_small (n : Nat) (hn : n ≤ 1099511627776) : Go.Lib.bitLen n ≤ 1024 := by
  rw [bitLen_eq _ (by omega)]
  exact Nat.le_trans ((bitsLen_le_iff n 62).2 (by omega)) (by decide)
set_option maxHeartbeats 1000000 in
theorem sort_m (n : Nat) (hn : n ≤ 1099511627776) (d : Nat → Int) : FnM Try.prog 48 n (vuF d) [] (unitM fun d' => Pm 0 n d d' ∧ Srt 0 n d') := by
  refine ⟨Try.call48, fun w bk c cur e hw hnc hcm hsz hc => ?_⟩
  obtain ⟨l, hl⟩ : ∃ l, l = Go.Lib.bitLen n := ⟨_, rfl⟩
  have hl2 : l ≤ 1024 := by rw [hl]; exact bitLen_small n hn
  have hL : ∀ w, Calls Try.prog 94 #[.int .u64 (n : Int)] w fun e w' => e = .returned (.int .i64 (l : Nat)) ∧ w' = w := fun w => by
    have := Try.bits_Len (n : Int) w (by omega) (by omega)
    rw [Int.toNat_natCast, ← hl] at this
    exact this
  have hP := (pdq_m n hn n 0 n l d (by omega) (by omega) (Nat.le_refl _) hl2 (fun h => absurd h (by omega))).runs w bk c cur e hw hnc hcm hsz hc
  clear hl
  go_enter Try.func48, Try.ntmps48
  go_wp2_with (first | (go_at_call 94; refine (hL _).mono ?_; rintro e w' ⟨rfl, rfl⟩) | (go_at_call 93; refine hP.mono ?_; rintro e w' ⟨D', v, ⟨d', rfl, hR, rfl⟩, rfl, h1, h2⟩))
  go_end0
  exact ⟨_, _, ⟨d', rfl, hR, rfl⟩, rfl, h1, h2⟩
end Go.Proofs.Yteapdildbfimnaa
