/- Parts of the proof of LawFnParts: contracts of functions, laws of an abstract state, plain facts. No conditions. -/
import Derived.Test.YteapdildbfimnaaB05
import Derived.MapKept
import Derived.ChangeMaps5
import Derived.Deep.AppendSrc
namespace Go.Proofs.Yteapdildbfimnaa
open Go.RowKit Go.Proofs
set_option linter.unusedSimpArgs false
set_option linter.unusedVariables false
set_option maxRecDepth 20000

theorem pSame_self (a : List ByteArray) (ha : a.length ≤ 1099511627776) : Fn Try.prog 42 [strs a, strs a] (.one (.pv (vb true))) := by
  refine Fn.of_body Try.call42 Try.func42 rfl Try.ntmps42 (ts := [4]) rfl (by simp) rfl (fun N => ?_)
  repeat' (first | (with_reducible first | refine then_normal ?_ | refine then_ret ?_ | refine then_exit ?_ | refine block_normal ?_ | refine block_ret ?_) | ((with_reducible show blockQ _ _ _ _); first | refine block_exit ?_ | refine block_exit_ne rfl ?_) | ((with_reducible show AWP _ _ _ _ _); first | (with_reducible first | refine AWP.seq ?_ | refine AWP.block ?_ | refine AWP.region ?_ | refine AWP.ret ?_ | refine AWP.exit ?_ | refine AWP.skip ?_) | refine AWP.drawn rfl (by kernel_rfl) ?_ | refine AWP.cond rfl ?_ ?_) | with_reducible refine ev_nil ?_ | ((first | ((with_reducible show evOps _ _ _ _ _ _); (first | refine ev_step rfl ?_ | refine ev_undef rfl rfl rfl ?_); intro K hK) | ((with_reducible show EvOpen _ _ _ _ _ _ _); refine ev_open ?_; intro K hK) | ((with_reducible show SkOpen _ _ _ _ _ _ _); refine sk_open ?_; intro K hK) | ((with_reducible show callK _ _ _ _ _ _ _ _); first | fail)); simp only [evOp, evQ, evB, binK, withS, opd, kput, putS, upd, lookup, slotsOf, sz_strs, Nat.reduceEqDiff, Nat.reduceLT, Nat.zero_add, ↓reduceIte, eq_self, true_and, Option.isSome_some]) | refine ev_guard rfl rfl rfl ?_ ?_ | ((with_reducible show retQ _ _ _ _); simp only [eq_self]) | (with_reducible refine hK _ ?_; clear hK K) | (with_reducible refine And.intro ?_ ?_) | (with_reducible intro hc; try simp only [bne_iff_ne, bne_eq_false_iff_eq, ne_eq, not_true_eq_false] at hc) | omega)
  all_goals try (exfalso; simp_all; done)
  refine AWP.loop_ent (fun k : Nat => ⟨[(0, .one (.pv (strs a))), (1, .one (.pv (strs a))), (12, sc (.int .i64 a.length)), (13, sc (.int .i64 k))], [], 26⟩)
    (fun k => k ≤ a.length) (fun k => a.length - k) 0 (by omega) (by simp [Ent, EntS, EntH, SlE, VE, lookup, BE, VE.rfl']) ?_
  intro k hk
  repeat' (first | (with_reducible first | refine then_normal ?_ | refine then_ret ?_ | refine then_exit ?_ | refine block_normal ?_ | refine block_ret ?_) | ((with_reducible show blockQ _ _ _ _); first | refine block_exit ?_ | refine block_exit_ne rfl ?_) | ((with_reducible show AWP _ _ _ _ _); first | (with_reducible first | refine AWP.seq ?_ | refine AWP.block ?_ | refine AWP.region ?_ | refine AWP.ret ?_ | refine AWP.exit ?_ | refine AWP.skip ?_) | refine AWP.drawn rfl (by kernel_rfl) ?_ | refine AWP.cond rfl ?_ ?_) | with_reducible refine ev_nil ?_ | ((first | ((with_reducible show evOps _ _ _ _ _ _); (first | refine ev_step rfl ?_ | refine ev_undef rfl rfl rfl ?_); intro K hK) | ((with_reducible show EvOpen _ _ _ _ _ _ _); refine ev_open ?_; intro K hK) | ((with_reducible show SkOpen _ _ _ _ _ _ _); refine sk_open ?_; intro K hK) | ((with_reducible show callK _ _ _ _ _ _ _ _); first | fail)); simp only [evOp, evQ, binK, withS, opd, kput, putS, upd, lookup, InK_i64, sz_strs, c_string, Nat.reduceEqDiff, Nat.reduceLT, Nat.mul_one, Nat.add_zero, ↓reduceIte, eq_self, true_and, Int.toNat_natCast]) | refine ev_guard rfl rfl rfl ?_ ?_ | ((with_reducible show retQ _ _ _ _); simp only [retQ, retOk, getL, lookup, Option.map_some, fitsL, fits, ND, srcs, Res.list, VE, Nat.reduceEqDiff, ↓reduceIte, and_true]) | (with_reducible refine hK _ ?_; clear hK K) | (with_reducible refine And.intro ?_ ?_) | (with_reducible intro hc; try simp only [decide_eq_true_eq, decide_eq_false_iff_not, bne_iff_ne, bne_eq_false_iff_eq, Int.not_lt, ne_eq, not_true_eq_false] at hc) | omega)
  all_goals first
    | (exfalso; omega)
    | (exfalso; simp_all; done)
    | exact ⟨k + 1, by omega, by omega, by simp [Ent, EntS, EntH, SlE, VE, lookup, BE, VE.rfl']⟩
    | rfl
    | trace_state

theorem retE_P {t N id n : Nat} {s : ASt} {blk : Blk} (u : List ByteArray) (hl : lookup s.σ t = some (.one (.own id 1 0 n))) (hn : n = u.length) (hb : s.h[id]? = some (some blk)) (he : BE blk (bstrs u)) (hp : PcOk u) : retE [t] N someP .ret s := by
  subst hn
  refine ⟨_, ⟨u, hp, rfl⟩, ⟨fun i hi => trivial, trivial⟩, ?_⟩
  unfold retOk
  simp only [getL, hl, Option.map_some, Res.list, fitsL, fits, srcs, ND, and_true, true_and]
  exact ⟨⟨blk, hb, he⟩, by simp⟩
open Go.RowKit Go.Proofs
section
variable {m : Nat} {g : Nat → Int}
set_option maxHeartbeats 2000000 in
theorem drawIsPicture_E (hb : BytOk m g) : FnE Try.prog 80 [bytV m g] someP := by
  refine FnE.of_body (fun N => [.old (fun b => b < N) (bytV m g)]) (fun _ us h => oldL_rd _ us h) Try.call80 Try.func80 rfl Try.ntmps80 (ts := [2]) rfl (fun _ => by simp) (someP.shape) (fun N => ?_)
  repeat' (first | ((with_reducible show evNx _ _ _ _ _ _); first | (with_reducible refine nx_done ?_) | (refine nx_one rfl ?_) | (refine nx_alt rfl ?_ ?_) | (with_reducible refine nx_st ?_)) | ((with_reducible show evSx _ _ _ _ _ _); first | (with_reducible refine sx_done ?_) | (with_reducible refine sx_st ?_) | (with_reducible refine sx_op ?_)) | ((with_reducible show evTake _ _ _ _ _); with_reducible refine take_nil ?_) | ((with_reducible show evSy _ _ _ _ _ _ _); first | (with_reducible refine sy_done ?_) | (refine sy_last rfl ?_) | (refine sy_one (by decide) rfl ?_) | (refine sy_alt (by decide) rfl ?_ ?_) | (with_reducible refine sy_st ?_)) | ((with_reducible show StK _ _ _); first | fail) | (with_reducible first | refine then_normal ?_ | refine then_ret ?_ | refine then_exit ?_ | refine block_normal ?_ | refine block_ret ?_) | ((with_reducible show blockQ _ _ _ _); first | refine block_exit ?_ | refine block_exit_ne rfl ?_) | ((with_reducible show AWP _ _ _ _ _); first | (refine AWP.letCur_rg (id := 2) 3 rfl rfl rfl rfl rfl rfl (fun _ h => h) ?_ ; intro b hbN ; simp only [upd, List.set_cons_zero, Nat.reduceEqDiff, ↓reduceIte, eq_self]) | (refine AWP.region_sx (id := 2) [.op, .op, .op] ?_) | (with_reducible first | refine AWP.seq ?_ | refine AWP.block ?_ | refine AWP.region ?_ | refine AWP.ret ?_ | refine AWP.exit ?_ | refine AWP.skip ?_) | refine AWP.drawn rfl (by kernel_rfl) ?_ | refine AWP.cond rfl ?_ ?_) | with_reducible refine ev_nil ?_ | ((first | ((with_reducible show evNx _ _ _ _ _ _); refine nx_take rfl ?_; intro K hK) | ((with_reducible show Ax _ _ _ _ _); first | ((first | refine ax_callC (f := 85) ?_); refine callC_go (x := _) (xs := _) rfl rfl rfl (by first | exact .inl (by rw [hcx]; exact rfl) | exact .inr (by assumption)) (by (try simp only [okS, okSl, okH, eq_self, true_and, and_true, and_self]); repeat' (first | exact trivial | exact rfl | exact disj_cut | exact disj_lt (by assumption) | assumption | omega | refine And.intro ?_ ?_ | (intro i hi; first | exact trivial | (split <;> first | exact trivial | exact disj_lt (by assumption) | exact disj_cut) | (repeat' split) <;> exact trivial))) (by (try simp only [okS, okSl, okH, eq_self, true_and, and_true, and_self]); repeat' (first | exact trivial | exact rfl | exact disj_cut | exact disj_lt (by assumption) | assumption | omega | refine And.intro ?_ ?_ | (intro i hi; first | exact trivial | (split <;> first | exact trivial | exact disj_lt (by assumption) | exact disj_cut) | (repeat' split) <;> exact trivial))) (fun K1 hK1 => by simp only [argsC, opd, lookup, Nat.zero_add, Nat.reduceEqDiff, ↓reduceIte, List.getElem?_cons_zero, List.getElem?_cons_succ, List.reverse_cons, List.reverse_nil, List.nil_append, List.cons_append]; repeat' (first | exact hK1 | exact trivial | exact disj_cut | assumption | omega | refine And.intro ?_ ?_)) ?_; first | (refine ⟨_, _, picture_fn _ (by omega) hb, ?_⟩; rintro _ ⟨u, hu, rfl⟩ hnewZ; clear hnewZ)) | (refine ax_op rfl ?_; intro K hK)) | ((with_reducible show evTake _ _ _ _ _); refine take_step rfl ?_; intro K hK) | ((with_reducible show evSy _ _ _ _ _ _ _); refine sy_take rfl ?_; intro K hK) | ((with_reducible show AxB _ _ _ _ _); first | (refine axb_op rfl rfl ?_; intro K hK)) | ((with_reducible show evOps _ _ _ _ _ _); (first | refine ev_step rfl ?_ | refine ev_undef rfl rfl rfl ?_); intro K hK) | ((with_reducible show EvOpen _ _ _ _ _ _ _); refine ev_open ?_; intro K hK) | ((with_reducible show SkOpen _ _ _ _ _ _ _); refine sk_open ?_; intro K hK) | ((with_reducible show callK _ _ _ _ _ _ _ _); first  | fail)); simp only [evOp, evQ, withS, opd, kput, putS, upd, lookup, bringIn, bring, Res.list, Res.slot, slotsOf, frz, newBlk, boxV, buildK, partsK, V.one, bstrs, swpS, swSl, z_cur, pl_cur, fc_0, List.nil_append, List.cons_append, List.length_cons, List.length_nil, Nat.reduceEqDiff, Nat.reduceAdd, Nat.reduceLT, Nat.zero_add, ↓reduceIte, eq_self, true_and, Option.isSome_some]) | refine ev_guard rfl rfl rfl ?_ ?_ | ((with_reducible show retQ _ _ _ _); simp only [eq_self]) | (with_reducible refine hK _ ?_; clear hK K) | (with_reducible refine And.intro ?_ ?_) | (with_reducible intro hc; try simp only [eq_self] at hc) | omega)
  all_goals first
    | exact retE_P u rfl rfl rfl (BE.rfl' _) hu
    | trace_state
end
end Go.Proofs.Yteapdildbfimnaa
namespace Go.Proofs.Yteapdildbfimnaa
set_option linter.unusedSimpArgs false
set_option linter.unusedVariables false

/-- Row s: the first t entries looked at. -/
def inT (E : Nat → Nat → Bool) (s : Nat) : Nat → (Nat → Bool) → Nat → Bool
  | 0, mk => mk
  | t + 1, mk => fun q => if q = s then (inT E s t mk s || (E s t && inT E s t mk t)) else inT E s t mk q
/-- The first s rows. -/
def inS (E : Nat → Nat → Bool) (n : Nat) : Nat → (Nat → Bool) → Nat → Bool
  | 0, mk => mk
  | s + 1, mk => inT E s n (inS E n s mk)
/-- The first m letters. -/
def inM (E : Nat → Nat → Nat → Bool) (n : Nat) : Nat → (Nat → Bool) → Nat → Bool
  | 0, mk => mk
  | m + 1, mk => inS (E m) n n (inM E n m mk)
/-- r rounds. -/
def rnd (E : Nat → Nat → Nat → Bool) (n L : Nat) : Nat → (Nat → Bool) → Nat → Bool
  | 0, mk => mk
  | r + 1, mk => inM E n L (rnd E n L r mk)

theorem inT_mono (E : Nat → Nat → Bool) (s : Nat) : ∀ t mk q, mk q = true → inT E s t mk q = true
  | 0, _, _, h => h
  | t + 1, mk, q, h => by
    have ih := inT_mono E s t mk q h
    show (if q = s then _ else _) = true
    by_cases e : q = s
    · subst e; rw [if_pos rfl, ih]; rfl
    · rw [if_neg e]; exact ih
theorem inS_mono (E : Nat → Nat → Bool) (n : Nat) : ∀ s mk q, mk q = true → inS E n s mk q = true
  | 0, _, _, h => h
  | s + 1, mk, q, h => inT_mono E s n _ q (inS_mono E n s mk q h)
theorem inM_mono (E : Nat → Nat → Nat → Bool) (n : Nat) : ∀ m mk q, mk q = true → inM E n m mk q = true
  | 0, _, _, h => h
  | m + 1, mk, q, h => inS_mono (E m) n n _ q (inM_mono E n m mk q h)
theorem rnd_mono (E : Nat → Nat → Nat → Bool) (n L : Nat) : ∀ r mk q, mk q = true → rnd E n L r mk q = true
  | 0, _, _, h => h
  | r + 1, mk, q, h => inM_mono E n L _ q (rnd_mono E n L r mk q h)
theorem inT_hit {E : Nat → Nat → Bool} {s : Nat} : ∀ {T t : Nat} {mk : Nat → Bool}, t < T → E s t = true → mk t = true → inT E s T mk s = true
  | 0, t, mk, h, _, _ => by omega
  | T + 1, t, mk, h, he, hm => by
    show (if s = s then (inT E s T mk s || (E s T && inT E s T mk T)) else _) = true
    rw [if_pos rfl]
    by_cases e : t = T
    · subst e; rw [he, inT_mono E s t mk t hm]; simp
    · rw [inT_hit (show t < T by omega) he hm]; rfl
theorem inS_hit {E : Nat → Nat → Bool} {n : Nat} : ∀ {S s t : Nat} {mk : Nat → Bool}, s < S → t < n → E s t = true → mk t = true → inS E n S mk s = true
  | 0, s, t, mk, h, _, _, _ => by omega
  | S + 1, s, t, mk, h, ht, he, hm => by
    show inT E S n (inS E n S mk) s = true
    by_cases e : s = S
    · subst e; exact inT_hit ht he (inS_mono E n s mk t hm)
    · exact inT_mono E S n _ s (inS_hit (show s < S by omega) ht he hm)
theorem inM_hit {E : Nat → Nat → Nat → Bool} {n : Nat} : ∀ {M m s t : Nat} {mk : Nat → Bool}, m < M → s < n → t < n → E m s t = true → mk t = true → inM E n M mk s = true
  | 0, m, s, t, mk, h, _, _, _, _ => by omega
  | M + 1, m, s, t, mk, h, hs, ht, he, hm => by
    show inS (E M) n n (inM E n M mk) s = true
    by_cases e : m = M
    · subst e; exact inS_hit hs ht he (inM_mono E n m mk t hm)
    · exact inS_mono (E M) n n _ s (inM_hit (show m < M by omega) hs ht he hm)
theorem inT_sound {E : Nat → Nat → Bool} {n s : Nat} {P : Nat → Prop} (hs : s < n) (hP : ∀ s t, s < n → t < n → E s t = true → P t → P s) : ∀ (T : Nat) (mk : Nat → Bool), T ≤ n → (∀ q, q < n → mk q = true → P q) → ∀ q, q < n → inT E s T mk q = true → P q
  | 0, mk, _, h, q, hq, hm => h q hq hm
  | T + 1, mk, hT, h, q, hq, hm => by
    have ih := inT_sound hs hP T mk (by omega) h
    have hm : (if q = s then (inT E s T mk s || (E s T && inT E s T mk T)) else inT E s T mk q) = true := hm
    by_cases e : q = s
    · subst e
      rw [if_pos rfl, Bool.or_eq_true, Bool.and_eq_true] at hm
      rcases hm with hm | ⟨h1, h2⟩
      · exact ih q hq hm
      · exact hP q T hq (by omega) h1 (ih T (by omega) h2)
    · rw [if_neg e] at hm; exact ih q hq hm
theorem inS_sound {E : Nat → Nat → Bool} {n : Nat} {P : Nat → Prop} (hP : ∀ s t, s < n → t < n → E s t = true → P t → P s) : ∀ (S : Nat) (mk : Nat → Bool), S ≤ n → (∀ q, q < n → mk q = true → P q) → ∀ q, q < n → inS E n S mk q = true → P q
  | 0, mk, _, h, q, hq, hm => h q hq hm
  | S + 1, mk, hS, h, q, hq, hm => inT_sound (s := S) (by omega) hP n (inS E n S mk) (Nat.le_refl _) (inS_sound hP S mk (by omega) h) q hq hm
theorem inM_sound {E : Nat → Nat → Nat → Bool} {n L : Nat} {P : Nat → Prop} (hP : ∀ m s t, m < L → s < n → t < n → E m s t = true → P t → P s) : ∀ (M : Nat) (mk : Nat → Bool), M ≤ L → (∀ q, q < n → mk q = true → P q) → ∀ q, q < n → inM E n M mk q = true → P q
  | 0, mk, _, h, q, hq, hm => h q hq hm
  | M + 1, mk, hM, h, q, hq, hm => inS_sound (fun s t => hP M s t (by omega)) n (inM E n M mk) (Nat.le_refl _) (inM_sound hP M mk (by omega) h) q hq hm
theorem rnd_sound {E : Nat → Nat → Nat → Bool} {n L : Nat} {P : Nat → Prop} (hP : ∀ m s t, m < L → s < n → t < n → E m s t = true → P t → P s) : ∀ (r : Nat) (mk : Nat → Bool), (∀ q, q < n → mk q = true → P q) → ∀ q, q < n → rnd E n L r mk q = true → P q
  | 0, mk, h, q, hq, hm => h q hq hm
  | r + 1, mk, h, q, hq, hm => inM_sound hP L (rnd E n L r mk) (Nat.le_refl _) (rnd_sound hP r mk h) q hq hm
theorem rnd_add (E : Nat → Nat → Nat → Bool) (n L a : Nat) (mk : Nat → Bool) : ∀ b, rnd E n L (a + b) mk = rnd E n L b (rnd E n L a mk)
  | 0 => rfl
  | b + 1 => by show inM E n L (rnd E n L (a + b) mk) = _; rw [rnd_add E n L a mk b]; rfl

/-- How many of the first n are marked. -/
def cntN (f : Nat → Bool) : Nat → Nat
  | 0 => 0
  | n + 1 => cntN f n + if f n = true then 1 else 0
theorem cntN_le (f : Nat → Bool) : ∀ n, cntN f n ≤ n
  | 0 => Nat.le_refl _
  | n + 1 => by have := cntN_le f n; unfold cntN; split <;> omega
theorem cntN_mono {f g : Nat → Bool} : ∀ {n}, (∀ q, q < n → f q = true → g q = true) → cntN f n ≤ cntN g n
  | 0, _ => Nat.le_refl _
  | n + 1, h => by
    have ih := cntN_mono (n := n) fun q hq => h q (by omega)
    unfold cntN
    by_cases e : f n = true
    · rw [if_pos e, if_pos (h n (by omega) e)]; omega
    · rw [if_neg e]; omega
theorem cntN_lt {f g : Nat → Bool} : ∀ {n q}, (∀ q, q < n → f q = true → g q = true) → q < n → f q = false → g q = true → cntN f n < cntN g n
  | 0, q, _, hq, _, _ => by omega
  | n + 1, q, h, hq, h1, h2 => by
    unfold cntN
    by_cases e : q = n
    · subst e
      have := cntN_mono (n := q) fun q hq => h q (by omega)
      rw [h2, h1]; simp; omega
    · have ih := cntN_lt (n := n) (q := q) (fun q hq => h q (by omega)) (by omega) h1 h2
      by_cases e : f n = true
      · rw [if_pos e, if_pos (h n (by omega) e)]; omega
      · rw [if_neg e]; omega
theorem cntN_all {f : Nat → Bool} : ∀ {n}, n ≤ cntN f n → ∀ q, q < n → f q = true
  | 0, _, q, hq => by omega
  | n + 1, h, q, hq => by
    have h1 := cntN_le f n
    unfold cntN at h
    by_cases e : f n = true
    · rw [if_pos e] at h
      by_cases e2 : q = n
      · subst e2; exact e
      · exact cntN_all (n := n) (by omega) q (by omega)
    · rw [if_neg e] at h; omega

/-- What n rounds mark is closed. -/
theorem rnd_closed {E : Nat → Nat → Nat → Bool} {n L : Nat} (mk : Nat → Bool) {m s t : Nat} (hm : m < L) (hs : s < n) (ht : t < n) (he : E m s t = true) (h : rnd E n L n mk t = true) : rnd E n L n mk s = true := by
  by_cases hst : ∃ r, r < n ∧ ∀ q, q < n → rnd E n L (r + 1) mk q = true → rnd E n L r mk q = true
  · obtain ⟨r, hr, hq⟩ := hst
    have hcl : ∀ m s t, m < L → s < n → t < n → E m s t = true → rnd E n L r mk t = true → rnd E n L r mk s = true := fun m s t hm hs ht he h => hq s hs (inM_hit hm hs ht he h)
    have e : rnd E n L n mk = rnd E n L (n - r) (rnd E n L r mk) := by rw [← rnd_add, show r + (n - r) = n by omega]
    have hdown : ∀ q, q < n → rnd E n L n mk q = true → rnd E n L r mk q = true := fun q hq h => by
      rw [e] at h
      exact rnd_sound (P := fun q => rnd E n L r mk q = true) hcl (n - r) (rnd E n L r mk) (fun _ _ h => h) q hq h
    have := hcl m s t hm hs ht he (hdown t ht h)
    rw [e]; exact rnd_mono E n L _ _ s this
  · have hc : ∀ r, r ≤ n → r ≤ cntN (rnd E n L r mk) n := by
      intro r
      induction r with
      | zero => intro _; omega
      | succ r ih =>
        intro hr
        have h1 := ih (by omega)
        obtain ⟨q, hq, h2, h3⟩ : ∃ q, q < n ∧ rnd E n L (r + 1) mk q = true ∧ rnd E n L r mk q = false := by
          apply Classical.byContradiction
          intro hno
          apply hst
          refine ⟨r, by omega, fun q hq h => ?_⟩
          cases e : rnd E n L r mk q with
          | true => rfl
          | false => exact (hno ⟨q, hq, h, e⟩).elim
        have := cntN_lt (f := rnd E n L r mk) (g := rnd E n L (r + 1) mk) (fun q _ h => inM_mono E n L _ q h) hq h3 h2
        omega
    exact cntN_all (hc n (Nat.le_refl _)) s hs

/-! ### The list of reached ones -/
def hasI (l : List Int) (k : Int) : Bool := l.any fun x => x == k
theorem hasI_iff {l : List Int} {k : Int} : hasI l k = true ↔ k ∈ l := by simp [hasI]
theorem hasI_no {l : List Int} {k : Int} : hasI l k = false ↔ k ∉ l := by
  rw [← hasI_iff]; simp
def cntI (k : Int) : List Int → Nat
  | [] => 0
  | x :: l => if x < k then cntI k l + 1 else 0
def putI (l : List Int) (k : Int) : List Int := l.take (cntI k l) ++ (k :: l.drop (cntI k l))
theorem cntI_le (k : Int) : ∀ l, cntI k l ≤ l.length
  | [] => Nat.zero_le _
  | x :: l => by have := cntI_le k l; unfold cntI; split <;> simp <;> omega
@[simp] theorem putI_len (l : List Int) (k : Int) : (putI l k).length = l.length + 1 := by
  have := cntI_le k l
  simp [putI]; omega
theorem putI_mem {l : List Int} {k x : Int} : x ∈ putI l k ↔ x = k ∨ x ∈ l := by
  unfold putI
  rw [List.mem_append, List.mem_cons]
  have : x ∈ l ↔ x ∈ l.take (cntI k l) ∨ x ∈ l.drop (cntI k l) := by
    rw [← List.mem_append, List.take_append_drop]
  rw [this]
  constructor
  · rintro (h | h | h) <;> simp [h]
  · rintro (h | h | h) <;> simp [h]
/-- What the list of reached ones, and of those whose steps are still to be looked at, bear. done: all steps of x have been looked at. -/
structure ReachOk (E : Nat → Nat → Nat → Bool) (n L : Nat) (mk : Nat → Bool) (out open_ : List Int) : Prop where
  bnd : ∀ x ∈ out, 0 ≤ x ∧ x < n ∧ rnd E n L n mk x.toNat = true
  init : ∀ q, q < n → mk q = true → (q : Int) ∈ out
  sub : ∀ x ∈ open_, x ∈ out
  len : out.length ≤ cntN (fun q => hasI out q) n
  olen : open_.length ≤ out.length
/-- All steps to x have been looked at. -/
def Done (E : Nat → Nat → Nat → Bool) (n L : Nat) (out : List Int) (x : Int) : Prop := ∀ m s, m < L → s < n → E m s x.toNat = true → (s : Int) ∈ out

theorem ReachOk.all {E : Nat → Nat → Nat → Bool} {n L : Nat} {mk : Nat → Bool} {out : List Int} (h : ReachOk E n L mk out []) (hd : ∀ x ∈ out, Done E n L out x) (q : Nat) (hq : q < n) : hasI out q = rnd E n L n mk q := by
  cases e : rnd E n L n mk q with
  | true =>
    rw [hasI_iff]
    exact rnd_sound (P := fun q => (q : Int) ∈ out) (fun m s t hm hs ht he hP => hd t hP m s hm hs (by simpa using he)) n mk (fun q hq h0 => h.init q hq h0) q hq e
  | false =>
    rw [hasI_no]
    intro hx
    have := (h.bnd q hx).2.2
    rw [Int.toNat_natCast, e] at this; cases this
theorem ReachOk.le {E : Nat → Nat → Nat → Bool} {n L : Nat} {mk : Nat → Bool} {out open_ : List Int} (h : ReachOk E n L mk out open_) : out.length ≤ n := by
  have := h.len; have := cntN_le (fun q => hasI out q) n; omega
theorem ReachOk.pop {E : Nat → Nat → Nat → Bool} {n L : Nat} {mk : Nat → Bool} {out open_ : List Int} {x : Int} (h : ReachOk E n L mk out (x :: open_)) : ReachOk E n L mk out open_ :=
  ⟨h.bnd, h.init, fun y hy => h.sub y (by simp [hy]), h.len, by have := h.olen; simp at this; omega⟩
theorem ReachOk.push {E : Nat → Nat → Nat → Bool} {n L : Nat} {mk : Nat → Bool} {out open_ : List Int} {m s : Nat} {x : Int} (h : ReachOk E n L mk out open_) (hx : x ∈ out) (hm : m < L) (hs : s < n) (he : E m s x.toNat = true) (hno : (s : Int) ∉ out) :
    ReachOk E n L mk (putI out s) (open_ ++ [(s : Int)]) := by
  have hb := h.bnd x hx
  refine ⟨fun y hy => ?_, fun q hq h0 => putI_mem.2 (.inr (h.init q hq h0)), fun y hy => ?_, ?_, ?_⟩
  · rcases putI_mem.1 hy with rfl | hy
    · exact ⟨by omega, by omega, by simpa using rnd_closed mk hm hs (by omega) he hb.2.2⟩
    · exact h.bnd y hy
  · rcases List.mem_append.1 hy with hy | hy
    · exact putI_mem.2 (.inr (h.sub y hy))
    · exact putI_mem.2 (.inl (by simpa using hy))
  · have h1 := h.len
    have := cntN_lt (f := fun q => hasI out q) (g := fun q => hasI (putI out s) q) (n := n) (q := s) (fun q hq h0 => hasI_iff.2 (putI_mem.2 (.inr (hasI_iff.1 h0)))) hs (hasI_no.2 hno) (hasI_iff.2 (putI_mem.2 (.inl rfl)))
    rw [putI_len]; omega
  · have := h.olen
    rw [putI_len, List.length_append, List.length_singleton]; omega
theorem Done.mono {E : Nat → Nat → Nat → Bool} {n L : Nat} {out out' : List Int} {x : Int} (h : Done E n L out x) (hs : ∀ y ∈ out, y ∈ out') : Done E n L out' x := fun m s hm hs' he => hs _ (h m s hm hs' he)
end Go.Proofs.Yteapdildbfimnaa
namespace Go.Proofs.Yteapdildbfimnaa
set_option linter.unusedSimpArgs false
set_option linter.unusedVariables false

/-- Linked by steps of A, either way. -/
inductive Cn (A : Nat → Nat → Prop) (i : Nat) : Nat → Prop where
  | refl : Cn A i i
  | fwd {j k : Nat} : Cn A i j → A j k → Cn A i k
  | bwd {j k : Nat} : Cn A i j → A k j → Cn A i k
theorem Cn.trans {A : Nat → Nat → Prop} {i j k : Nat} (h : Cn A i j) (h' : Cn A j k) : Cn A i k := by
  induction h' with
  | refl => exact h
  | fwd _ a ih => exact ih.fwd a
  | bwd _ a ih => exact ih.bwd a
theorem Cn.symm {A : Nat → Nat → Prop} {i j : Nat} (h : Cn A i j) : Cn A j i := by
  induction h with
  | refl => exact .refl
  | fwd _ a ih => exact (Cn.bwd .refl a).trans ih
  | bwd _ a ih => exact (Cn.fwd .refl a).trans ih
theorem least_ex {P : Nat → Prop} : ∀ n, P n → ∃ m, P m ∧ ∀ j, P j → m ≤ j := by
  intro n
  induction n using Nat.strongRecOn with
  | ind n ih =>
    intro h
    by_cases e : ∃ j, j < n ∧ P j
    · obtain ⟨j, h1, h2⟩ := e
      exact ih j h1 h2
    · exact ⟨n, h, fun j hj => Nat.not_lt.1 fun hlt => e ⟨j, hlt, hj⟩⟩

/-- L gives the least place that is linked. -/
structure IsLab (A : Nat → Nat → Prop) (L : Nat → Nat) : Prop where
  cn : ∀ i, Cn A i (L i)
  least : ∀ i j, Cn A i j → L i ≤ j
theorem lab_ex (A : Nat → Nat → Prop) : ∃ L, IsLab A L := by
  have h : ∀ i, ∃ m, Cn A i m ∧ ∀ j, Cn A i j → m ≤ j := fun i => least_ex i (Cn.refl (A := A))
  exact ⟨fun i => Classical.choose (h i), fun i => (Classical.choose_spec (h i)).1, fun i => (Classical.choose_spec (h i)).2⟩
section
variable {A : Nat → Nat → Prop} {L : Nat → Nat}
theorem IsLab.le (h : IsLab A L) (i : Nat) : L i ≤ i := h.least i i .refl
theorem IsLab.eq (h : IsLab A L) {i j : Nat} (hc : Cn A i j) : L i = L j := Nat.le_antisymm (h.least _ _ (hc.trans (h.cn j))) (h.least _ _ (hc.symm.trans (h.cn i)))
theorem IsLab.idem (h : IsLab A L) (i : Nat) : L (L i) = L i := (h.eq (h.cn i)).symm
theorem IsLab.of_eq (h : IsLab A L) {i j : Nat} (e : L i = L j) : Cn A i j := (h.cn i).trans (by rw [e]; exact (h.cn j).symm)
/-- What the reference ends with is the least places. -/
theorem IsLab.is (h : IsLab A L) {n : Nat} (hA : ∀ i k, A i k → i < n ∧ k < n) {out : Nat → Nat} (h1 : ∀ i, i < n → out i ≤ i ∧ Cn A i (out i)) (h2 : ∀ i k, A i k → out i = out k) : ∀ i, i < n → out i = L i := by
  have h3 : ∀ i j, Cn A i j → out i = out j := fun i j hc => by
    induction hc with
    | refl => rfl
    | fwd _ a ih => rw [ih, h2 _ _ a]
    | bwd _ a ih => rw [ih, h2 _ _ a]
  intro i hi
  have h4 := h3 i (L i) (h.cn i)
  have h5 := h.le i
  have h6 := (h1 (L i) (by omega)).1
  have h7 := h.least i _ (h1 i hi).2
  omega
end

theorem cntN_ext {f g : Nat → Bool} : ∀ {n}, (∀ q, q < n → f q = g q) → cntN f n = cntN g n
  | 0, _ => rfl
  | n + 1, h => by
    show cntN f n + _ = cntN g n + _
    rw [cntN_ext (n := n) fun q hq => h q (by omega), h n (by omega)]
theorem cntN_zero {f : Nat → Bool} : ∀ {n}, (∀ q, q < n → f q = false) → cntN f n = 0
  | 0, _ => rfl
  | n + 1, h => by
    show cntN f n + _ = 0
    rw [cntN_zero (n := n) fun q hq => h q (by omega), h n (by omega)]; rfl
theorem cntN_ins {f g : Nat → Bool} {i : Nat} : ∀ {n}, i < n → f i = false → g i = true → (∀ q, q < n → q ≠ i → g q = f q) → cntN g n = cntN f n + 1
  | 0, h, _, _, _ => by omega
  | n + 1, h, h1, h2, h3 => by
    show cntN g n + _ = cntN f n + _ + 1
    by_cases e : i = n
    · subst e
      rw [h1, h2, cntN_ext (n := i) fun q hq => h3 q (by omega) (by omega)]; rfl
    · rw [cntN_ins (n := n) (by omega) h1 h2 fun q hq => h3 q (by omega), h3 n (by omega) (fun h => e h.symm)]
      omega
theorem cntN_pos {f : Nat → Bool} {i : Nat} : ∀ {n}, i < n → f i = true → 0 < cntN f n
  | 0, h, _ => by omega
  | n + 1, h, h1 => by
    show 0 < cntN f n + _
    by_cases e : i = n
    · subst e; rw [h1]; exact Nat.succ_pos _
    · have := cntN_pos (n := n) (i := i) (by omega) h1; omega

/-! ### Places -/
abbrev Pt := Int × Int
def inP (H W : Nat) (q : Pt) : Prop := 0 ≤ q.1 ∧ q.1 < H ∧ 0 ≤ q.2 ∧ q.2 < W
def ixP (W : Nat) (q : Pt) : Nat := q.1.toNat * W + q.2.toNat
def ptP (W i : Nat) : Pt := (((i / W : Nat) : Int), ((i % W : Nat) : Int))
def nbP (q : Pt) : List Pt := [(q.1 + 0, q.2 + 1), (q.1 + 1, q.2 + 0), (q.1 + 0, q.2 + -1), (q.1 + -1, q.2 + 0)]
/-- A step of the reference's: to the right or down, to the same letter. -/
def Ad (H W : Nat) (g : Nat → Int) (i k : Nat) : Prop := i < H * W ∧ k < H * W ∧ ((k = i + 1 ∧ k % W ≠ 0) ∨ k = i + W) ∧ g i = g k

theorem dm_div {W x y : Nat} (h : y < W) : (x * W + y) / W = x := by
  rw [Nat.add_comm, Nat.add_mul_div_right _ _ (by omega), Nat.div_eq_of_lt h, Nat.zero_add]
theorem dm_mod {W x y : Nat} (h : y < W) : (x * W + y) % W = y := by
  rw [Nat.add_comm, Nat.add_mul_mod_self_right, Nat.mod_eq_of_lt h]
theorem dm_lt {H W x y : Nat} (hx : x < H) (hy : y < W) : x * W + y < H * W := by
  have h1 : (x + 1) * W ≤ H * W := Nat.mul_le_mul_right _ hx
  rw [Nat.succ_mul] at h1
  omega
theorem dm_is (W i : Nat) : i / W * W + i % W = i := by rw [Nat.mul_comm]; exact Nat.div_add_mod i W
theorem dm_row {H W i : Nat} (h : i < H * W) : i / W < H := Nat.div_lt_of_lt_mul (by rw [Nat.mul_comm]; exact h)
theorem dm_pos {H W i : Nat} (h : i < H * W) : 0 < W := by
  rcases Nat.eq_zero_or_pos W with e | e
  · subst e; simp at h
  · exact e

theorem ptP_in {H W i : Nat} (h : i < H * W) : inP H W (ptP W i) := by
  have h1 := dm_row h
  have h2 := Nat.mod_lt i (dm_pos h)
  show 0 ≤ ((i / W : Nat) : Int) ∧ ((i / W : Nat) : Int) < H ∧ 0 ≤ ((i % W : Nat) : Int) ∧ ((i % W : Nat) : Int) < W
  generalize i / W = a at *
  generalize i % W = b at *
  omega
theorem ixP_pt (W i : Nat) : ixP W (ptP W i) = i := by
  show ((i / W : Nat) : Int).toNat * W + ((i % W : Nat) : Int).toNat = i
  rw [Int.toNat_natCast, Int.toNat_natCast]; exact dm_is W i
theorem ixP_lt {H W : Nat} {q : Pt} (h : inP H W q) : ixP W q < H * W := by
  obtain ⟨h1, h2, h3, h4⟩ := h
  exact dm_lt (by omega) (by omega)
theorem ptP_ix {H W : Nat} {q : Pt} (h : inP H W q) : ptP W (ixP W q) = q := by
  obtain ⟨h1, h2, h3, h4⟩ := h
  show (((( q.1.toNat * W + q.2.toNat) / W : Nat) : Int), (((q.1.toNat * W + q.2.toNat) % W : Nat) : Int)) = q
  rw [dm_div (by omega), dm_mod (by omega)]
  exact Prod.ext (by show ((q.1.toNat : Nat) : Int) = q.1; omega) (by show ((q.2.toNat : Nat) : Int) = q.2; omega)
theorem nb_right {H W : Nat} {g : Nat → Int} {x y : Nat} (hx : x < H) (hy : y + 1 < W) (e : g (x * W + y) = g (x * W + (y + 1))) : Ad H W g (x * W + y) (x * W + (y + 1)) :=
  ⟨dm_lt hx (by omega), dm_lt hx hy, .inl ⟨rfl, by rw [dm_mod hy]; omega⟩, e⟩
theorem nb_down {H W : Nat} {g : Nat → Int} {x y : Nat} (hx : x + 1 < H) (hy : y < W) (e : g (x * W + y) = g ((x + 1) * W + y)) : Ad H W g (x * W + y) ((x + 1) * W + y) :=
  ⟨dm_lt (by omega) hy, dm_lt hx hy, .inr (by rw [Nat.succ_mul]; omega), e⟩
theorem nb_cn {H W : Nat} {g : Nat → Int} {q q' : Pt} (h : inP H W q) (h' : inP H W q') (hn : q' ∈ nbP q) (e : g (ixP W q) = g (ixP W q')) : Cn (Ad H W g) (ixP W q) (ixP W q') := by
  obtain ⟨h1, h2, h3, h4⟩ := h
  obtain ⟨h1', h2', h3', h4'⟩ := h'
  simp only [nbP, List.mem_cons, List.not_mem_nil, or_false] at hn
  unfold ixP at *
  rcases hn with rfl | rfl | rfl | rfl
  · simp only at *
    rw [show (q.1 + 0).toNat = q.1.toNat by omega, show (q.2 + 1).toNat = q.2.toNat + 1 by omega] at *
    exact .fwd .refl (nb_right (by omega) (by omega) e)
  · simp only at *
    rw [show (q.1 + 1).toNat = q.1.toNat + 1 by omega, show (q.2 + 0).toNat = q.2.toNat by omega] at *
    exact .fwd .refl (nb_down (by omega) (by omega) e)
  · simp only at *
    rw [show (q.1 + 0).toNat = q.1.toNat by omega] at *
    have e2 : q.2.toNat = (q.2 + -1).toNat + 1 := by omega
    generalize (q.2 + -1).toNat = z at e2 e ⊢
    rw [e2] at e ⊢
    exact .bwd .refl (nb_right (by omega) (by omega) e.symm)
  · simp only at *
    rw [show (q.2 + 0).toNat = q.2.toNat by omega] at *
    have e2 : q.1.toNat = (q.1 + -1).toNat + 1 := by omega
    generalize (q.1 + -1).toNat = z at e2 e ⊢
    rw [e2] at e ⊢
    exact .bwd .refl (nb_down (by omega) (by omega) e.symm)
theorem ad_nb {H W : Nat} {g : Nat → Int} {i k : Nat} (h : Ad H W g i k) : ptP W k ∈ nbP (ptP W i) ∧ ptP W i ∈ nbP (ptP W k) := by
  obtain ⟨h1, h2, h3, h4⟩ := h
  have hW := dm_pos h1
  have hi := dm_is W i
  have hm := Nat.mod_lt i hW
  have hkey : (k / W = i / W ∧ k % W = i % W + 1) ∨ (k / W = i / W + 1 ∧ k % W = i % W) := by
    rcases h3 with ⟨h3, h5⟩ | h3
    · have hlt : i % W + 1 < W := by
        rcases Nat.lt_or_ge (i % W + 1) W with h6 | h6
        · exact h6
        · exfalso
          have e : k = (i / W + 1) * W := by rw [Nat.succ_mul]; omega
          rw [e, Nat.mul_mod_left] at h5
          exact h5 rfl
      have e : k = i / W * W + (i % W + 1) := by omega
      exact .inl ⟨by rw [e]; exact dm_div hlt, by rw [e]; exact dm_mod hlt⟩
    · have e : k = (i / W + 1) * W + i % W := by rw [Nat.succ_mul]; omega
      refine .inr ⟨?_, ?_⟩
      · rw [e]; exact dm_div hm
      · rw [e]; exact dm_mod hm
  simp only [nbP, ptP, List.mem_cons, List.not_mem_nil, or_false, Prod.mk.injEq]
  rcases hkey with ⟨e1, e2⟩ | ⟨e1, e2⟩
  · rw [e1, e2]
    exact ⟨.inl ⟨by omega, by omega⟩, .inr (.inr (.inl ⟨by omega, by omega⟩))⟩
  · rw [e1, e2]
    exact ⟨.inr (.inl ⟨by omega, by omega⟩), .inr (.inr (.inr ⟨by omega, by omega⟩))⟩
theorem cn_g {H W : Nat} {g : Nat → Int} {i j : Nat} (h : Cn (Ad H W g) i j) : g i = g j := by
  induction h with
  | refl => rfl
  | fwd _ a ih => rw [ih, a.2.2.2]
  | bwd _ a ih => rw [ih, a.2.2.2]
section
variable {H W : Nat} {g : Nat → Int} {L : Nat → Nat}
/-- S holds the places of all parts that begin before t. -/
def SeenOk (H W : Nat) (L : Nat → Nat) (t : Nat) (S : List Pt) : Prop := ∀ q, q ∈ S ↔ inP H W q ∧ L (ixP W q) < t
/-- Places that the search has met, and how many of them are of part t. -/
def metN (H W : Nat) (L : Nat → Nat) (t : Nat) (S : List Pt) : Nat := cntN (fun i => decide (L i = t) && decide (ptP W i ∈ S)) (H * W)
def allN' (H W : Nat) (S : List Pt) : Nat := cntN (fun i => decide (ptP W i ∈ S)) (H * W)
structure BfOk (H W : Nat) (g : Nat → Int) (L : Nat → Nat) (t : Nat) (S Q : List Pt) (m : Nat) : Prop where
  sin : ∀ q ∈ S, inP H W q
  lo : ∀ q, inP H W q → L (ixP W q) < t → q ∈ S
  hi : ∀ q ∈ S, L (ixP W q) ≤ t
  qt : ∀ q ∈ Q, inP H W q → g (ixP W q) = g t → L (ixP W q) = t
  cl : ∀ q ∈ S, L (ixP W q) = t → ∀ q' ∈ nbP q, q' ∈ Q ∨ q' ∈ S ∨ ¬ inP H W q' ∨ g (ixP W q') ≠ g t
  st : ptP W t ∈ Q ∨ ptP W t ∈ S
  sz : m = metN H W L t S
  qb : ∀ q ∈ Q, -1 ≤ q.1 ∧ q.1 ≤ H ∧ -1 ≤ q.2 ∧ q.2 ≤ W
  qn : Q.length + 5 * (H * W - allN' H W S) ≤ 1 + 5 * (H * W)

theorem BfOk.start (hL : IsLab (Ad H W g) L) {t : Nat} {S : List Pt} (ht : t < H * W) (h : SeenOk H W L t S) (e : L t = t) : BfOk H W g L t S [ptP W t] 0 where
  sin q hq := ((h q).1 hq).1
  lo q h1 h2 := (h q).2 ⟨h1, h2⟩
  hi q hq := Nat.le_of_lt ((h q).1 hq).2
  qt q hq h1 h2 := by
    simp only [List.mem_singleton] at hq
    subst hq
    rw [ixP_pt]; exact e
  cl q hq e2 := by have := ((h q).1 hq).2; omega
  st := .inl (by simp)
  sz := by
    refine (cntN_zero fun i hi => ?_).symm
    rw [Bool.and_eq_false_iff]
    by_cases e2 : L i = t
    · refine .inr (decide_eq_false fun hq => ?_)
      have := ((h _).1 hq).2
      rw [ixP_pt] at this; omega
    · exact .inl (decide_eq_false e2)
  qb q hq := by
    simp only [List.mem_singleton] at hq
    subst hq
    obtain ⟨h1, h2, h3, h4⟩ := ptP_in ht
    exact ⟨by omega, by omega, by omega, by omega⟩
  qn := by simp only [List.length_singleton]; omega

theorem BfOk.skip {t : Nat} {S Q : List Pt} {q : Pt} {m : Nat} (ht : t < H * W) (h : BfOk H W g L t S (q :: Q) m) (hs : q ∈ S ∨ ¬ inP H W q ∨ g (ixP W q) ≠ g t) : BfOk H W g L t S Q m where
  sin := h.sin
  lo := h.lo
  hi := h.hi
  qt p hp := h.qt p (List.mem_cons_of_mem _ hp)
  cl p hp e q' hq' := by
    rcases h.cl p hp e q' hq' with h1 | h1
    · rcases List.mem_cons.1 h1 with h1 | h1
      · subst h1; exact .inr hs
      · exact .inl h1
    · exact .inr h1
  st := by
    rcases h.st with h1 | h1
    · rcases List.mem_cons.1 h1 with h1 | h1
      · subst h1
        rcases hs with hs | hs | hs
        · exact .inr hs
        · exact absurd (ptP_in ht) hs
        · rw [ixP_pt] at hs; exact absurd rfl hs
      · exact .inl h1
    · exact .inr h1
  sz := h.sz
  qb p hp := h.qb p (List.mem_cons_of_mem _ hp)
  qn := by have := h.qn; simp only [List.length_cons] at this; omega

theorem allN_add {S : List Pt} {q : Pt} (h : inP H W q) (hn : q ∉ S) : allN' H W (S ++ [q]) = allN' H W S + 1 := by
  refine cntN_ins (i := ixP W q) (ixP_lt h) ?_ ?_ fun i hi hne => ?_
  · rw [ptP_ix h]; exact decide_eq_false hn
  · rw [ptP_ix h]; exact decide_eq_true (by simp)
  · have : ptP W i ≠ q := fun e => hne (by rw [← e, ixP_pt])
    simp [List.mem_append, this]
theorem metN_add {t : Nat} {S : List Pt} {q : Pt} (h : inP H W q) (hn : q ∉ S) (e : L (ixP W q) = t) : metN H W L t (S ++ [q]) = metN H W L t S + 1 := by
  refine cntN_ins (i := ixP W q) (ixP_lt h) ?_ ?_ fun i hi hne => ?_
  · rw [ptP_ix h]; simp [hn]
  · rw [ptP_ix h]; simp [e]
  · have : ptP W i ≠ q := fun e => hne (by rw [← e, ixP_pt])
    simp [List.mem_append, this]

theorem BfOk.add (hL : IsLab (Ad H W g) L) {t : Nat} {S Q : List Pt} {q : Pt} {m : Nat} (h : BfOk H W g L t S (q :: Q) m) (hn : q ∉ S) (hi : inP H W q) (hg : g (ixP W q) = g t) : BfOk H W g L t (S ++ [q]) (Q ++ nbP q) (m + 1) := by
  have et : L (ixP W q) = t := h.qt q (by simp) hi hg
  have ea := allN_add (S := S) hi hn
  exact {
    sin := fun p hp => by
      rcases List.mem_append.1 hp with hp | hp
      · exact h.sin p hp
      · rw [List.mem_singleton] at hp; subst hp; exact hi
    lo := fun p h1 h2 => List.mem_append_left _ (h.lo p h1 h2)
    hi := fun p hp => by
      rcases List.mem_append.1 hp with hp | hp
      · exact h.hi p hp
      · rw [List.mem_singleton] at hp; subst hp; omega
    qt := fun p hp h1 h2 => by
      rcases List.mem_append.1 hp with hp | hp
      · exact h.qt p (List.mem_cons_of_mem _ hp) h1 h2
      · rw [← et]; exact (hL.eq (nb_cn hi h1 hp (by rw [hg, h2]))).symm
    cl := fun p hp e q' hq' => by
      rcases List.mem_append.1 hp with hp | hp
      · rcases h.cl p hp e q' hq' with h1 | h1 | h1
        · rcases List.mem_cons.1 h1 with h1 | h1
          · subst h1; exact .inr (.inl (by simp))
          · exact .inl (List.mem_append_left _ h1)
        · exact .inr (.inl (List.mem_append_left _ h1))
        · exact .inr (.inr h1)
      · rw [List.mem_singleton] at hp; subst hp
        exact .inl (List.mem_append_right _ hq')
    st := by
      rcases h.st with h1 | h1
      · rcases List.mem_cons.1 h1 with h1 | h1
        · rw [h1]; exact .inr (by simp)
        · exact .inl (List.mem_append_left _ h1)
      · exact .inr (List.mem_append_left _ h1)
    sz := by rw [metN_add hi hn et, h.sz]
    qb := fun p hp => by
      rcases List.mem_append.1 hp with hp | hp
      · exact h.qb p (List.mem_cons_of_mem _ hp)
      · obtain ⟨h1, h2, h3, h4⟩ := hi
        simp only [nbP, List.mem_cons, List.not_mem_nil, or_false] at hp
        rcases hp with rfl | rfl | rfl | rfl <;> (refine ⟨?_, ?_, ?_, ?_⟩ <;> simp only <;> omega)
    qn := by
      have h1 := h.qn
      have h2 := cntN_le (fun i => decide (ptP W i ∈ S ++ [q])) (H * W)
      change allN' H W (S ++ [q]) ≤ _ at h2
      simp only [List.length_cons, List.length_append, nbP, List.length_nil] at h1 ⊢
      omega }

/-- How far the search is from its end. -/
def bfM (H W : Nat) (S Q : List Pt) : Nat := Q.length + 5 * (H * W - allN' H W S)
theorem bfM_skip {S Q : List Pt} {q : Pt} : bfM H W S Q < bfM H W S (q :: Q) := by unfold bfM; simp
theorem bfM_add {S Q : List Pt} {q : Pt} (hi : inP H W q) (hn : q ∉ S) : bfM H W (S ++ [q]) (Q ++ nbP q) < bfM H W S (q :: Q) := by
  unfold bfM
  have ea := allN_add (S := S) hi hn
  have h2 := cntN_le (fun i => decide (ptP W i ∈ S ++ [q])) (H * W)
  change allN' H W (S ++ [q]) ≤ _ at h2
  simp only [List.length_cons, List.length_append, nbP, List.length_nil]
  omega

/-- All places of part t. -/
def sizeN (H W : Nat) (L : Nat → Nat) (t : Nat) : Nat := cntN (fun i => decide (L i = t)) (H * W)
theorem BfOk.fin (hL : IsLab (Ad H W g) L) {t : Nat} {S : List Pt} {m : Nat} (ht : t < H * W) (h : BfOk H W g L t S [] m) (e : L t = t) : SeenOk H W L (t + 1) S ∧ m = sizeN H W L t := by
  have h0 : ptP W t ∈ S := h.st.resolve_left (by simp)
  have hall : ∀ k, Cn (Ad H W g) t k → ptP W k ∈ S := fun k hc => by
    have hstep : ∀ {j k : Nat}, Cn (Ad H W g) t j → ptP W j ∈ S → k < H * W → ptP W k ∈ nbP (ptP W j) → g j = g k → ptP W k ∈ S := fun {j k} hj hm hk hb he => by
      have e1 : L (ixP W (ptP W j)) = t := by rw [ixP_pt, ← hL.eq hj, e]
      rcases h.cl _ hm e1 _ hb with h1 | h1 | h1 | h1
      · simp at h1
      · exact h1
      · exact absurd (ptP_in hk) h1
      · exact absurd (by rw [ixP_pt, ← he, cn_g hj]) h1
    induction hc with
    | refl => exact h0
    | fwd hj a ih => exact hstep hj ih a.2.1 (ad_nb a).1 a.2.2.2
    | bwd hj a ih => exact hstep hj ih a.1 (ad_nb a).2 a.2.2.2.symm
  refine ⟨fun q => ⟨fun hq => ⟨h.sin q hq, by have := h.hi q hq; omega⟩, fun ⟨hi, hlt⟩ => ?_⟩, ?_⟩
  · rcases Nat.lt_or_ge (L (ixP W q)) t with h1 | h1
    · exact h.lo q hi h1
    · have e2 : L (ixP W q) = t := by omega
      have := hall (ixP W q) (hL.of_eq (by rw [e, e2]))
      rwa [ptP_ix hi] at this
  · rw [h.sz]
    refine cntN_ext fun i hi => ?_
    by_cases e2 : L i = t
    · have := hall i (hL.of_eq (by rw [e, e2]))
      simp [e2, this]
    · simp [e2]
theorem SeenOk.next (hL : IsLab (Ad H W g) L) {t : Nat} {S : List Pt} (h : SeenOk H W L t S) (e : L t ≠ t) : SeenOk H W L (t + 1) S := fun q => by
  rw [h q]
  refine ⟨fun ⟨h1, h2⟩ => ⟨h1, by omega⟩, fun ⟨h1, h2⟩ => ⟨h1, ?_⟩⟩
  have : L (ixP W q) ≠ t := fun e2 => e (by rw [← e2]; exact hL.idem _)
  omega
theorem SeenOk.has {t : Nat} {S : List Pt} (hL : IsLab (Ad H W g) L) (ht : t < H * W) (h : SeenOk H W L t S) (e : L t ≠ t) : ptP W t ∈ S := by
  rw [h]
  refine ⟨ptP_in ht, ?_⟩
  have := hL.le t
  rw [ixP_pt]; omega
theorem sizeN_pos {t : Nat} (ht : t < H * W) (e : L t = t) : 0 < sizeN H W L t := cntN_pos ht (decide_eq_true e)
theorem sizeN_none (hL : IsLab (Ad H W g) L) {t : Nat} (e : L t ≠ t) : sizeN H W L t = 0 := cntN_zero fun i hi => decide_eq_false fun e2 => e (by rw [← e2]; exact hL.idem _)

/-- The parts that begin before t, each with its letter and size. -/
def partsL (H W : Nat) (g : Nat → Int) (L : Nat → Nat) : Nat → List (Int × Nat)
  | 0 => []
  | t + 1 => if L t = t then partsL H W g L t ++ [(g t, sizeN H W L t)] else partsL H W g L t
theorem partsL_yes {t : Nat} (e : L t = t) : partsL H W g L (t + 1) = partsL H W g L t ++ [(g t, sizeN H W L t)] := by show (if _ then _ else _) = _; rw [if_pos e]
theorem partsL_no {t : Nat} (e : L t ≠ t) : partsL H W g L (t + 1) = partsL H W g L t := by show (if _ then _ else _) = _; rw [if_neg e]
theorem partsL_len : ∀ t, (partsL H W g L t).length = cntN (fun i => decide (L i = i)) t
  | 0 => rfl
  | t + 1 => by
    show _ = cntN _ t + (if decide (L t = t) = true then 1 else 0)
    by_cases e : L t = t
    · rw [partsL_yes e, List.length_append, partsL_len t, decide_eq_true e]; rfl
    · rw [partsL_no e, partsL_len t, decide_eq_false e]; rfl

/-- The search of part t, whether t begins a part or not. -/
def BfI (H W : Nat) (g : Nat → Int) (L : Nat → Nat) (t : Nat) (S0 S Q : List Pt) (m : Nat) : Prop := (L t = t ∧ BfOk H W g L t S Q m) ∨ (L t ≠ t ∧ S = S0 ∧ m = 0 ∧ (Q = [] ∨ Q = [ptP W t]))
theorem BfI.start (hL : IsLab (Ad H W g) L) {t : Nat} {S : List Pt} (ht : t < H * W) (h : SeenOk H W L t S) : BfI H W g L t S S [ptP W t] 0 := by
  by_cases e : L t = t
  · exact .inl ⟨e, BfOk.start hL ht h e⟩
  · exact .inr ⟨e, rfl, rfl, .inr rfl⟩
theorem BfI.skip {t : Nat} {S0 S Q : List Pt} {q : Pt} {m : Nat} (ht : t < H * W) (h : BfI H W g L t S0 S (q :: Q) m) (hs : q ∈ S ∨ ¬ inP H W q ∨ g (ixP W q) ≠ g t) : BfI H W g L t S0 S Q m := by
  rcases h with ⟨e, h⟩ | ⟨e, h1, h2, h3⟩
  · exact .inl ⟨e, h.skip ht hs⟩
  · rcases h3 with h3 | h3
    · cases h3
    · injection h3 with h3 h4; exact .inr ⟨e, h1, h2, .inl h4⟩
theorem BfI.add (hL : IsLab (Ad H W g) L) {t : Nat} {S0 S Q : List Pt} {q : Pt} {m : Nat} (ht : t < H * W) (h0 : SeenOk H W L t S0) (h : BfI H W g L t S0 S (q :: Q) m) (hn : q ∉ S) (hi : inP H W q) (hg : g (ixP W q) = g t) : BfI H W g L t S0 (S ++ [q]) (Q ++ nbP q) (m + 1) := by
  rcases h with ⟨e, h⟩ | ⟨e, h1, h2, h3⟩
  · exact .inl ⟨e, h.add hL hn hi hg⟩
  · rcases h3 with h3 | h3
    · cases h3
    · injection h3 with h3 h4
      subst h3 h1
      exact absurd (h0.has hL ht e) hn
theorem BfI.qb {t : Nat} {S0 S Q : List Pt} {m : Nat} (ht : t < H * W) (h : BfI H W g L t S0 S Q m) : ∀ q ∈ Q, -1 ≤ q.1 ∧ q.1 ≤ H ∧ -1 ≤ q.2 ∧ q.2 ≤ W := by
  rcases h with ⟨e, h⟩ | ⟨e, h1, h2, h3⟩
  · exact h.qb
  · intro q hq
    rcases h3 with rfl | rfl
    · cases hq
    · rw [List.mem_singleton] at hq
      subst hq
      obtain ⟨h1, h2, h3, h4⟩ := ptP_in ht
      exact ⟨by omega, by omega, by omega, by omega⟩
theorem BfI.len {t : Nat} {S0 S Q : List Pt} {m : Nat} (h : BfI H W g L t S0 S Q m) : Q.length ≤ 1 + 5 * (H * W) ∧ m ≤ H * W := by
  rcases h with ⟨e, h⟩ | ⟨e, h1, h2, h3⟩
  · exact ⟨by have := h.qn; omega, by rw [h.sz]; exact cntN_le _ _⟩
  · refine ⟨?_, by omega⟩
    rcases h3 with rfl | rfl
    · simp
    · simp
theorem BfI.fin (hL : IsLab (Ad H W g) L) {t : Nat} {S0 S : List Pt} {m : Nat} (ht : t < H * W) (h0 : SeenOk H W L t S0) (h : BfI H W g L t S0 S [] m) : SeenOk H W L (t + 1) S ∧ ((0 < m ∧ partsL H W g L (t + 1) = partsL H W g L t ++ [(g t, m)]) ∨ (m = 0 ∧ partsL H W g L (t + 1) = partsL H W g L t)) := by
  rcases h with ⟨e, h⟩ | ⟨e, h1, h2, h3⟩
  · obtain ⟨h1, h2⟩ := h.fin hL ht e
    exact ⟨h1, .inl ⟨by rw [h2]; exact sizeN_pos ht e, by rw [partsL_yes e, h2]⟩⟩
  · subst h1
    exact ⟨h0.next hL e, .inr ⟨h2, partsL_no e⟩⟩

/-- The first of the greatest. -/
def bestJ (f : Nat → Nat) : Nat → Nat
  | 0 => 0
  | k + 1 => if f (bestJ f k) < f k then k else bestJ f k
/-- The first part of the greatest size, and what stands where there is none. -/
def mostL : List (Int × Nat) → Int × Nat → Int × Nat
  | [], b => b
  | x :: l, b => mostL l (if b.2 < x.2 then x else b)
theorem mostL_app : ∀ (l l' : List (Int × Nat)) (b : Int × Nat), mostL (l ++ l') b = mostL l' (mostL l b)
  | [], _, _ => rfl
  | x :: l, l', b => mostL_app l l' _
theorem most_is (hL : IsLab (Ad H W g) L) {t : Nat} (h0 : 0 < t) (ht : t ≤ H * W) : mostL (partsL H W g L t) (0, 0) = (g (bestJ (sizeN H W L) t), sizeN H W L (bestJ (sizeN H W L) t)) := by
  induction t with
  | zero => omega
  | succ t ih =>
    rcases Nat.eq_zero_or_pos t with e | h1
    · subst e
      have e0 : L 0 = 0 := by have := hL.le 0; omega
      rw [partsL_yes e0]
      have := sizeN_pos (L := L) (show 0 < H * W by omega) e0
      show (if 0 < sizeN H W L 0 then _ else _) = _
      rw [if_pos this]
      show _ = (g (if _ then _ else _), _)
      simp [bestJ]
    · have ih := ih h1 (by omega)
      show _ = (g (if _ then _ else _), sizeN H W L (if _ then _ else _))
      by_cases e : L t = t
      · rw [partsL_yes e, mostL_app, ih]
        show (if _ then _ else _) = _
        split
        · rfl
        · rfl
      · rw [partsL_no e, ih, if_neg (by rw [sizeN_none hL e]; omega)]
end
end Go.Proofs.Yteapdildbfimnaa
namespace Go.Proofs.Yteapdildbfimnaa
set_option linter.unusedSimpArgs false
set_option linter.unusedVariables false

def setN (f : Nat → Nat) (j v : Nat) : Nat → Nat := fun q => if q = j then v else f q
def sumN (f : Nat → Nat) : Nat → Nat
  | 0 => 0
  | n + 1 => sumN f n + f n
theorem sumN_ext {f g : Nat → Nat} : ∀ {n}, (∀ q, q < n → f q = g q) → sumN f n = sumN g n
  | 0, _ => rfl
  | n + 1, h => by
    show sumN f n + f n = sumN g n + g n
    rw [sumN_ext (n := n) fun q hq => h q (by omega), h n (by omega)]
theorem sumN_set {f : Nat → Nat} {j v : Nat} : ∀ {n}, j < n → sumN (setN f j v) n + f j = sumN f n + v
  | 0, h => by omega
  | n + 1, h => by
    show sumN (setN f j v) n + setN f j v n + f j = sumN f n + f n + v
    by_cases e : j = n
    · subst e
      rw [sumN_ext (f := setN f j v) (g := f) (n := j) fun q hq => if_neg (by omega), show setN f j v j = v from if_pos rfl]
      omega
    · have := sumN_set (f := f) (j := j) (v := v) (n := n) (by omega)
      rw [show setN f j v n = f n from if_neg (fun h => e h.symm)]
      omega

section
variable {H W : Nat} {g : Nat → Int}
/-- The place to the right (0) or below (1). -/
def sdP (W i s : Nat) : Nat := if s = 0 then i + 1 else i + W
/-- A step by side s. -/
def As (H W : Nat) (g : Nat → Int) (s i : Nat) : Prop := i < H * W ∧ sdP W i s < H * W ∧ (s = 0 → sdP W i s % W ≠ 0) ∧ g i = g (sdP W i s)
theorem As.ad {s i : Nat} (h : As H W g s i) (hs : s < 2) : Ad H W g i (sdP W i s) := by
  obtain ⟨h1, h2, h3, h4⟩ := h
  refine ⟨h1, h2, ?_, h4⟩
  rcases (show s = 0 ∨ s = 1 by omega) with rfl | rfl
  · exact .inl ⟨rfl, h3 rfl⟩
  · exact .inr rfl
theorem As.of_ad {i k : Nat} (h : Ad H W g i k) : ∃ s, s < 2 ∧ As H W g s i ∧ k = sdP W i s := by
  obtain ⟨h1, h2, h3, h4⟩ := h
  rcases h3 with ⟨rfl, h3⟩ | rfl
  · exact ⟨0, by omega, ⟨h1, h2, fun _ => h3, h4⟩, rfl⟩
  · exact ⟨1, by omega, ⟨h1, h2, (fun h => nomatch h), h4⟩, rfl⟩

/-- Labels that lead to linked places before. -/
def LbOk (H W : Nat) (g : Nat → Int) (out : Nat → Nat) : Prop := ∀ i, i < H * W → out i ≤ i ∧ Cn (Ad H W g) i (out i)
theorem LbOk.start : LbOk H W g (fun i => i) := fun i hi => ⟨Nat.le_refl _, .refl⟩
theorem LbOk.lt {out : Nat → Nat} (h : LbOk H W g out) {i : Nat} (hi : i < H * W) : out i < H * W := by have := (h i hi).1; omega
def joinL (out : Nat → Nat) (i k : Nat) : Nat → Nat := setN (setN out i (min (out i) (out k))) k (min (out i) (out k))
theorem LbOk.join {out : Nat → Nat} (h : LbOk H W g out) {i k : Nat} (ha : Ad H W g i k) : LbOk H W g (joinL out i k) := fun j hj => by
  have hi := ha.1
  have hk := ha.2.1
  obtain ⟨h1, h2⟩ := h i hi
  obtain ⟨h3, h4⟩ := h k hk
  have hcm : ∀ x, Cn (Ad H W g) x i → Cn (Ad H W g) x (min (out i) (out k)) := fun x hx => by
    rcases (show min (out i) (out k) = out i ∨ min (out i) (out k) = out k by omega) with e | e
    · rw [e]; exact hx.trans h2
    · rw [e]; exact (hx.fwd ha).trans h4
  unfold joinL setN
  by_cases e : j = k
  · subst e
    rw [if_pos rfl]
    exact ⟨by omega, hcm _ (.bwd .refl ha)⟩
  · rw [if_neg e]
    by_cases e2 : j = i
    · subst e2
      rw [if_pos rfl]
      exact ⟨by omega, hcm _ .refl⟩
    · rw [if_neg e2]; exact h j hj
theorem join_sum {out : Nat → Nat} {i k n : Nat} (hi : i < n) (hk : k < n) (hne : i ≠ k) (h : out i ≠ out k) : sumN (joinL out i k) n < sumN out n := by
  have h1 := sumN_set (f := out) (j := i) (v := min (out i) (out k)) hi
  have h2 := sumN_set (f := setN out i (min (out i) (out k))) (j := k) (v := min (out i) (out k)) hk
  have e : setN out i (min (out i) (out k)) k = out k := if_neg (fun h => hne h.symm)
  rw [e] at h2
  unfold joinL
  omega

/-- What holds within a pass: z: the sum at its beginning; c: whether labels fell; i, s: what was looked at. -/
structure PsOk (H W : Nat) (g : Nat → Int) (z : Nat) (out : Nat → Nat) (c : Bool) (i s : Nat) : Prop where
  ok : LbOk H W g out
  yes : c = true → sumN out (H * W) < z
  no : c = false → sumN out (H * W) = z ∧ (∀ j q, j < i → q < 2 → As H W g q j → out j = out (sdP W j q)) ∧ ∀ q, q < s → q < 2 → As H W g q i → out i = out (sdP W i q)
theorem PsOk.start {out : Nat → Nat} (h : LbOk H W g out) : PsOk H W g (sumN out (H * W)) out false 0 0 :=
  ⟨h, fun h => (nomatch h), fun _ => ⟨rfl, fun j q hj => by omega, fun q hq => by omega⟩⟩
theorem PsOk.next {z i : Nat} {out : Nat → Nat} {c : Bool} (h : PsOk H W g z out c i 2) : PsOk H W g z out c (i + 1) 0 :=
  ⟨h.ok, h.yes, fun hc => ⟨(h.no hc).1, fun j q hj hq ha => by
    by_cases e : j = i
    · subst e; exact (h.no hc).2.2 q hq hq ha
    · exact (h.no hc).2.1 j q (by omega) hq ha, fun q hq => by omega⟩⟩
theorem PsOk.skip {z i s : Nat} {out : Nat → Nat} {c : Bool} (h : PsOk H W g z out c i s) (hs : As H W g s i → out i = out (sdP W i s)) : PsOk H W g z out c i (s + 1) :=
  ⟨h.ok, h.yes, fun hc => ⟨(h.no hc).1, (h.no hc).2.1, fun q hq hq2 ha => by
    by_cases e : q = s
    · subst e; exact hs ha
    · exact (h.no hc).2.2 q (by omega) hq2 ha⟩⟩
theorem sdP_ne {i s : Nat} (hW : 0 < W) : i ≠ sdP W i s := by unfold sdP; split <;> omega
theorem PsOk.join {z i s : Nat} {out : Nat → Nat} {c : Bool} (hW : 0 < W) (hs : s < 2) (h : PsOk H W g z out c i s) (ha : As H W g s i) (hne : out i ≠ out (sdP W i s)) : PsOk H W g z (joinL out i (sdP W i s)) true i (s + 1) := by
  have hd := ha.ad hs
  have hlt := join_sum hd.1 hd.2.1 (sdP_ne (i := i) (s := s) hW) hne
  refine ⟨h.ok.join hd, fun _ => ?_, fun h => (nomatch h)⟩
  cases c with
  | true => have := h.yes rfl; omega
  | false => have := (h.no rfl).1; omega
theorem PsOk.fin {z : Nat} {out : Nat → Nat} (h : PsOk H W g z out false (H * W) 0) {L : Nat → Nat} (hL : IsLab (Ad H W g) L) : ∀ i, i < H * W → out i = L i :=
  hL.is (fun i k ha => ⟨ha.1, ha.2.1⟩) h.ok fun i k ha => by
    obtain ⟨s, hs, hA, rfl⟩ := As.of_ad ha
    exact (h.no rfl).2.1 i s ha.1 hs hA
end
end Go.Proofs.Yteapdildbfimnaa
namespace Go.Proofs.Yteapdildbfimnaa
set_option linter.unusedSimpArgs false
set_option linter.unusedVariables false
open Go.RowKit Go.ChangeMaps

/-! ### A map's block turned -/
/-- w' differs from w in block b, a map. -/
structure MapB (b : Nat) (w w' : World) : Prop where
  os : w'.os = w.os
  tape : w'.tape = w.tape
  output : w'.output = w.output
  size : w'.heap.size = w.heap.size
  oth : ∀ j, j ≠ b → w'.heap[j]? = w.heap[j]?
  was : ∃ es c, w.heap[b]? = some (.map es c)
theorem MapB.cells {b : Nat} {w w' : World} (h : MapB b w w') {j : Nat} {cur : Array Value} {e : TypeId} {q : Nat × Nat} (hc : w.heap[j]? = some (.cells cur e q)) : w'.heap[j]? = some (.cells cur e q) := by
  have hne : j ≠ b := by
    rintro rfl
    obtain ⟨es, c, hb⟩ := h.was
    rw [hb] at hc; cases hc
  rw [h.oth _ hne]; exact hc
theorem MapB.cell {b : Nat} {w w' : World} (h : MapB b w w') {a : Addr} {x : Value} (hc : w.cell? a = some x) : w'.cell? a = some x := by
  have hne : a.block ≠ b := by
    intro e
    obtain ⟨es, c, hb⟩ := h.was
    unfold World.cell? at hc
    rw [e, hb] at hc; cases hc
  rw [World.cell?_of_block (w := w) (h.oth _ hne)]; exact hc
theorem MapB.wr {b : Nat} {w w' : World} (h : MapB b w w') {j : Nat} (hw : Wr w j) : Wr w' j := by
  obtain ⟨cur, e, hc⟩ := hw
  exact ⟨cur, e, hc.imp h.cells fun hc => ⟨hc.1, h.cells hc.2⟩⟩
theorem Rd.mapped {b : Nat} {w w' : World} (h : MapB b w w') : ∀ {S : Nat → Prop} (v : V) (u : Value), Rd w S v u → Rd w' S v u
  | S, .val _, _, h' => h'
  | S, .seq sz n f, u, h' => by
    obtain ⟨A, c, rfl, hc, h'⟩ := h'
    refine ⟨A, c, rfl, hc, fun hp => ?_⟩
    obtain ⟨g, off, rfl, hS, h'⟩ := h' hp
    refine ⟨g, off, rfl, hS, fun i hi => ?_⟩
    obtain ⟨x, hx, hr⟩ := h' i hi
    exact ⟨x, h.cell hx, Rd.mapped h (f i) x hr⟩
  | S, .agg n f, u, h' => by
    obtain ⟨cs, rfl, hn, h'⟩ := h'
    refine ⟨cs, rfl, hn, fun i hi => ?_⟩
    obtain ⟨x, hx, hr⟩ := h' i hi
    exact ⟨x, hx, Rd.mapped h (f i) x hr⟩
  | S, .pin n f, u, h' => by
    obtain ⟨g, off, rfl, h'⟩ := h'
    refine ⟨g, off, rfl, fun i hi => ?_⟩
    obtain ⟨hS, x, hx, hr⟩ := h' i hi
    exact ⟨hS, x, h.cell hx, Rd.mapped h (f i) x hr⟩
  | S, .clo g n f, u, h' => by
    obtain ⟨cs, rfl, hn, h'⟩ := h'
    refine ⟨cs, rfl, hn, fun i hi => ?_⟩
    obtain ⟨x, hx, hr⟩ := h' i hi
    exact ⟨x, hx, Rd.mapped h (f i) x hr⟩
  | S, .old Z v, u, h' => ⟨fun j hj => ⟨(h'.1 j hj).1, by rw [h.size]; exact (h'.1 j hj).2⟩, Rd.mapped h v u h'.2⟩
  | S, .row u0 Z sz n f, u, h' => by
    obtain ⟨e, hz, A, c, hu, hc, h'⟩ := h'
    refine ⟨e, fun j hj => ⟨(hz j hj).1, h.wr (hz j hj).2⟩, A, c, hu, hc, fun hp => ?_⟩
    obtain ⟨g, off, hA, hZ, h'⟩ := h' hp
    refine ⟨g, off, hA, hZ, fun i hi => ?_⟩
    obtain ⟨x, hx, hr⟩ := h' i hi
    exact ⟨x, h.cell hx, Rd.mapped h (f i) x hr⟩
  | S, .grow u0 Z e sz n f, u, h' => by
    obtain ⟨hu, hz, h'⟩ := h'
    refine ⟨hu, fun j hj => ⟨(hz j hj).1, h.wr (hz j hj).2⟩, ?_⟩
    rcases h' with h' | ⟨g, c, cur, h1, h2, h3, h4, h5, h6, h7⟩
    · exact .inl h'
    · refine .inr ⟨g, c, cur, h1, h2, h3, h4, h5.imp h.cells (fun h5 => ⟨h5.1, h.cells h5.2⟩), h6, fun i hi => ?_⟩
      obtain ⟨x, hx, hr⟩ := h7 i hi
      exact ⟨x, hx, Rd.mapped h (f i) x hr⟩
  | S, .cur g k Z c, u, h' => by
    obtain ⟨hu, hb, hz, cur, cv, p, q, e, hc, h3, hp, hq, hr⟩ := h'
    exact ⟨hu, hb, fun j hj => ⟨(hz j hj).1, by rw [h.size]; exact (hz j hj).2.1, (hz j hj).2.2⟩, cur, cv, p, q, e, h.cells hc, h3, hp, hq, Rd.mapped h c cv hr⟩

/-- What the slots hold behind a store into map b. -/
def swSV (b : Nat) (L : List (Value × Value)) : SV → SV
  | .mp b0 L0 => if b0 = b then .mp b0 L else .mp b0 L0
  | v => v
def swSM (b : Nat) (L : List (Value × Value)) : Slot → Slot
  | .one v => .one (swSV b L v)
  | .many vs => .many (vs.map (swSV b L))
def swM (b : Nat) (L : List (Value × Value)) : List (Nat × Slot) → List (Nat × Slot)
  | [] => []
  | (t, v) :: r => (t, swSM b L v) :: swM b L r
theorem swM_get {b : Nat} {L : List (Value × Value)} {t : Nat} {v : Slot} : ∀ {σ : List (Nat × Slot)}, lookup (swM b L σ) t = some v → ∃ v0, lookup σ t = some v0 ∧ v = swSM b L v0
  | [], h => by cases h
  | (i, x) :: r, h => by
    simp only [swM, lookup] at h ⊢
    by_cases e : i = t
    · rw [if_pos e] at h ⊢; injection h with h; exact ⟨x, rfl, h.symm⟩
    · rw [if_neg e] at h ⊢; exact swM_get h

section
variable {P : Program} {N : Nat} {w0 : World} {S0 : Nat → Prop} {s : ASt} {φ : List (Option (Nat × Nat))} {a : Act} {w : World}

theorem RdS.mapped {b : Nat} {w' : World} {L : List (Value × Value)} {S : Nat → Prop} (h : MapB b w w') {es : Array MapEntry} {c : Nat} (hm : w'.heap[b]? = some (.map es c)) (hL : es.toList.map kvOf = L) : ∀ (v : SV) (u : Value), RdS w S φ v u → RdS w' S φ (swSV b L v) u
  | .pv v, u, h' => Rd.mapped h v u h'
  | .own id sz off len, u, h' => h'
  | .ptr id off, u, h' => h'
  | .pin n f, u, h' => by
    obtain ⟨g, off, rfl, h'⟩ := h'
    refine ⟨g, off, rfl, fun i hi => ?_⟩
    obtain ⟨hS, x, hx, hr⟩ := h' i hi
    exact ⟨hS, x, h.cell hx, Rd.mapped h (f i) x hr⟩
  | .mp b0 L0, u, h' => by
    obtain ⟨h1, h2, es0, c0, h3, h4⟩ := h'
    show RdS w' S φ (if b0 = b then .mp b0 L else .mp b0 L0) u
    by_cases e : b0 = b
    · subst e; rw [if_pos rfl]; exact ⟨h1, h2, es, c, hm, hL⟩
    · rw [if_neg e]; exact ⟨h1, h2, es0, c0, by rw [h.oth _ e]; exact h3, h4⟩
  | .it b0 s p, u, h' => by
    obtain ⟨h1, h2, h3⟩ := h'
    have e : b0 ≠ b := by
      rintro rfl
      obtain ⟨es1, c1, h4⟩ := h.was
      rw [h4] at h3; cases h3
    exact ⟨h1, h2, by rw [h.oth _ e]; exact h3⟩
theorem RdSs.mapped {b : Nat} {w' : World} {L : List (Value × Value)} {S : Nat → Prop} (h : MapB b w w') {es : Array MapEntry} {c : Nat} (hm : w'.heap[b]? = some (.map es c)) (hL : es.toList.map kvOf = L) : ∀ (vs : List SV) (us : List Value), RdSs w S φ vs us → RdSs w' S φ (vs.map (swSV b L)) us
  | [], [], _ => trivial
  | [], _ :: _, h' => h'.elim
  | _ :: _, [], h' => h'.elim
  | v :: vs, u :: us, h' => ⟨RdS.mapped h hm hL v u h'.1, RdSs.mapped h hm hL vs us h'.2⟩

theorem SimAt.mapped (sim : SimAt w0 S0 s φ a w) {b : Nat} (hb : w0.heap.size ≤ b) {w' : World} (h : MapB b w w') {es : Array MapEntry} {c : Nat} {L : List (Value × Value)} (hm : w'.heap[b]? = some (.map es c)) (hL : es.toList.map kvOf = L) : SimAt w0 S0 ⟨swM b L s.σ, s.h, s.nt⟩ φ a w' := by
  refine ⟨⟨sim.heap.len, ⟨?_, ?_, ?_, ?_, fun j hj => ?_⟩, fun id blk hi => ?_, sim.heap.inj⟩, fun t v ht => ?_, sim.defers, sim.size⟩
  · rw [h.os, sim.heap.below.os]
  · rw [h.tape, sim.heap.below.tape]
  · rw [h.output, sim.heap.below.output]
  · rw [h.size]; exact sim.heap.below.size
  · rw [h.oth j (by omega)]; exact sim.heap.below.block j hj
  · rcases sim.heap.blk id blk hi with h1 | ⟨g, cu, h1, h2, h4, h5, h6⟩
    · exact .inl h1
    · refine .inr ⟨g, cu, h1, h2, h.cells h4, h5, fun i hi' => ?_⟩
      obtain ⟨x, hx, hrx⟩ := h6 i hi'
      exact ⟨x, hx, Rd.mapped h _ _ hrx⟩
  · obtain ⟨v0, h1, rfl⟩ := swM_get ht
    obtain ⟨x, hx, hrx⟩ := sim.slots t v0 h1
    refine ⟨x, hx, ?_⟩
    cases v0 with
    | one v0 => exact RdS.mapped h hm hL v0 x hrx
    | many vs =>
      obtain ⟨us, rfl, hrx⟩ := hrx
      exact ⟨us, rfl, RdSs.mapped h hm hL vs us hrx⟩

/-! ### The operations -/
theorem ax_makeMap [Cx] {K : ASt → Prop} {t : TypeId} {d ty : Nat} {pos : String} {after : Array Edge} (hd : Nat.ble (d + 1) s.nt = true) (h : ∀ b, N ≤ b → K (putS s d (.one (.mp b [])))) : Ax N P K ⟨some d, .makeMap t none, ty, pos, after, none⟩ s := by
  refine ⟨rfl, fun w0 S0 φ a w hN sim next Q hnx => ?_⟩
  have hsz := sim.heap.below.size
  have hr : (execOp a.eval ⟨some d, .makeMap t none, ty, pos, after, none⟩).run P w = .ok (.value (.map (some w.heap.size))) (w.alloc (.map #[] 0)) := rfl
  unfold Oper.wp
  rw [hr, Oper.upon_value]
  have sim' := sim.after (below_alloc w (.map #[] 0))
  refine hnx _ _ _ (h w.heap.size (by omega)) ⟨w0, Reb.refl _, φ, sim'.put (d := d) (Nat.le_of_ble_eq_true hd) (v := .one (.mp w.heap.size [])) ⟨rfl, ⟨.inr (by omega), ?_⟩, #[], 0, heap_alloc_new w _, rfl⟩⟩
  rintro ⟨id, blk, z, h1, h2⟩
  rcases sim.heap.blk id blk h1 with ⟨h3, _⟩ | ⟨g, cu, h3, h4, h5, _⟩
  · rw [h3] at h2; cases h2
  · rw [h3] at h2
    injection h2 with h2; injection h2 with h2; injection h2 with h2 _
    have := block_lt h5
    omega

theorem ax_mapUpdate [Cx] {K : ASt → Prop} {t kt e : TypeId} {κ : Type} [DecidableEq κ] {enc : κ → Value} {m x y : Operand} {ty : Nat} {pos : String} {after : Array Edge} {b : Nat} {l : List (κ × Value)} {kv : V} {v : Value} (k : κ)
    (hm : opd s m = some (.one (.mp b (encA enc l)))) (hx : opd s x = some (.one (.pv kv))) (hkv : IsV kv (enc k)) (hy : opd s y = some (sc v)) (hk : KeyT P kt enc) (ht : P.underlying t = some (.map kt e)) (hb : N ≤ b)
    (h : K ⟨swM b (encA enc (putA l k v)) s.σ, s.h, s.nt⟩) : Ax N P K ⟨none, .mapUpdate t m x y, ty, pos, after, none⟩ s := by
  refine ⟨rfl, fun w0 S0 φ a w hN sim next Q hnx => ?_⟩
  obtain ⟨h1, h2, es, c, h3, h4⟩ := sim.opd hm
  have hkx : a.eval x = enc k := hkv _ _ _ (sim.opd hx)
  have hvy : a.eval y = v := val_of sim hy
  have hkeys : es.toList.map (·.key) = (l.map (·.1)).map enc := by
    have := congrArg (List.map Prod.fst) h4
    simpa [encA, kvOf, List.map_map, Function.comp_def] using this
  have hf := hk.find k es.toList (l.map (·.1)) w hkeys
  obtain ⟨es', c', hr, hes⟩ : ∃ es' c', (execOp a.eval ⟨none, .mapUpdate t m x y, ty, pos, after, none⟩).run P w = .ok .skip (setBlock w b (.map es' c')) ∧ es'.toList.map kvOf = encA enc (putA l k v) := by
    rcases findP_is (enc := enc) k l es.toList 0 h4 with ⟨g1, g2, g3⟩ | ⟨j, e', g1, g2, g3, g4, g5⟩
    · refine ⟨es.push { key := enc k, val := v, born := c }, c + 1, ?_, by rw [Array.toList_push]; exact g3 v c⟩
      rw [g1] at hf
      simp [execOp, h1, hkx, hvy, Instr.mapUpdate, Sem.run_bind, run_underlying ht, MapKept.run_getObj_map h3, hk.chk, hf, MapKept.run_setObj_map _ h3, Result.andThen, setBlock]
    · refine ⟨es.modify j fun e => { e with key := enc k, val := v }, c, ?_, by rw [Array.toList_modify]; exact g5 v⟩
      rw [g1, Nat.zero_add] at hf
      have hj : es[j]? = some e' := by simpa using g2
      have hstay : (Instr.keyThatStays (enc k) (enc k)).run P w = .ok (enc k) w := by unfold Instr.keyThatStays; rw [if_pos (hk.bits k)]; rfl
      simp [execOp, h1, hkx, hvy, Instr.mapUpdate, Sem.run_bind, run_underlying ht, MapKept.run_getObj_map h3, hk.chk, hf, hj, g3, hstay, MapKept.run_setObj_map _ h3, Result.andThen, setBlock]
  unfold Oper.wp
  rw [hr, Oper.upon_skip]
  have hB : MapB b w (setBlock w b (.map es' c')) := ⟨rfl, rfl, rfl, by simp [setBlock], fun j hj => heap_setBlock_other h3 _ hj, es, c, h3⟩
  exact hnx _ _ _ h ⟨w0, Reb.refl _, φ, sim.mapped (by omega) hB (heap_setBlock_same h3 _) hes⟩

end
end Go.Proofs.Yteapdildbfimnaa
namespace Go.Proofs.Yteapdildbfimnaa
set_option linter.unusedSimpArgs false
set_option linter.unusedVariables false
open Go.RowKit

section
variable {P : Program} {N : Nat}

/-- The length of a slice of no cells. -/
theorem ax_lenD [Cx] {K : ASt → Prop} {t : TypeId} {x : Operand} {d ty : Nat} {pos : String} {after : Array Edge} {s : ASt} {A : Option Addr}
    (hx : opd s x = some (sc (.slice A 0 0))) (ht : (elemSz P t).isSome = true) (hd : d < s.nt) (h : K (putS s d (sc (.int .i64 0)))) :
    Ax N P K ⟨some d, .call ⟨.builtin .len, #[x], #[t]⟩, ty, pos, after, none⟩ s := by
  refine ⟨rfl, fun w0 S0 φ a w hN sim next Q hnx => ?_⟩
  have ex := val_of sim hx
  have hr : (execOp a.eval ⟨some d, .call ⟨.builtin .len, #[x], #[t]⟩, ty, pos, after, none⟩).run P w = .ok (.value (.int .i64 (0 : Nat))) w := by
    have h0 := run_len_of (P := P) (ty := ty) ht A 0 0 w
    rw [← ex] at h0
    unfold execOp
    simp only [resolve, invoke, builtin, Sem.run_bind, Sem.run_pure, Result.andThen_ok, List.map_toArray, List.map_cons, List.map_nil, h0]
  unfold Oper.wp
  rw [hr, Oper.upon_value]
  exact hnx _ _ _ h ⟨w0, Reb.refl _, φ, sim.put (d := d) hd (v := sc (.int .i64 0)) rfl⟩
end
end Go.Proofs.Yteapdildbfimnaa
namespace Go.Proofs.Yteapdildbfimnaa
set_option linter.unusedSimpArgs false
set_option linter.unusedVariables false
open Go.RowKit

section
variable {P : Program} {N : Nat}

theorem ax_appendS [Cx] {K : ASt → Prop} {t e : TypeId} {zs : List Value} {x y : Operand} {d ty : Nat} {pos : String} {after : Array Edge} {s : ASt} {id id2 sz off n : Nat} {blk b2 : Blk} (v : Nat → Value)
    (hx : opd s x = some (.one (.own id sz off n))) (hb : s.h[id]? = some (some blk)) (hinfo : elemInfo P t = some (e, zs)) (hzl : zs.length = sz) (he : e = blk.elem) (hn : off + n * sz ≤ blk.n) (hnm : n + 1 ≤ 1099511627776)
    (hy : opd s y = some (.one (.own id2 sz 0 1))) (hb2 : s.h[id2]? = some (some b2)) (hn2 : sz ≤ b2.n) (hv : ∀ j, j < sz → b2.f j = .val (v j)) (hv1 : ∀ j, j < sz → (v j).oneCell' = true) (hd : Nat.ble (d + 1) s.nt = true)
    (h1 : K ⟨upd s.σ d (.one (.own id sz off (n + 1))), s.h.set id (some ⟨blk.elem, off + n * sz + sz, fun i => if i < off + n * sz then blk.f i else .val (v (i - (off + n * sz)))⟩), s.nt⟩)
    (h2 : K ⟨upd s.σ d (.one (.own s.h.length sz 0 (n + 1))), s.h ++ [some ⟨blk.elem, n * sz + sz, fun i => if i < n * sz then blk.f (off + i) else .val (v (i - n * sz))⟩], s.nt⟩) :
    Ax N P K ⟨some d, .call ⟨.builtin .append, #[x, y], #[t, t]⟩, ty, pos, after, none⟩ s := by
  refine ⟨rfl, fun w0 S0 φ a w hN sim next Q hnx => ?_⟩
  have hd := Nat.le_of_ble_eq_true hd
  subst he
  obtain ⟨i, z, hu', hi, hz, hsz, hzs, hpos, hby⟩ := elemInfo_some hinfo
  rw [hzl] at hsz hpos
  have hzsz : z.cells.size = sz := by rw [hzs]; simpa using hzl
  have fin : ∀ {v' w'}, (Builtin.append_ #[t, t] ty #[a.eval x, a.eval y]).run P w = .ok v' w' → (execOp a.eval ⟨some d, .call ⟨.builtin .append, #[x, y], #[t, t]⟩, ty, pos, after, none⟩).run P w = .ok (.value v') w' := fun {v' w'} hr => by
    unfold execOp
    simp only [resolve, invoke, builtin, Sem.run_bind, Sem.run_pure, Result.andThen_ok, List.map_toArray, List.map_cons, List.map_nil, hr]
  obtain ⟨vl, hvl⟩ : ∃ vl, vl = (List.range sz).map v := ⟨_, rfl⟩
  have hvll : vl.length = sz := by rw [hvl]; simp
  have hvlg : ∀ j, j < sz → vl[j]? = some (v j) := fun j hj => by rw [hvl]; simp [hj]
  -- the source
  obtain ⟨g2, c2, ey, hcell2⟩ : ∃ g2 c2, a.eval y = .slice (some ⟨g2, 0, none⟩) 1 c2 ∧ ∀ j, j < sz → w.cell? ⟨g2, j, none⟩ = some (v j) := by
    rcases sim.opd hy with ⟨_, _, hl, _⟩ | ⟨g2, c2, z2, hφ2, ey, _, _, _⟩
    · cases hl
    · obtain ⟨cur2, _, _, hcur2, hn2', hx2⟩ := sim.blkAt hb2 hφ2
      refine ⟨g2, c2, ey, fun j hj => ?_⟩
      obtain ⟨x2, hx2a, hx2b⟩ := hx2 j (by omega)
      rw [hv j hj] at hx2b
      have hx2b : x2 = v j := hx2b
      rw [← hx2b]; exact cell_of_blk hcur2 hx2a
  have hsrc : Src P i.size t (a.eval y) 1 vl w := by
    rw [ey]
    refine Src.ofSlice w hu' _ 1 c2 vl (by rw [hvll, hsz]; omega) (fun j u hj => ?_) (fun u hu => ?_)
    · have hj0 : j < sz := by
        have := (List.getElem?_eq_some_iff.1 hj).1; omega
      rw [hvlg j hj0] at hj
      injection hj with hj; subst hj
      rw [add_none, Nat.zero_add]; exact hcell2 j hj0
    · rw [hvl] at hu
      obtain ⟨j, hj, rfl⟩ := List.mem_map.1 hu
      exact hv1 j (List.mem_range.1 hj)
  have hgrow : ∀ (base : Option Addr) (c : Nat) (olds : List Value), a.eval x = .slice base n c → c < n + 1 → olds.length = n * sz →
      (Builtin.firstCells i.size n (.slice base n c)).run P w.drew = .ok olds.toArray w.drew → (∀ j, j < n * sz → ∃ u, olds[j]? = some u ∧ Rd w (Stab w0 S0 s.h φ) (blk.f (off + j)) u) →
      Oper.wp P ⟨some d, .call ⟨.builtin .append, #[x, y], #[t, t]⟩, ty, pos, after, none⟩ a w next Q := fun base c olds ex hcl hol hold hrd => by
    have hbytes : (n + 1) * i.bytes ≤ 140737488355328 := by
      have : (n + 1) * i.bytes ≤ 1099511627776 * 64 := Nat.mul_le_mul hnm hby
      omega
    have hr := run_append_grow_src (P := P) w t t ty blk.elem i z hu' hi hz base n c olds hold (a.eval y) 1 vl hsrc hcl (by omega) (growslice_fits hcl hbytes)
    rw [← ex] at hr
    unfold Oper.wp
    rw [fin hr, Oper.upon_value]
    have hge := grownCap_ge w (n + 1) c blk.elem
    have hcm := grownCap_le_maxLen w (n + 1) c blk.elem (by unfold maxLen; omega)
    generalize grownCap w (n + 1) c blk.elem = cap at *
    have simD : SimAt w0 S0 s φ a w.drew := sim.after ⟨rfl, rfl, rfl, Nat.le_refl _, fun _ _ => rfl⟩
    have hcs : ((olds ++ vl).toArray ++ Builtin.zeroCells z.cells (cap - (n + 1))).size = cap * sz := by
      rw [Array.size_append, List.size_toArray, List.length_append, size_zeroCells, hzsz, hol, hvll]
      obtain ⟨q, rfl⟩ : ∃ q, cap = n + 1 + q := ⟨cap - (n + 1), by omega⟩
      rw [show n + 1 + q - (n + 1) = q by omega, Nat.add_mul, Nat.add_mul, Nat.one_mul]
    have hle : n * sz + sz ≤ cap * sz := by
      have := Nat.mul_le_mul_right sz hge
      rw [Nat.add_mul, Nat.one_mul] at this; exact this
    have sim' := simD.made (blk := ⟨blk.elem, n * sz + sz, fun i => if i < n * sz then blk.f (off + i) else .val (v (i - n * sz))⟩) (cells := (olds ++ vl).toArray ++ Builtin.zeroCells z.cells (cap - (n + 1))) rfl (by rw [hcs]; exact hle) (fun j hj => by
      have hj : j < n * sz + sz := hj
      rw [Array.getElem?_append_left (by simp only [List.size_toArray, List.length_append]; omega)]
      by_cases e : j < n * sz
      · obtain ⟨u, hu, hr⟩ := hrd j e
        refine ⟨u, by simp [List.getElem?_append_left (show j < olds.length by omega), hu], ?_⟩
        simp only [if_pos e]
        exact Rd.mono (w := w) (w' := w.drew) (fun b hb hlt => ⟨hb, rfl⟩) _ _ hr
      · refine ⟨v (j - n * sz), ?_, ?_⟩
        · rw [List.getElem?_toArray, List.getElem?_append_right (by omega), hol]
          exact hvlg _ (by omega)
        · simp only [if_neg e]
          rfl)
    rw [show w.drew.heap.size = w.heap.size from rfl] at sim'
    rw [hcs] at sim'
    refine hnx _ _ _ h2 ⟨w0, Reb.refl _, _, sim'.put (d := d) hd (v := .one (.own s.h.length sz 0 (n + 1))) (.inr ⟨w.heap.size, cap, cap * sz, ?_, rfl, hge, hcm, by omega⟩)⟩
    rw [← sim.heap.len]; simp
  rcases sim.opd hx with ⟨hφ, hoff, hl, ex⟩ | ⟨g, c, zz, hφ, ex, hc, hcm, hcz⟩
  · subst hl
    exact hgrow none 0 [] ex (by omega) (by simp) (run_firstCells_none w.drew i.size 0 0 0) (fun j hj => by omega)
  · obtain ⟨cur, hz', hB, hcur, hbn, hxs⟩ := sim.blkAt hb hφ
    by_cases hroom : n + 1 ≤ c
    · have hcc : off + n * sz + sz ≤ cur.size := by
        have := Nat.mul_le_mul_right sz hroom
        rw [Nat.add_mul, Nat.one_mul] at this
        omega
      have hcs : ∀ j, j < sz → (w.cell? ⟨g, off + n * sz + j, none⟩).isSome = true := fun j hj => by
        have hlt : off + n * sz + j < cur.size := by omega
        rw [show w.cell? ⟨g, off + n * sz + j, none⟩ = cur[off + n * sz + j]? by simp [World.cell?, hcur]]
        simp [hlt]
      have hr := run_append_room_src (P := P) w t t ty blk.elem i hu' hi g off n c (a.eval y) 1 vl hsrc hroom (fun j hj => by
        rw [hvll] at hj; rw [hsz]; exact hcs j hj) (fun j hj => by simp [World.frozen?, hcur])
      rw [← ex, hsz] at hr
      unfold Oper.wp
      rw [fin hr, Oper.upon_value]
      obtain ⟨cur', q1, q2, q3, q4, q5, q6, q7, q8, q9⟩ := setCells_at vl w g (off + n * sz) cur blk.elem (0, 0) hcur
      have sim' := sim.write hb hφ (blk' := ⟨blk.elem, off + n * sz + sz, fun i => if i < off + n * sz then blk.f i else .val (v (i - (off + n * sz)))⟩) (w' := w.setCells g (off + n * sz) vl) q1 (by omega) q5 q6 q7 (Nat.le_of_eq q8.symm) (fun k _ hk => q9 k hk) rfl (by show off + n * sz + sz ≤ cur'.size; omega) (fun j hj => by
        have hj : j < off + n * sz + sz := hj
        by_cases e : j < off + n * sz
        · obtain ⟨u, hu, hr⟩ := hxs j (by omega)
          refine ⟨u, by rw [q3 j (.inl e)]; exact hu, ?_⟩
          simp only [if_pos e]; exact hr
        · obtain ⟨m, rfl⟩ : ∃ m, j = off + n * sz + m := ⟨j - (off + n * sz), by omega⟩
          refine ⟨v m, ?_, ?_⟩
          · rw [q4 m (by omega) (by omega)]
            exact hvlg m (by omega)
          · simp only [if_neg e]
            rw [show off + n * sz + m - (off + n * sz) = m by omega]
            rfl)
      refine hnx _ _ _ h1 ⟨w0, Reb.refl _, _, sim'.put (d := d) hd (v := .one (.own id sz off (n + 1))) (.inr ⟨g, c, zz, hφ, rfl, hroom, hcm, by omega⟩)⟩
    · have hcn : c = n := by omega
      refine hgrow _ c ((cur.toList.drop off).take (n * sz)) ex (by omega) (by simp; omega) ?_ (fun j hj => ?_)
      · refine run_firstCells_some w.drew i.size n ⟨g, off, none⟩ n c _ (by simp [hsz]; omega) (fun j u hj => ?_)
        rw [add_none]
        have hjl : j < n * sz := by
          have := (List.getElem?_eq_some_iff.1 hj).1
          simp at this; omega
        rw [List.getElem?_take, if_pos hjl, List.getElem?_drop] at hj
        show w.cell? ⟨g, off + j, none⟩ = some u
        exact cell_of_blk hcur (by simpa using hj)
      · obtain ⟨u, hu, hr⟩ := hxs (off + j) (by omega)
        exact ⟨u, by rw [List.getElem?_take, if_pos hj, List.getElem?_drop]; simpa using hu, hr⟩

/-- An own slice without its first element: where that was the last cell of its block, the rest is a slice of no cells at all. -/
theorem ax_cutS [Cx] {K : ASt → Prop} {t : TypeId} {x : Operand} {κ : IntKind} {d ty : Nat} {pos : String} {after : Array Edge} {s : ASt} {id sz off n : Nat}
    (hx : opd s x = some (.one (.own id sz off n))) (hsz : elemSz P t = some sz) (hn : 0 < n) (hd : Nat.ble (d + 1) s.nt = true)
    (h1 : K (putS s d (.one (.own id sz (off + sz) (n - 1))))) (h2 : n = 1 → ∀ A : Option Addr, K (putS s d (sc (.slice A 0 0)))) :
    Ax N P K ⟨some d, .slice t x (some (.const (.int κ 1))) none none, ty, pos, after, none⟩ s := by
  refine ⟨rfl, fun w0 S0 φ a w hN sim next Q hnx => ?_⟩
  have hd := Nat.le_of_ble_eq_true hd
  obtain ⟨e, ii, hu, hii, hsz1⟩ := elemSz_some hsz
  rcases sim.opd hx with ⟨_, _, hl, _⟩ | ⟨b, c, z, hφ, ex, hc, hcm, hz⟩
  · omega
  · have hb := run_sliceBounds (P := P) true n c 1 n (some (.int κ 1)) none (.inr ⟨κ, rfl⟩) (.inl ⟨rfl, rfl⟩) (by omega) hc w
    have hr : (execOp a.eval ⟨some d, .slice t x (some (.const (.int κ 1))) none none, ty, pos, after, none⟩).run P w = .ok (.value (.slice (if c = 1 then some ⟨b, off, none⟩ else some ⟨b, off + sz, none⟩) (n - 1) (c - 1))) w := by
      unfold execOp
      have ev : a.eval (.const (.int κ 1)) = .int κ 1 := rfl
      simp only [ex, ev, Instr.sliceAt, Instr.slice, Sem.run_bind, run_underlying hu, Result.andThen_ok, Option.map_none, Option.map_some, hb, sizeOf, typeInfo, run_program, hii, Sem.run_pure, hsz1, Nat.one_mul, add_none]
    unfold Oper.wp
    rw [hr, Oper.upon_value]
    by_cases e1 : c = 1
    · rw [if_pos e1]
      have e2 : n = 1 := by omega
      refine hnx _ _ _ (h2 e2 (some ⟨b, off, none⟩)) ⟨w0, Reb.refl _, φ, sim.put (d := d) hd (v := sc (.slice (some ⟨b, off, none⟩) 0 0)) ?_⟩
      show Value.slice _ (n - 1) (c - 1) = Value.slice _ 0 0
      rw [e1, e2]
    · rw [if_neg e1]
      obtain ⟨q, rfl⟩ : ∃ q, c = q + 1 := ⟨c - 1, by omega⟩
      refine hnx _ _ _ h1 ⟨w0, Reb.refl _, φ, sim.put (d := d) hd (v := .one (.own id sz (off + sz) (n - 1))) (.inr ⟨b, q, z, hφ, rfl, by omega, by omega, by rw [Nat.add_mul, Nat.one_mul] at hz; omega⟩)⟩

/-- append of one struct onto a slice of no cells. -/
theorem ax_appendE [Cx] {K : ASt → Prop} {t e : TypeId} {zs : List Value} {x y : Operand} {d ty : Nat} {pos : String} {after : Array Edge} {s : ASt} {id2 sz : Nat} {b2 : Blk} (v : Nat → Value) {A : Option Addr}
    (hx : opd s x = some (sc (.slice A 0 0))) (hinfo : elemInfo P t = some (e, zs)) (hzl : zs.length = sz)
    (hy : opd s y = some (.one (.own id2 sz 0 1))) (hb2 : s.h[id2]? = some (some b2)) (hn2 : sz ≤ b2.n) (hv : ∀ j, j < sz → b2.f j = .val (v j)) (hv1 : ∀ j, j < sz → (v j).oneCell' = true) (hd : Nat.ble (d + 1) s.nt = true)
    (h2 : K ⟨upd s.σ d (.one (.own s.h.length sz 0 1)), s.h ++ [some ⟨e, sz, fun i => .val (v i)⟩], s.nt⟩) :
    Ax N P K ⟨some d, .call ⟨.builtin .append, #[x, y], #[t, t]⟩, ty, pos, after, none⟩ s := by
  refine ⟨rfl, fun w0 S0 φ a w hN sim next Q hnx => ?_⟩
  have hd := Nat.le_of_ble_eq_true hd
  obtain ⟨i, z, hu', hi, hz, hsz, hzs, hpos, hby⟩ := elemInfo_some hinfo
  rw [hzl] at hsz hpos
  have hzsz : z.cells.size = sz := by rw [hzs]; simpa using hzl
  have ex := val_of sim hx
  have fin : ∀ {v' w'}, (Builtin.append_ #[t, t] ty #[a.eval x, a.eval y]).run P w = .ok v' w' → (execOp a.eval ⟨some d, .call ⟨.builtin .append, #[x, y], #[t, t]⟩, ty, pos, after, none⟩).run P w = .ok (.value v') w' := fun {v' w'} hr => by
    unfold execOp
    simp only [resolve, invoke, builtin, Sem.run_bind, Sem.run_pure, Result.andThen_ok, List.map_toArray, List.map_cons, List.map_nil, hr]
  obtain ⟨vl, hvl⟩ : ∃ vl, vl = (List.range sz).map v := ⟨_, rfl⟩
  have hvll : vl.length = sz := by rw [hvl]; simp
  have hvlg : ∀ j, j < sz → vl[j]? = some (v j) := fun j hj => by rw [hvl]; simp [hj]
  obtain ⟨g2, c2, ey, hcell2⟩ : ∃ g2 c2, a.eval y = .slice (some ⟨g2, 0, none⟩) 1 c2 ∧ ∀ j, j < sz → w.cell? ⟨g2, j, none⟩ = some (v j) := by
    rcases sim.opd hy with ⟨_, _, hl, _⟩ | ⟨g2, c2, z2, hφ2, ey, _, _, _⟩
    · cases hl
    · obtain ⟨cur2, _, _, hcur2, hn2', hx2⟩ := sim.blkAt hb2 hφ2
      refine ⟨g2, c2, ey, fun j hj => ?_⟩
      obtain ⟨x2, hx2a, hx2b⟩ := hx2 j (by omega)
      rw [hv j hj] at hx2b
      have hx2b : x2 = v j := hx2b
      rw [← hx2b]; exact cell_of_blk hcur2 hx2a
  have hsrc : Src P i.size t (a.eval y) 1 vl w := by
    rw [ey]
    refine Src.ofSlice w hu' _ 1 c2 vl (by rw [hvll, hsz]; omega) (fun j u hj => ?_) (fun u hu => ?_)
    · have hj0 : j < sz := by
        have := (List.getElem?_eq_some_iff.1 hj).1; omega
      rw [hvlg j hj0] at hj
      injection hj with hj; subst hj
      rw [add_none, Nat.zero_add]; exact hcell2 j hj0
    · rw [hvl] at hu
      obtain ⟨j, hj, rfl⟩ := List.mem_map.1 hu
      exact hv1 j (List.mem_range.1 hj)
  have hold : (Builtin.firstCells i.size 0 (.slice A 0 0)).run P w.drew = .ok ([] : List Value).toArray w.drew := by
    cases A with
    | none => exact run_firstCells_none w.drew i.size 0 0 0
    | some ad => exact run_firstCells_some w.drew i.size 0 ad 0 0 [] (by simp) (fun j u hj => by simp at hj)
  have hr := run_append_grow_src (P := P) w t t ty e i z hu' hi hz A 0 0 [] hold (a.eval y) 1 vl hsrc (by omega) (by omega) (growslice_fits (by omega) (by have := hby; omega))
  rw [← ex] at hr
  unfold Oper.wp
  rw [fin hr, Oper.upon_value]
  have hge := grownCap_ge w (0 + 1) 0 e
  have hcm := grownCap_le_maxLen w (0 + 1) 0 e (by unfold maxLen; omega)
  generalize grownCap w (0 + 1) 0 e = cap at *
  have simD : SimAt w0 S0 s φ a w.drew := sim.after ⟨rfl, rfl, rfl, Nat.le_refl _, fun _ _ => rfl⟩
  have hcs : (([] ++ vl).toArray ++ Builtin.zeroCells z.cells (cap - (0 + 1))).size = cap * sz := by
    rw [Array.size_append, List.size_toArray, List.length_append, size_zeroCells, hzsz, hvll]
    obtain ⟨q, rfl⟩ : ∃ q, cap = 1 + q := ⟨cap - 1, by omega⟩
    rw [show 1 + q - (0 + 1) = q by omega, Nat.add_mul, Nat.one_mul, List.length_nil, Nat.zero_add]
  have hle : sz ≤ cap * sz := by
    have := Nat.mul_le_mul_right sz hge
    rw [Nat.add_mul, Nat.one_mul, Nat.zero_mul, Nat.zero_add] at this; exact this
  have sim' := simD.made (blk := ⟨e, sz, fun i => .val (v i)⟩) (cells := ([] ++ vl).toArray ++ Builtin.zeroCells z.cells (cap - (0 + 1))) rfl (by rw [hcs]; exact hle) (fun j hj => by
    have hj : j < sz := hj
    refine ⟨v j, ?_, rfl⟩
    rw [Array.getElem?_append_left (by simp only [List.size_toArray, List.nil_append]; omega), List.nil_append, List.getElem?_toArray]
    exact hvlg j hj)
  rw [show w.drew.heap.size = w.heap.size from rfl] at sim'
  rw [hcs] at sim'
  refine hnx _ _ _ h2 ⟨w0, Reb.refl _, _, sim'.put (d := d) hd (v := .one (.own s.h.length sz 0 1)) (.inr ⟨w.heap.size, cap, cap * sz, ?_, rfl, hge, hcm, by omega⟩)⟩
  rw [← sim.heap.len]; simp
end
end Go.Proofs.Yteapdildbfimnaa
namespace Go.Proofs.Yteapdildbfimnaa
open Go.RowKit Go.Proofs
set_option linter.unusedSimpArgs false
set_option linter.unusedVariables false

theorem isLetter_fn (n : Int) : Fn Try.prog 83 [vu n] (.one (.pv (vb (ltrI n)))) := by
  refine Fn.of_body Try.call83 Try.func83 rfl Try.ntmps83 (ts := [2]) rfl (by simp) rfl (fun N => ?_)
  repeat' (first | (with_reducible first | refine then_normal ?_ | refine then_ret ?_ | refine then_exit ?_ | refine block_normal ?_ | refine block_ret ?_) | ((with_reducible show blockQ _ _ _ _); first | refine block_exit ?_ | refine block_exit_ne rfl ?_) | ((with_reducible show AWP _ _ _ _ _); first | (with_reducible first | refine AWP.seq ?_ | refine AWP.block ?_ | refine AWP.region ?_ | refine AWP.ret ?_ | refine AWP.exit ?_ | refine AWP.skip ?_) | refine AWP.drawn rfl (by kernel_rfl) ?_ | refine AWP.cond rfl ?_ ?_) | with_reducible refine ev_nil ?_ | ((first | ((with_reducible show evOps _ _ _ _ _ _); (first | refine ev_step rfl ?_ | refine ev_undef rfl rfl rfl ?_); intro K hK) | ((with_reducible show EvOpen _ _ _ _ _ _ _); refine ev_open ?_; intro K hK) | ((with_reducible show SkOpen _ _ _ _ _ _ _); refine sk_open ?_; intro K hK) | ((with_reducible show callK _ _ _ _ _ _ _ _); first | fail)); simp only [evOp, evQ, binK, withS, opd, kput, putS, upd, lookup, skipOp, slotsOf, Nat.reduceEqDiff, Nat.reduceLT, ↓reduceIte, eq_self, true_and, and_true, Bool.not_true, Bool.not_false, Bool.true_eq_false, Bool.false_eq_true, false_implies, forall_const]) | refine ev_guard rfl rfl rfl ?_ ?_ | ((with_reducible show retQ _ _ _ _); simp only [retQ, retOk, getL, lookup, Option.map_some, fitsL, fits, ND, srcs, Res.list, VE, Value.bool.injEq, Nat.reduceEqDiff, ↓reduceIte, and_true]) | (with_reducible refine hK _ ?_; clear hK K) | (with_reducible refine And.intro ?_ ?_) | (with_reducible intro hc; try simp only [decide_eq_true_eq, decide_eq_false_iff_not, beq_iff_eq, beq_eq_false_iff_ne, Bool.not_true, Bool.not_false, Int.not_le, ge_iff_le, ne_eq, reduceCtorEq, Bool.true_eq_false] at hc) | omega)
  all_goals (simp_all [ltrI] <;> omega)

theorem drSize_fn (w h : Int) : Fn Try.prog 89 [vi w, vi h] (.one (.pv (vb (inB w 1 16 && inB h 1 16)))) := by
  refine Fn.of_body Try.call89 Try.func89 rfl Try.ntmps89 (ts := [4]) rfl (by simp) rfl (fun N => ?_)
  repeat' (first | (with_reducible first | refine then_normal ?_ | refine then_ret ?_ | refine then_exit ?_ | refine block_normal ?_ | refine block_ret ?_) | ((with_reducible show blockQ _ _ _ _); first | refine block_exit ?_ | refine block_exit_ne rfl ?_) | ((with_reducible show AWP _ _ _ _ _); first | (with_reducible first | refine AWP.seq ?_ | refine AWP.block ?_ | refine AWP.region ?_ | refine AWP.ret ?_ | refine AWP.exit ?_ | refine AWP.skip ?_) | refine AWP.drawn rfl (by kernel_rfl) ?_ | refine AWP.cond rfl ?_ ?_) | with_reducible refine ev_nil ?_ | ((first | ((with_reducible show evOps _ _ _ _ _ _); (first | refine ev_step rfl ?_ | refine ev_undef rfl rfl rfl ?_); intro K hK) | ((with_reducible show EvOpen _ _ _ _ _ _ _); refine ev_open ?_; intro K hK) | ((with_reducible show SkOpen _ _ _ _ _ _ _); refine sk_open ?_; intro K hK) | ((with_reducible show callK _ _ _ _ _ _ _ _); first  | (refine call_scalar (l1In_fn _ _ _) (Nat.le_of_ble_eq_true rfl) rfl ?_))); simp only [evOp, evQ, withS, opd, kput, putS, upd, lookup, skipOp, argsK, bringIn, bring, Res.list, Res.slot, slotsOf, List.reverse_cons, List.reverse_nil, List.nil_append, List.cons_append, Nat.reduceEqDiff, Nat.reduceLT, Nat.zero_add, ↓reduceIte, eq_self, true_and, and_true, Bool.not_true, Bool.true_eq_false, Bool.false_eq_true, false_implies, forall_const]) | refine ev_guard rfl rfl rfl ?_ ?_ | ((with_reducible show retQ _ _ _ _); simp only [retQ, retOk, getL, lookup, Option.map_some, fitsL, fits, ND, srcs, Res.list, VE, Value.bool.injEq, Nat.reduceEqDiff, ↓reduceIte, and_true]) | (with_reducible refine hK _ ?_; clear hK K) | (with_reducible refine And.intro ?_ ?_) | (with_reducible intro hc; try simp only [Bool.not_true, reduceCtorEq, inB_true, inB_false, Bool.true_eq_false] at hc) | omega)
  all_goals first
    | (rw [inB_true.2 ‹1 ≤ w ∧ w ≤ 16›, Bool.true_and]; done)
    | (rw [inB_false.2 ‹¬ (1 ≤ w ∧ w ≤ 16)›]; rfl)

theorem letsB_upto {b : ByteArray} {k : Nat} (hk : k < lenB b) (h : ltrI (byteI b k) = false) : letsB b = false := allN_false hk h

theorem isPicture_fn (l : List ByteArray) (hl : l.length ≤ 1099511627776) : Fn Try.prog 46 [strs l] (.one (.pv (vb (picB l)))) := by
  refine Fn.of_body Try.call46 Try.func46 rfl Try.ntmps46 (ts := [2]) rfl (by simp) rfl (fun N => ?_)
  repeat' (first | (with_reducible first | refine then_normal ?_ | refine then_ret ?_ | refine then_exit ?_ | refine block_normal ?_ | refine block_ret ?_) | ((with_reducible show blockQ _ _ _ _); first | refine block_exit ?_ | refine block_exit_ne rfl ?_) | ((with_reducible show AWP _ _ _ _ _); first | (with_reducible first | refine AWP.seq ?_ | refine AWP.block ?_ | refine AWP.region ?_ | refine AWP.ret ?_ | refine AWP.exit ?_ | refine AWP.skip ?_) | refine AWP.drawn rfl (by kernel_rfl) ?_ | refine AWP.cond rfl ?_ ?_) | with_reducible refine ev_nil ?_ | ((first | ((with_reducible show evOps _ _ _ _ _ _); (first | refine ev_step rfl ?_ | refine ev_undef rfl rfl rfl ?_); intro K hK) | ((with_reducible show EvOpen _ _ _ _ _ _ _); refine ev_open ?_; intro K hK) | ((with_reducible show SkOpen _ _ _ _ _ _ _); refine sk_open ?_; intro K hK) | ((with_reducible show callK _ _ _ _ _ _ _ _); first  | (refine call_scalar (within_fn _ _ _) (Nat.le_of_ble_eq_true rfl) rfl ?_))); simp only [evOp, evQ, evB, withS, opd, kput, putS, upd, lookup, skipOp, argsK, bringIn, bring, Res.list, Res.slot, slotsOf, sz_strs, c_string, u_string, lenB_is, List.reverse_cons, List.reverse_nil, List.nil_append, List.cons_append, Nat.reduceEqDiff, Nat.reduceLT, Nat.mul_one, Nat.zero_add, ↓reduceIte, eq_self, true_and, and_true, Bool.not_false, Bool.true_eq_false, Bool.false_eq_true, false_implies, forall_const, Int.toNat_zero, Option.isSome_some]) | refine ev_guard rfl rfl rfl ?_ ?_ | ((with_reducible show retQ _ _ _ _); simp only [retQ, retOk, getL, lookup, Option.map_some, fitsL, fits, ND, srcs, Res.list, VE, Value.bool.injEq, Nat.reduceEqDiff, ↓reduceIte, and_true]) | (with_reducible refine hK _ ?_; clear hK K) | (with_reducible refine And.intro ?_ ?_) | (with_reducible intro hc; try simp only [Bool.not_eq_true', Bool.not_eq_false', Bool.not_false, reduceCtorEq, inB_true, inB_false, Bool.true_eq_false] at hc) | omega)
  any_goals first
    | exact (picB_no1 (inB_false.2 ‹_›)).symm
    | exact (picB_no2 (inB_false.2 ‹_›)).symm
  refine AWP.loop_ent (fun k : Nat => ⟨[(0, .one (.pv (strs l))), (18, .one (.pv (strs l))), (19, sc (.int .i64 l.length)), (20, sc (.int .i64 k))], [], 43⟩)
    (fun k => k ≤ l.length ∧ ∀ j, j < k → rowB (lenB (stAt l 0)) (stAt l j) = true) (fun k => l.length - k) 0 ⟨by omega, by simp⟩ (by (simp [Ent, EntS, EntH, SlE, VE, lookup, BE])) ?_
  rintro k ⟨hk, hall⟩
  repeat' (first | (with_reducible first | refine then_normal ?_ | refine then_ret ?_ | refine then_exit ?_ | refine block_normal ?_ | refine block_ret ?_) | ((with_reducible show blockQ _ _ _ _); first | refine block_exit ?_ | refine block_exit_ne rfl ?_) | ((with_reducible show AWP _ _ _ _ _); first | (with_reducible first | refine AWP.seq ?_ | refine AWP.block ?_ | refine AWP.region ?_ | refine AWP.ret ?_ | refine AWP.exit ?_ | refine AWP.skip ?_) | refine AWP.drawn rfl (by kernel_rfl) ?_ | refine AWP.cond rfl ?_ ?_) | with_reducible refine ev_nil ?_ | ((first | ((with_reducible show evOps _ _ _ _ _ _); (first | refine ev_step rfl ?_ | refine ev_undef rfl rfl rfl ?_); intro K hK) | ((with_reducible show EvOpen _ _ _ _ _ _ _); refine ev_open ?_; intro K hK) | ((with_reducible show SkOpen _ _ _ _ _ _ _); refine sk_open ?_; intro K hK) | ((with_reducible show callK _ _ _ _ _ _ _ _); first | fail)); simp only [evOp, evQ, evB, binK, withS, opd, kput, putS, upd, lookup, sz_strs, c_string, u_string, lenB_is, Nat.reduceEqDiff, Nat.reduceLT, Nat.mul_one, Nat.add_zero, Nat.zero_add, ↓reduceIte, eq_self, true_and, Int.toNat_natCast, Int.toNat_zero]) | refine ev_guard rfl rfl rfl ?_ ?_ | ((with_reducible show retQ _ _ _ _); simp only [retQ, retOk, getL, lookup, Option.map_some, fitsL, fits, ND, srcs, Res.list, VE, Value.bool.injEq, Nat.reduceEqDiff, ↓reduceIte, and_true]) | (with_reducible refine hK _ ?_; clear hK K) | (with_reducible refine And.intro ?_ ?_) | (with_reducible intro hc; try simp only [decide_eq_true_eq, decide_eq_false_iff_not, bne_iff_ne, bne_eq_false_iff_eq, Int.not_lt, ne_eq] at hc) | omega)
  any_goals exact (picB_no3 (show k < l.length by omega) (rowB_len ‹_›)).symm
  · refine AWP.loop_ent (fun j : Nat => ⟨[(0, .one (.pv (strs l))), (4, .one (.pv (vs (stAt l k)))), (18, .one (.pv (strs l))), (19, sc (.int .i64 l.length)), (20, sc (.int .i64 k)), (32, sc (.int .i64 (lenB (stAt l k)))), (33, sc (.int .i64 j))], [], 43⟩)
      (fun j => j ≤ lenB (stAt l k) ∧ ∀ i, i < j → ltrI (byteI (stAt l k) i) = true) (fun j => lenB (stAt l k) - j) 0 ⟨by omega, by simp⟩ (by (simp [Ent, EntS, EntH, SlE, VE, lookup, BE])) ?_
    rintro j ⟨hj, hlet⟩
    repeat' (first | (with_reducible first | refine then_normal ?_ | refine then_ret ?_ | refine then_exit ?_ | refine block_normal ?_ | refine block_ret ?_) | ((with_reducible show blockQ _ _ _ _); first | refine block_exit ?_ | refine block_exit_ne rfl ?_) | ((with_reducible show AWP _ _ _ _ _); first | (with_reducible first | refine AWP.seq ?_ | refine AWP.block ?_ | refine AWP.region ?_ | refine AWP.ret ?_ | refine AWP.exit ?_ | refine AWP.skip ?_) | refine AWP.drawn rfl (by kernel_rfl) ?_ | refine AWP.cond rfl ?_ ?_) | with_reducible refine ev_nil ?_ | ((first | ((with_reducible show evOps _ _ _ _ _ _); (first | refine ev_step rfl ?_ | refine ev_undef rfl rfl rfl ?_); intro K hK) | ((with_reducible show EvOpen _ _ _ _ _ _ _); refine ev_open ?_; intro K hK) | ((with_reducible show SkOpen _ _ _ _ _ _ _); refine sk_open ?_; intro K hK) | ((with_reducible show callK _ _ _ _ _ _ _ _); first  | (refine call_scalar (isLetter_fn _) (Nat.le_of_ble_eq_true rfl) rfl ?_))); simp only [evOp, evQ, binK, withS, opd, kput, putS, upd, lookup, argsK, bringIn, bring, Res.list, Res.slot, InK_i64, u_string, lenB_is, byteI_is, List.reverse_cons, List.reverse_nil, List.nil_append, Nat.reduceEqDiff, Nat.reduceLT, ↓reduceIte, eq_self, true_and, Int.toNat_natCast]) | refine ev_guard rfl rfl rfl ?_ ?_ | ((with_reducible show retQ _ _ _ _); simp only [retQ, retOk, getL, lookup, Option.map_some, fitsL, fits, ND, srcs, Res.list, VE, Value.bool.injEq, Nat.reduceEqDiff, ↓reduceIte, and_true]) | (with_reducible refine hK _ ?_; clear hK K) | (with_reducible refine And.intro ?_ ?_) | (with_reducible intro hc; try simp only [decide_eq_true_eq, decide_eq_false_iff_not, Bool.not_eq_true', Bool.not_eq_false', Int.not_lt] at hc) | omega)
    all_goals first
      | exact (picB_no3 (show k < l.length by omega) (rowB_let (letsB_upto (show j < lenB _ by omega) ‹ltrI (byteI (stAt l k) j) = false›))).symm
      | exact ⟨j + 1, ⟨by omega, upto_succ hlet ‹_›⟩, by omega, by (simp [Ent, EntS, EntH, SlE, VE, lookup, BE])⟩
      | exact ⟨k + 1, ⟨by omega, upto_succ hall (rowB_yes ‹_› (allN_true fun i hi => hlet i (by omega)))⟩, by omega, by (simp [Ent, EntS, EntH, SlE, VE, lookup, BE])⟩
      | trace_state
  all_goals first
    | exact (picB_yes (inB_true.2 ‹_›) (inB_true.2 ‹_›) fun i hi => hall i (by omega)).symm
    | trace_state

theorem drGood_fn (l : List ByteArray) (hl : l.length ≤ 1099511627776) (hs : ∀ i, lenB (stAt l i) ≤ 1099511627776) : Fn Try.prog 44 [strs l] (.one (.pv (vb (picB l)))) := by
  refine Fn.of_body Try.call44 Try.func44 rfl Try.ntmps44 (ts := [2]) rfl (by simp) rfl (fun N => ?_)
  repeat' (first | (with_reducible first | refine then_normal ?_ | refine then_ret ?_ | refine then_exit ?_ | refine block_normal ?_ | refine block_ret ?_) | ((with_reducible show blockQ _ _ _ _); first | refine block_exit ?_ | refine block_exit_ne rfl ?_) | ((with_reducible show AWP _ _ _ _ _); first | (with_reducible first | refine AWP.seq ?_ | refine AWP.block ?_ | refine AWP.region ?_ | refine AWP.ret ?_ | refine AWP.exit ?_ | refine AWP.skip ?_) | refine AWP.drawn rfl (by kernel_rfl) ?_ | refine AWP.cond rfl ?_ ?_) | with_reducible refine ev_nil ?_ | ((first | ((with_reducible show evOps _ _ _ _ _ _); (first | refine ev_step rfl ?_ | refine ev_undef rfl rfl rfl ?_); intro K hK) | ((with_reducible show EvOpen _ _ _ _ _ _ _); refine ev_open ?_; intro K hK) | ((with_reducible show SkOpen _ _ _ _ _ _ _); refine sk_open ?_; intro K hK) | ((with_reducible show callK _ _ _ _ _ _ _ _); first  | (refine call_scalar (drSize_fn _ _) (Nat.le_of_ble_eq_true rfl) rfl ?_))); simp only [evOp, evQ, evB, binK, withS, opd, kput, putS, upd, lookup, skipOp, argsK, bringIn, bring, Res.list, Res.slot, slotsOf, sz_strs, c_string, u_string, lenB_is, List.reverse_cons, List.reverse_nil, List.nil_append, List.cons_append, Nat.reduceEqDiff, Nat.reduceLT, Nat.mul_one, Nat.zero_add, ↓reduceIte, eq_self, true_and, and_true, Bool.not_false, Bool.true_eq_false, Bool.false_eq_true, false_implies, forall_const, Int.toNat_zero, Option.isSome_some]) | refine ev_guard rfl rfl rfl ?_ ?_ | ((with_reducible show retQ _ _ _ _); simp only [retQ, retOk, getL, lookup, Option.map_some, fitsL, fits, ND, srcs, Res.list, VE, Value.bool.injEq, Nat.reduceEqDiff, ↓reduceIte, and_true]) | (with_reducible refine hK _ ?_; clear hK K) | (with_reducible refine And.intro ?_ ?_) | (with_reducible intro hc; try simp only [beq_iff_eq, beq_eq_false_iff_ne, Bool.not_eq_true', Bool.not_eq_false', Bool.not_false, ne_eq, reduceCtorEq, Bool.true_eq_false] at hc) | omega)
  any_goals first
    | exact (picB_no1 (inB_false.2 (by omega))).symm
    | exact (picB_no12 ‹_›).symm
  have e : (inB (lenB (stAt l 0)) 1 16 && inB l.length 1 16) = true := by assumption
  simp only [Bool.and_eq_true] at e
  have e1 := inB_true.1 e.1
  have e2 := inB_true.1 e.2
  refine AWP.loop_ent (fun k : Nat => ⟨[(0, .one (.pv (strs l))), (19, .one (.pv (strs l))), (20, sc (.int .i64 l.length)), (21, sc (.int .i64 k))], [], 55⟩)
    (fun k => k ≤ l.length ∧ ∀ j, j < k → rowB (lenB (stAt l 0)) (stAt l j) = true) (fun k => l.length - k) 0 ⟨by omega, by simp⟩ (by (simp [Ent, EntS, EntH, SlE, VE, lookup, BE])) ?_
  rintro k ⟨hk, hall⟩
  have hlk := hs k
  repeat' (first | (with_reducible first | refine then_normal ?_ | refine then_ret ?_ | refine then_exit ?_ | refine block_normal ?_ | refine block_ret ?_) | ((with_reducible show blockQ _ _ _ _); first | refine block_exit ?_ | refine block_exit_ne rfl ?_) | ((with_reducible show AWP _ _ _ _ _); first | (with_reducible first | refine AWP.seq ?_ | refine AWP.block ?_ | refine AWP.region ?_ | refine AWP.ret ?_ | refine AWP.exit ?_ | refine AWP.skip ?_) | refine AWP.drawn rfl (by kernel_rfl) ?_ | refine AWP.cond rfl ?_ ?_) | with_reducible refine ev_nil ?_ | ((first | ((with_reducible show evOps _ _ _ _ _ _); (first | refine ev_step rfl ?_ | refine ev_undef rfl rfl rfl ?_); intro K hK) | ((with_reducible show EvOpen _ _ _ _ _ _ _); refine ev_open ?_; intro K hK) | ((with_reducible show SkOpen _ _ _ _ _ _ _); refine sk_open ?_; intro K hK) | ((with_reducible show callK _ _ _ _ _ _ _ _); first | fail)); simp only [evOp, evQ, binK, withS, opd, kput, putS, upd, lookup, sz_strs, c_string, Nat.reduceEqDiff, Nat.reduceLT, Nat.mul_one, Nat.add_zero, ↓reduceIte, eq_self, true_and, Int.toNat_natCast]) | refine ev_guard rfl rfl rfl ?_ ?_ | ((with_reducible show retQ _ _ _ _); simp only [retQ, retOk, getL, lookup, Option.map_some, fitsL, fits, ND, srcs, Res.list, VE, Value.bool.injEq, Nat.reduceEqDiff, ↓reduceIte, and_true]) | (with_reducible refine hK _ ?_; clear hK K) | (with_reducible refine And.intro ?_ ?_) | (with_reducible intro hc; try simp only [decide_eq_true_eq, decide_eq_false_iff_not, Int.not_lt] at hc) | omega)
  · refine AWP.loop_ent (fun j : Nat => ⟨[(0, .one (.pv (strs l))), (4, .one (.pv (vs (stAt l k)))), (5, sc (.int .i64 j)), (19, .one (.pv (strs l))), (20, sc (.int .i64 l.length)), (21, sc (.int .i64 k))], [], 55⟩)
      (fun j => j ≤ lenB (stAt l k) ∧ ∀ i, i < j → ltrI (byteI (stAt l k) i) = true) (fun j => lenB (stAt l k) - j) 0 ⟨by omega, by simp⟩ (by (simp [Ent, EntS, EntH, SlE, VE, lookup, BE])) ?_
    rintro j ⟨hj, hlet⟩
    repeat' (first | (with_reducible first | refine then_normal ?_ | refine then_ret ?_ | refine then_exit ?_ | refine block_normal ?_ | refine block_ret ?_) | ((with_reducible show blockQ _ _ _ _); first | refine block_exit ?_ | refine block_exit_ne rfl ?_) | ((with_reducible show AWP _ _ _ _ _); first | (with_reducible first | refine AWP.seq ?_ | refine AWP.block ?_ | refine AWP.region ?_ | refine AWP.ret ?_ | refine AWP.exit ?_ | refine AWP.skip ?_) | refine AWP.drawn rfl (by kernel_rfl) ?_ | refine AWP.cond rfl ?_ ?_) | with_reducible refine ev_nil ?_ | ((first | ((with_reducible show evOps _ _ _ _ _ _); (first | refine ev_step rfl ?_ | refine ev_undef rfl rfl rfl ?_); intro K hK) | ((with_reducible show EvOpen _ _ _ _ _ _ _); refine ev_open ?_; intro K hK) | ((with_reducible show SkOpen _ _ _ _ _ _ _); refine sk_open ?_; intro K hK) | ((with_reducible show callK _ _ _ _ _ _ _ _); first | fail)); simp only [evOp, evQ, evB, binK, withS, opd, kput, putS, upd, lookup, skipOp, InK_i64, sz_strs, c_string, u_string, lenB_is, byteI_is, Nat.reduceEqDiff, Nat.reduceLT, Nat.mul_one, Nat.zero_add, ↓reduceIte, eq_self, true_and, and_true, Bool.not_true, Bool.not_false, Bool.true_eq_false, Bool.false_eq_true, false_implies, forall_const, Int.toNat_natCast, Int.toNat_zero]) | refine ev_guard rfl rfl rfl ?_ ?_ | ((with_reducible show retQ _ _ _ _); simp only [retQ, retOk, getL, lookup, Option.map_some, fitsL, fits, ND, srcs, Res.list, VE, Value.bool.injEq, Nat.reduceEqDiff, ↓reduceIte, and_true]) | (with_reducible refine hK _ ?_; clear hK K) | (with_reducible refine And.intro ?_ ?_) | (with_reducible intro hc; try simp only [decide_eq_true_eq, decide_eq_false_iff_not, bne_iff_ne, bne_eq_false_iff_eq, Bool.not_true, Bool.not_false, Int.not_lt, gt_iff_lt, ne_eq, reduceCtorEq, Bool.true_eq_false] at hc) | omega)
    all_goals first
      | exact (picB_no3 (show k < l.length by omega) (rowB_let (letsB_upto (show j < lenB _ by omega) (ltrI_lo ‹_› ‹_›)))).symm
      | exact (picB_no3 (show k < l.length by omega) (rowB_let (letsB_upto (show j < lenB _ by omega) (ltrI_hi ‹_› ‹_›)))).symm
      | exact ⟨j + 1, ⟨by omega, upto_succ hlet (by first | exact ltrI_star ‹_› | exact ltrI_in (by omega) (by omega))⟩, by omega, by (simp [Ent, EntS, EntH, SlE, VE, lookup, BE])⟩
      | exact (picB_no3 (show k < l.length by omega) (rowB_len ‹_›)).symm
      | exact ⟨k + 1, ⟨by omega, upto_succ hall (rowB_yes ‹_› (allN_true fun i hi => hlet i (by omega)))⟩, by omega, by (simp [Ent, EntS, EntH, SlE, VE, lookup, BE])⟩
      | trace_state
  all_goals first
    | exact (picB_yes e.2 e.1 fun i hi => hall i (by omega)).symm
    | trace_state

theorem implIsPicture_fn (l : List ByteArray) (hl : l.length ≤ 1099511627776) : Fn Try.prog 43 [strs l] (.one (.pv (vb (picB l)))) := by
  refine Fn.of_body Try.call43 Try.func43 rfl Try.ntmps43 (ts := [2]) rfl (by simp) rfl (fun N => ?_)
  repeat' (first | (with_reducible first | refine then_normal ?_ | refine then_ret ?_ | refine then_exit ?_ | refine block_normal ?_ | refine block_ret ?_) | ((with_reducible show blockQ _ _ _ _); first | refine block_exit ?_ | refine block_exit_ne rfl ?_) | ((with_reducible show AWP _ _ _ _ _); first | (with_reducible first | refine AWP.seq ?_ | refine AWP.block ?_ | refine AWP.region ?_ | refine AWP.ret ?_ | refine AWP.exit ?_ | refine AWP.skip ?_) | refine AWP.drawn rfl (by kernel_rfl) ?_ | refine AWP.cond rfl ?_ ?_) | with_reducible refine ev_nil ?_ | ((first | ((with_reducible show evOps _ _ _ _ _ _); (first | refine ev_step rfl ?_ | refine ev_undef rfl rfl rfl ?_); intro K hK) | ((with_reducible show EvOpen _ _ _ _ _ _ _); refine ev_open ?_; intro K hK) | ((with_reducible show SkOpen _ _ _ _ _ _ _); refine sk_open ?_; intro K hK) | ((with_reducible show callK _ _ _ _ _ _ _ _); first  | (refine call_scalar (isPicture_fn l hl) (Nat.le_of_ble_eq_true rfl) rfl ?_))); simp only [evOp, evQ, withS, opd, kput, putS, upd, lookup, argsK, bringIn, bring, Res.list, Res.slot, slotsOf, List.reverse_cons, List.reverse_nil, List.nil_append, Nat.reduceEqDiff, Nat.reduceLT, ↓reduceIte, eq_self, true_and]) | refine ev_guard rfl rfl rfl ?_ ?_ | ((with_reducible show retQ _ _ _ _); simp only [retQ, retOk, getL, lookup, Option.map_some, fitsL, fits, ND, srcs, Res.list, VE, Nat.reduceEqDiff, ↓reduceIte, and_true]) | (with_reducible refine hK _ ?_; clear hK K) | (with_reducible refine And.intro ?_ ?_) | (with_reducible intro hc; try simp only [eq_self] at hc) | omega)

end Go.Proofs.Yteapdildbfimnaa
namespace Go.Proofs.Yteapdildbfimnaa
open Go.RowKit Go.Proofs
set_option linter.unusedSimpArgs false
set_option linter.unusedVariables false

theorem z_part : zeroOf Try.prog 100 = some [.int .u8 0, .int .i64 0] := by kernel_rfl
theorem pl_part : placesOf Try.prog 100 = some [(0, 1), (1, 1)] := by kernel_rfl
theorem c_part : cellsIn Try.prog 100 = some (some 2) := by kernel_rfl
theorem fp0 : fieldIn Try.prog 100 0 = some (0, none) := by kernel_rfl
theorem fp1 : fieldIn Try.prog 100 1 = some (1, none) := by kernel_rfl
theorem z_pt : zeroOf Try.prog 133 = some [.int .i64 0, .int .i64 0] := by kernel_rfl
theorem pl_pt : placesOf Try.prog 133 = some [(0, 1), (1, 1)] := by kernel_rfl
theorem c_pt : cellsIn Try.prog 133 = some (some 2) := by kernel_rfl
theorem fq0 : fieldIn Try.prog 133 0 = some (0, none) := by kernel_rfl
theorem fq1 : fieldIn Try.prog 133 1 = some (1, none) := by kernel_rfl
theorem sz_pts : elemSz Try.prog 134 = some 2 := by kernel_rfl
theorem ei_pts : elemInfo Try.prog 134 = some (133, [.int .i64 0, .int .i64 0]) := by kernel_rfl
theorem ea_pts : elemAgg Try.prog 134 = some true := by kernel_rfl
theorem sz_parts : elemSz Try.prog 96 = some 2 := by kernel_rfl
theorem ei_parts : elemInfo Try.prog 96 = some (100, [.int .u8 0, .int .i64 0]) := by kernel_rfl
theorem ea_parts : elemAgg Try.prog 96 = some true := by kernel_rfl
theorem u_mpt : Try.prog.underlying 131 = some (.map 133 4) := by kernel_rfl
theorem zv_bool (w : World) : (zeroValue 4).run Try.prog w = .ok (.bool false) w := by kernel_rfl

/-- A place as a value that is read. -/
abbrev ptV (q : Pt) : V := .agg 2 fun i => vi (if i = 0 then q.1 else q.2)
def encP (q : Pt) : Value := .agg #[.int .i64 q.1, .int .i64 q.2]

theorem ve_agg2 {f g : Nat → V} (h0 : f 0 = g 0) (h1 : f 1 = g 1) : VE (.agg 2 f) (.agg 2 g) := ⟨rfl, fun i hi => by
  rcases (show i = 0 ∨ i = 1 by omega) with rfl | rfl
  · rw [h0]; exact VE.rfl' _
  · rw [h1]; exact VE.rfl' _⟩

theorem plus_fn (p q : Pt) (hp : -1000 ≤ p.1 ∧ p.1 ≤ 1000 ∧ -1000 ≤ p.2 ∧ p.2 ≤ 1000) (hq : -1000 ≤ q.1 ∧ q.1 ≤ 1000 ∧ -1000 ≤ q.2 ∧ q.2 ≤ 1000) : Fn Try.prog 121 [ptV p, ptV q] (.one (.pv (ptV (p.1 + q.1, p.2 + q.2)))) := by
  refine Fn.of_body_cell Try.call121 Try.func121 rfl Try.ntmps121 (t := 4) (ty := 133) rfl c_pt (by simp) (fun N => ?_)
  repeat' (first | (with_reducible first | refine then_normal ?_ | refine then_ret ?_ | refine then_exit ?_ | refine block_normal ?_ | refine block_ret ?_) | ((with_reducible show blockQ _ _ _ _); first | refine block_exit ?_ | refine block_exit_ne rfl ?_) | ((with_reducible show AWP _ _ _ _ _); first | (with_reducible first | refine AWP.seq ?_ | refine AWP.block ?_ | refine AWP.region ?_ | refine AWP.ret ?_ | refine AWP.exit ?_ | refine AWP.skip ?_) | refine AWP.drawn rfl (by kernel_rfl) ?_ | refine AWP.cond rfl ?_ ?_) | with_reducible refine ev_nil ?_ | ((first | ((with_reducible show evOps _ _ _ _ _ _); (first | refine ev_step rfl ?_ | refine ev_undef rfl rfl rfl ?_); intro K hK) | ((with_reducible show EvOpen _ _ _ _ _ _ _); refine ev_open ?_; intro K hK) | ((with_reducible show SkOpen _ _ _ _ _ _ _); refine sk_open ?_; intro K hK) | ((with_reducible show callK _ _ _ _ _ _ _ _); first | fail)); simp only [evOp, oldZ, evQ, evB, capsK, dynK, tabV, bytesK, eqStK, vInt, binK, withS, opd, kput, putS, upd, lookup, skipOp, argsK, loadOwn, bringIn, bring, Res.list, Res.slot, slotsOf, InK_i64, appendK, srcK, growK, storeK, frz, storeV, setBlk, makeK, newBlk, boxV, allocK, buildK, partsK, buildSliceK, plSlice, cutK, boundK, V.one, Value.oneCell', List.set_cons_zero, List.set_cons_succ, sz_ints, c_int, ei_ints, ea_ints, u_bool, bints, u_int, sz_strs, c_string, ei_strs, ea_strs, u_string, sz_rows, c_ints, ei_rows, ea_rows, c_rows, sz_terms, ei_terms, ea_terms, c_term, fi0, fi1, fi2, z_term, pl_term, is_term, bs_bytes, ei_bytes, ea_bytes, sz_bytes, c_u8, u_u8, bstrs, brows, tf_0, tf_1, tf_2, tf_00, tf_01, tf_02, t3_0, t3_1, t3_2, bterms, retCell, retCell.cellOk, Nat.zero_le, lenB_is, byteI_is, InK_u8, z_part, pl_part, c_part, fp0, fp1, z_pt, pl_pt, c_pt, fq0, fq1, sz_pts, ei_pts, ea_pts, sz_parts, ei_parts, ea_parts, List.getElem?_cons_zero, List.getElem?_cons_succ, Option.bind_some, List.reverse_cons, List.reverse_nil, List.nil_append, List.cons_append, List.length_cons, List.length_nil, Nat.reduceEqDiff, Nat.reduceAdd, Nat.reduceLT, Nat.reduceLeDiff, Nat.reduceMul, Nat.mul_one, Nat.one_mul, Nat.zero_mul, Nat.add_zero, Nat.zero_add, Nat.sub_zero, Nat.mod_one, Nat.not_lt_zero, List.getD_cons_zero, ↓reduceIte, if_true, if_false, eq_self, true_and, and_true, Bool.not_true, Bool.not_false, Bool.true_eq_false, Bool.false_eq_true, false_implies, forall_const, implies_true, Int.toNat_natCast, Int.toNat_zero, Int.toNat_one, Option.isSome_some]) | refine ev_guard rfl rfl rfl ?_ ?_ | ((with_reducible show retQ _ _ _ _); simp only [retQ, retOk, getL, lookup, Option.map_some, fitsL, fits, ND, srcs, Res.list, VE, List.getElem?_cons_zero, List.getElem?_cons_succ, Value.bool.injEq, Value.int.injEq, Nat.reduceEqDiff, ↓reduceIte, and_true, true_and]) | (with_reducible refine hK _ ?_; clear hK K) | (with_reducible refine And.intro ?_ ?_) | (with_reducible intro hc; try simp only [decide_eq_true_eq, decide_eq_false_iff_not, beq_iff_eq, beq_eq_false_iff_ne, bne_iff_ne, bne_eq_false_iff_eq, Bool.not_eq_true', Bool.not_eq_false', Bool.not_true, Bool.not_false, Int.not_lt, Int.not_le, gt_iff_lt, ge_iff_le, ne_eq, Decidable.not_not, reduceCtorEq, inB_true, inB_false, finB_true, finB_false, not_true_eq_false, eqB_refl, Bool.true_eq_false] at hc) | omega)
  all_goals first
    | omega
    | (rename_i i; rcases (show i = 0 ∨ i = 1 by omega) with rfl | rfl <;> rfl)
    | (refine ⟨by simp, fun i hi => ?_⟩; rcases (show i = 0 ∨ i = 1 by omega) with rfl | rfl <;> exact VE.of_eq rfl)
    | trace_state
theorem plus_at {f g : Nat → V} (p q : Pt) (hf0 : f 0 = vi p.1) (hf1 : f 1 = vi p.2) (hg0 : g 0 = vi q.1) (hg1 : g 1 = vi q.2) (hp : -1000 ≤ p.1 ∧ p.1 ≤ 1000 ∧ -1000 ≤ p.2 ∧ p.2 ≤ 1000) (hq : -1000 ≤ q.1 ∧ q.1 ≤ 1000 ∧ -1000 ≤ q.2 ∧ q.2 ≤ 1000) :
    Fn Try.prog 121 [.agg 2 f, .agg 2 g] (.one (.pv (ptV (p.1 + q.1, p.2 + q.2)))) :=
  (plus_fn p q hp hq).of_ve ⟨ve_agg2 (by rw [hf0]; rfl) (by rw [hf1]; rfl), ve_agg2 (by rw [hg0]; rfl) (by rw [hg1]; rfl), trivial⟩

theorem isv_pt {f : Nat → V} (q : Pt) (h0 : f 0 = vi q.1) (h1 : f 1 = vi q.2) : IsV (.agg 2 f) (encP q) := by
  rintro w S x ⟨cs, rfl, hn, hc⟩
  obtain ⟨x0, e0, r0⟩ := hc 0 (by omega)
  obtain ⟨x1, e1, r1⟩ := hc 1 (by omega)
  rw [h0] at r0
  rw [h1] at r1
  obtain rfl : x0 = _ := r0
  obtain rfl : x1 = _ := r1
  unfold encP
  congr 1
  apply Array.ext_getElem?
  intro i
  rcases (show i = 0 ∨ i = 1 ∨ 2 ≤ i by omega) with rfl | rfl | hi
  · rw [e0]; rfl
  · rw [e1]; rfl
  · rw [Array.getElem?_eq_none (by omega), Array.getElem?_eq_none (by simpa using hi)]

theorem eq_pt (q p : Pt) (w : World) : (Op.equal 133 (encP q) (encP p)).run Try.prog w = .ok (decide (p = q)) w := by
  obtain ⟨q1, q2⟩ := q
  obtain ⟨p1, p2⟩ := p
  have e : Op.equal 133 (encP (q1, q2)) (encP (p1, p2)) = Op.equalIn (9999 + 1) 133 (encP (q1, q2)) (encP (p1, p2)) := rfl
  rw [e]
  unfold encP
  rw [run_equalIn_struct w 9999 133 _ _ (by kernel_rfl) (by kernel_rfl)]
  by_cases h1 : q1 = p1 <;> by_cases h2 : q2 = p2 <;> simp [go_sem, h1, h2] <;> omega
theorem ask_pt (k : Pt) (w : World) : ∀ (es : List MapEntry) (ks : List Pt) (i : Nat), es.map (·.key) = ks.map encP → (Instr.findAsking 133 (encP k) es i).run Try.prog w = .ok (findP k ks es i) w
  | [], ks, i, h => by cases ks <;> rfl
  | e :: es, [], i, h => by simp at h
  | e :: es, p :: ks, i, h => by
    simp only [List.map_cons, List.cons.injEq] at h
    unfold Instr.findAsking
    rw [h.1]
    simp only [Sem.run_bind, eq_pt, Result.andThen_ok]
    show _ = Result.ok (if p = k then _ else _) w
    by_cases e : p = k
    · rw [if_pos (decide_eq_true e), if_pos e]; rfl
    · rw [if_neg (by simpa using e), if_neg e]; exact ask_pt k w es ks (i + 1) h.2
theorem key_pt : KeyT Try.prog 133 encP where
  find k es ks w h := by
    obtain ⟨fs, hu⟩ : ∃ fs, Try.prog.underlying 133 = some (.struct fs) := ⟨_, Try.underlying133⟩
    unfold Instr.findKey
    simp only [Sem.run_bind, run_underlying hu, Result.andThen_ok]
    cases es with
    | nil =>
      cases ks with
      | nil => rfl
      | cons p ks => simp at h
    | cons e es =>
      have : Instr.findNow (.struct fs) (encP k) (e :: es) 0 = none := by
        unfold Instr.findNow Instr.sameNow
        rfl
      rw [this]
      exact ask_pt k w _ _ 0 h
  chk b k w := by
    obtain ⟨k1, k2⟩ := k
    kernel_rfl
  bits k := by
    obtain ⟨k1, k2⟩ := k
    simp [encP, Instr.sameBits]
end Go.Proofs.Yteapdildbfimnaa
