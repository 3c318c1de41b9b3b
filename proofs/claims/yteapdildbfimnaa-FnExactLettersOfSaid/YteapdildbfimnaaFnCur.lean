/- The cursor's own functions. No conditions but that it has not been moved 2^40 times. -/
import Derived.Test.YteapdildbfimnaaEngQ
import Derived.Test.YteapdildbfimnaaFnA
import Derived.WalkKit
import Derived.Lib.Walk
import Derived.Deep.QuietTactic
import Derived.BigQuiet
namespace Go.Proofs.Yteapdildbfimnaa
open Go.RowKit Go.Proofs
set_option linter.unusedSimpArgs false
set_option linter.unusedVariables false

theorem u64_wrap (n : Int) : 0 ≤ IntKind.u64.wrap n ∧ IntKind.u64.wrap n < 18446744073709551616 := by
  simp [IntKind.wrap, IntKind.bits, IntKind.signed]; omega

theorem and255 (x : Int) : 0 ≤ bits .and .u64 x 255 ∧ bits .and .u64 x 255 < 256 := by
  have h1 : (BitVec.ofInt IntKind.u64.bits x &&& BitVec.ofInt IntKind.u64.bits 255).toNat ≤ 255 := by
    rw [BitVec.toNat_and]
    exact Nat.le_trans Nat.and_le_right (by decide)
  unfold bits
  show 0 ≤ IntKind.u64.wrap _ ∧ IntKind.u64.wrap _ < 256
  generalize (BitVec.ofInt IntKind.u64.bits x &&& BitVec.ofInt IntKind.u64.bits 255).toNat = m at h1
  simp [IntKind.wrap, IntKind.bits, IntKind.signed]
  omega

theorem next_in (b : Nat) (cur : Array Value) (e : TypeId) (A : Addr) (n cap : Nat) (g p q : Int) (w : World) (hb : w.heap[b]? = some (.cells cur e (0, 0))) (h0 : cur[0]? = some (.slice (some A) n cap)) (h1 : cur[1]? = some (.int .i64 p)) (h2 : cur[2]? = some (.int .u64 q))
    (hp : 0 ≤ p ∧ p ≤ 1099511627776) (hq : 0 ≤ q ∧ q < 18446744073709551616) (hn : n ≤ 1099511627776) (hnp : p < n) (hg : w.cell? (A.add p.toNat) = some (.int .u8 g)) (hg2 : 0 ≤ g ∧ g < 256) :
    Calls Try.prog 144 #[.pointer (some ⟨b, 0, none⟩)] w fun e' w' => ∃ x q' : Int, (0 ≤ x ∧ x < 256) ∧ (0 ≤ q' ∧ q' < 18446744073709551616) ∧ e' = .returned (.int .i64 x) ∧ ∃ m m', w' = (((w.drewN m).setCell ⟨b, 1, none⟩ (.int .i64 (p + 1))).setCell ⟨b, 2, none⟩ (.int .u64 q')).drewN m' := by
  have c0 : w.cell? ⟨b, 0, none⟩ = some (.slice (some A) n cap) := cell_of_blk hb h0
  have c1 : w.cell? ⟨b, 1, none⟩ = some (.int .i64 p) := cell_of_blk hb h1
  have c2 : w.cell? ⟨b, 2, none⟩ = some (.int .u64 q) := cell_of_blk hb h2
  go_enter Try.func144, Try.ntmps144
  go_wp2
  have hlt : decide (p < (n : Int)) = true := decide_eq_true hnp
  have hle : decide (p + 1 ≤ (n : Int)) = true := decide_eq_true (by omega)
  have f1 : w.frozen? ⟨b, 1, none⟩ = false := by simp [World.frozen?, hb]
  have f2 : w.frozen? ⟨b, 2, none⟩ = false := by simp [World.frozen?, hb]
  have hp0 : 0 ≤ p := hp.1
  go_quiet (fail)
  go_wp2
  go_quiet (fail)
  go_wp2
  go_quiet (fail)
  go_wp2
  go_ret
  exact ⟨g, _, hg2, u64_wrap _, rfl, _, _, rfl⟩

theorem next_out (b : Nat) (cur : Array Value) (e : TypeId) (B : Option Addr) (n cap : Nat) (p q : Int) (w : World) (hb : w.heap[b]? = some (.cells cur e (0, 0))) (h0 : cur[0]? = some (.slice B n cap)) (h1 : cur[1]? = some (.int .i64 p)) (h2 : cur[2]? = some (.int .u64 q))
    (hp : 0 ≤ p ∧ p ≤ 1099511627776) (hq : 0 ≤ q ∧ q < 18446744073709551616) (hn : n ≤ 1099511627776) (hnp : ¬ p < n) :
    Calls Try.prog 144 #[.pointer (some ⟨b, 0, none⟩)] w fun e' w' => ∃ x q' : Int, (0 ≤ x ∧ x < 256) ∧ (0 ≤ q' ∧ q' < 18446744073709551616) ∧ e' = .returned (.int .i64 x) ∧ ∃ m m', w' = (((w.drewN m).setCell ⟨b, 1, none⟩ (.int .i64 (p + 1))).setCell ⟨b, 2, none⟩ (.int .u64 q')).drewN m' := by
  have c0 : w.cell? ⟨b, 0, none⟩ = some (.slice B n cap) := cell_of_blk hb h0
  have c1 : w.cell? ⟨b, 1, none⟩ = some (.int .i64 p) := cell_of_blk hb h1
  have c2 : w.cell? ⟨b, 2, none⟩ = some (.int .u64 q) := cell_of_blk hb h2
  go_enter Try.func144, Try.ntmps144
  go_wp2
  have hlt : decide (p < (n : Int)) = false := decide_eq_false (by omega)
  have hle : decide (p + 1 ≤ (n : Int)) = false := decide_eq_false (by omega)
  have f1 : w.frozen? ⟨b, 1, none⟩ = false := by simp [World.frozen?, hb]
  have f2 : w.frozen? ⟨b, 2, none⟩ = false := by simp [World.frozen?, hb]
  have hp0 : 0 ≤ p := hp.1
  go_quiet (fail)
  go_wp2
  go_quiet (fail)
  go_wp2
  go_ret
  refine ⟨_, _, ?_, u64_wrap _, rfl, _, _, rfl⟩
  have := and255 (IntKind.u64.wrap (IntKind.u64.wrap (IntKind.u64.wrap (q * 6364136223846793005)) + 1442695040888963407) / 1099511627776)
  generalize bits BinOp.and IntKind.u64 (IntKind.u64.wrap (IntKind.u64.wrap (IntKind.u64.wrap (q * 6364136223846793005)) + 1442695040888963407) / 1099511627776) 255 = y at *
  unfold wrap64
  omega

/-- The bytes that the cursor reads. -/
abbrev bytV (n : Nat) (g : Nat → Int) : V := .seq 1 n fun i => .val (.int .u8 (g i))

theorem moved_world {b : Nat} {cur : Array Value} {e : TypeId} {w w' : World} {m m' : Nat} {p' q' : Int} (hb : w.heap[b]? = some (.cells cur e (0, 0))) (hw : w' = (((w.drewN m).setCell ⟨b, 1, none⟩ (.int .i64 p')).setCell ⟨b, 2, none⟩ (.int .u64 q')).drewN m') :
    RebB b w { w with heap := w'.heap } ∧ Below w'.heap.size { w with heap := w'.heap } w' ∧ w'.heap[b]? = some (.cells ((cur.setIfInBounds 1 (.int .i64 p')).setIfInBounds 2 (.int .u64 q')) e (0, 0)) ∧ w'.heap.size = w.heap.size := by
  have hd : ∀ (v : World) (k : Nat), (v.drewN k).heap = v.heap := fun v k => by cases k <;> rfl
  have h1 : (w.drewN m).heap[b]? = some (.cells cur e (0, 0)) := by rw [hd]; exact hb
  have h2 : ((w.drewN m).setCell ⟨b, 1, none⟩ (.int .i64 p')).heap[b]? = some (.cells (cur.setIfInBounds 1 (.int .i64 p')) e (0, 0)) := setCell_at h1
  have h3 : (((w.drewN m).setCell ⟨b, 1, none⟩ (.int .i64 p')).setCell ⟨b, 2, none⟩ (.int .u64 q')).heap[b]? = some (.cells ((cur.setIfInBounds 1 (.int .i64 p')).setIfInBounds 2 (.int .u64 q')) e (0, 0)) := setCell_at h2
  have hH : w'.heap = (((w.drewN m).setCell ⟨b, 1, none⟩ (.int .i64 p')).setCell ⟨b, 2, none⟩ (.int .u64 q')).heap := by rw [hw, hd]
  have hS : w'.heap.size = w.heap.size := by rw [hH, setCell_size, setCell_size, hd]
  have hso : ∀ (v : World) (x : Addr) (y : Value), (v.setCell x y).os = v.os ∧ (v.setCell x y).tape = v.tape ∧ (v.setCell x y).output = v.output := fun v x y => ⟨rfl, rfl, rfl⟩
  have hdo : ∀ (v : World) (k : Nat), (v.drewN k).os = v.os ∧ (v.drewN k).tape = v.tape ∧ (v.drewN k).output = v.output := fun v k => ⟨rfl, rfl, rfl⟩
  refine ⟨⟨rfl, rfl, rfl, hS, fun j hj => ?_⟩, ⟨?_, ?_, ?_, Nat.le_refl _, fun _ _ => rfl⟩, ?_, hS⟩
  · show w'.heap[j]? = _
    rw [hH, Below.heap_setCell _ _ _ _ hj, Below.heap_setCell _ _ _ _ hj, hd]
  · rw [hw]; simp only [hdo, hso]
  · rw [hw]; simp only [hdo, hso]
  · rw [hw]; simp only [hdo, hso]
  · rw [hH]; exact h3

/-- Some number below 256. -/
theorem next_fn (b k n : Nat) (Z : Nat → Prop) (g : Nat → Int) (hk : k ≤ 1099511627776) (hn : n ≤ 1099511627776) (hg : ∀ i, i < n → 0 ≤ g i ∧ g i < 256) :
    FnC Try.prog 144 b k (k + 1) Z (bytV n g) [] (fun r => ∃ x : Int, (0 ≤ x ∧ x < 256) ∧ r = .one (.pv (vi x))) := by
  refine ⟨Try.call144, fun w u us hu hus => ?_⟩
  match us, hus with
  | [], _ =>
    obtain ⟨rfl, _, hz, cur, cv, p, q, e, hc, ⟨h0, h1, h2⟩, hp, hq, hr⟩ := hu
    obtain ⟨A, c, rfl, hcap, hcells⟩ := hr
    have fin : ∀ e' w', (∃ x q' : Int, (0 ≤ x ∧ x < 256) ∧ (0 ≤ q' ∧ q' < 18446744073709551616) ∧ e' = Ending.returned (.int .i64 x) ∧ ∃ m m', w' = (((w.drewN m).setCell ⟨b, 1, none⟩ (.int .i64 (p + 1))).setCell ⟨b, 2, none⟩ (.int .u64 q')).drewN m') →
        ∃ w1 r x φ, RebB b w w1 ∧ Rd w1 (fun _ => True) (.cur b (k + 1) Z (bytV n g)) (.pointer (some ⟨b, 0, none⟩)) ∧ (∃ x : Int, (0 ≤ x ∧ x < 256) ∧ r = Res.one (.pv (vi x))) ∧ NewL (fun Z => ∀ j, Z j → w.heap.size ≤ j) r.list ∧ e' = .returned x ∧ Heap w1 (fun _ => True) (bring r.list []).2 φ w' ∧ RdSlot w' (Stab w1 (fun _ => True) (bring r.list []).2 φ) φ (r.slot (bring r.list []).1) x := by
      rintro e' w' ⟨x, q', hx, hq', rfl, m, m', hw⟩
      obtain ⟨hR, hB, hblk, hsz⟩ := moved_world hc hw
      have c1 : 1 < cur.size := (Array.getElem?_eq_some_iff.1 h1).1
      have c2 : 2 < cur.size := (Array.getElem?_eq_some_iff.1 h2).1
      have hcur : Rd { w with heap := w'.heap } (fun _ => True) (.cur b (k + 1) Z (bytV n g)) (.pointer (some ⟨b, 0, none⟩)) := by
        refine ⟨rfl, trivial, fun j hj => ⟨trivial, ?_, (hz j hj).2.2⟩, _, _, p + 1, q', e, hblk, ⟨?_, ?_, ?_⟩, ⟨by omega, by omega⟩, hq', Rd.mono (S := Z) (fun j hj _ => ⟨hj, hR.oth j (hz j hj).2.2⟩) (bytV n g) (.slice A n c) ⟨A, c, rfl, hcap, hcells⟩⟩
        · show j < w'.heap.size
          rw [hsz]; exact (hz j hj).2.1
        · rw [Array.getElem?_setIfInBounds_ne (by decide), Array.getElem?_setIfInBounds_ne (by decide)]; exact h0
        · rw [Array.getElem?_setIfInBounds_ne (by decide)]; simp [c1]
        · simp [c2]
      exact ⟨_, .one (.pv (vi x)), .int .i64 x, [], hR, hcur, ⟨x, hx, rfl⟩, ⟨trivial, trivial⟩, rfl, ⟨rfl, hB, fun id blk hi => by simp [bring, Res.list] at hi, fun i j bi bj b z z' hi => by simp [bring, Res.list] at hi⟩, rfl⟩
    by_cases hpn : p < n
    · obtain ⟨b', off, rfl, hS, hcl⟩ := hcells (by omega)
      obtain ⟨y, hy, hy2⟩ := hcl p.toNat (by omega)
      have hy2 : y = .int .u8 (g p.toNat) := hy2
      subst hy2
      exact (next_in b cur e ⟨b', off, none⟩ n c (g p.toNat) p q w hc h0 h1 h2 ⟨hp.1, by omega⟩ hq hn hpn (by rw [add_none]; exact hy) (hg _ (by omega))).mono fin
    · exact (next_out b cur e A n c p q w hc h0 h1 h2 ⟨hp.1, by omega⟩ hq hn hpn).mono fin

open Go.RowKit Go.Proofs
set_option linter.unusedSimpArgs false
set_option linter.unusedVariables false
set_option maxRecDepth 20000

/-- Some integer of which p holds. -/
def someI (p : Int → Prop) : Res → Prop := fun r => ∃ x : Int, p x ∧ r = .one (.pv (vi x))
theorem someI.shape {p : Int → Prop} (r : Res) (h : someI p r) : r.shape 1 = true := by obtain ⟨x, _, rfl⟩ := h; rfl

def someB : Res → Prop := fun r => ∃ x : Bool, r = .one (.pv (vb x))
theorem someB.shape (r : Res) (h : someB r) : r.shape 1 = true := by obtain ⟨x, rfl⟩ := h; rfl

theorem retC_int {t N b k' : Nat} {Z : Nat → Prop} {c : V} {p : Int → Prop} {s : ASt} {x : Int} (hl : lookup s.σ t = some (sc (.int .i64 x))) {j : Nat} (hc : lookup s.σ 0 = some (.one (.pv (.cur b j Z c)))) (hj : j ≤ k') (hp : p x) : retC [t] N (someI p) b k' Z c .ret s := by
  refine ⟨⟨j, hc, hj⟩, _, ⟨x, hp, rfl⟩, ⟨trivial, trivial⟩, ?_⟩
  unfold retOk
  simp only [getL, hl, Option.map_some, Res.list, fitsL, fits, VE, srcs, ND, and_true]
theorem retC_bool {t N b k' : Nat} {Z : Nat → Prop} {c : V} {s : ASt} {x : Bool} (hl : lookup s.σ t = some (sc (.bool x))) {j : Nat} (hc : lookup s.σ 0 = some (.one (.pv (.cur b j Z c)))) (hj : j ≤ k') : retC [t] N someB b k' Z c .ret s := by
  refine ⟨⟨j, hc, hj⟩, _, ⟨x, rfl⟩, ⟨trivial, trivial⟩, ?_⟩
  unfold retOk
  simp only [getL, hl, Option.map_some, Res.list, fitsL, fits, VE, srcs, ND, and_true]

/-- The bytes are bytes, and no more than 2^40. -/
structure BytOk (m : Nat) (g : Nat → Int) : Prop where
  len : m ≤ 1099511627776
  byte : ∀ i, i < m → 0 ≤ g i ∧ g i < 256

section
variable {b m : Nat} {Z : Nat → Prop} {g : Nat → Int}

theorem next2_fn (k : Nat) (hk : k ≤ 549755813888) (hb : BytOk m g) : FnC Try.prog 144 b k (k + 1) Z (bytV m g) [] (someI fun x => 0 ≤ x ∧ x < 256) := next_fn b k m Z g (by omega) hb.len hb.byte

theorem pick_fn (k : Nat) (n : Int) (hk : k ≤ 549755813880) (hb : BytOk m g) : FnC Try.prog 97 b k (k + 2) Z (bytV m g) [vi n] (someI fun x => 0 ≤ x ∧ (x < n ∨ x = 0)) := by
  refine FnC.of_body Try.call97 Try.func97 rfl Try.ntmps97 (ts := [4]) rfl (by simp) (someI.shape) (fun N cx hcx hbN => ?_)
  repeat' (first | ((with_reducible show evNx _ _ _ _ _ _); first | (with_reducible refine nx_done ?_) | (refine nx_one rfl ?_) | (refine nx_alt rfl ?_ ?_) | (with_reducible refine nx_st ?_)) | ((with_reducible show evSx _ _ _ _ _ _); first | (with_reducible refine sx_done ?_) | (with_reducible refine sx_st ?_) | (with_reducible refine sx_op ?_)) | ((with_reducible show evTake _ _ _ _ _); with_reducible refine take_nil ?_) | ((with_reducible show evSy _ _ _ _ _ _ _); first | (with_reducible refine sy_done ?_) | (refine sy_last rfl ?_) | (refine sy_one (by decide) rfl ?_) | (refine sy_alt (by decide) rfl ?_ ?_) | (with_reducible refine sy_st ?_)) | ((with_reducible show StK _ _ _); first | fail) | (with_reducible first | refine then_normal ?_ | refine then_ret ?_ | refine then_exit ?_ | refine block_normal ?_ | refine block_ret ?_) | ((with_reducible show blockQ _ _ _ _); first | refine block_exit ?_ | refine block_exit_ne rfl ?_) | ((with_reducible show AWP _ _ _ _ _); first | (refine AWP.region_sx (id := 3) [.op, .op, .op] ?_) | (refine AWP.region_sx (id := 5) [.op, .op, .op, .op, .op, .op] ?_) | (with_reducible first | refine AWP.seq ?_ | refine AWP.block ?_ | refine AWP.region ?_ | refine AWP.ret ?_ | refine AWP.exit ?_ | refine AWP.skip ?_) | refine AWP.drawn rfl (by kernel_rfl) ?_ | refine AWP.cond rfl ?_ ?_) | with_reducible refine ev_nil ?_ | ((first | ((with_reducible show evNx _ _ _ _ _ _); refine nx_take rfl ?_; intro K hK) | ((with_reducible show Ax _ _ _ _ _); first | ((first | refine ax_callC (f := 144) ?_); refine callC_go (x := _) (xs := _) rfl rfl rfl (by first | exact .inl (by rw [hcx]; exact rfl) | exact .inr (by assumption)) (by (try simp only [okS, okSl, okH, eq_self, true_and, and_true, and_self]); repeat' (first | exact trivial | exact rfl | exact disj_cut | exact disj_lt (by assumption) | assumption | omega | refine And.intro ?_ ?_ | (intro i hi; first | exact trivial | (split <;> first | exact trivial | exact disj_lt (by assumption) | exact disj_cut) | (repeat' split) <;> exact trivial))) (by (try simp only [okS, okSl, okH, eq_self, true_and, and_true, and_self]); repeat' (first | exact trivial | exact rfl | exact disj_cut | exact disj_lt (by assumption) | assumption | omega | refine And.intro ?_ ?_ | (intro i hi; first | exact trivial | (split <;> first | exact trivial | exact disj_lt (by assumption) | exact disj_cut) | (repeat' split) <;> exact trivial))) (fun K1 hK1 => by simp only [argsC, opd, lookup, Nat.zero_add, Nat.reduceEqDiff, ↓reduceIte, List.getElem?_cons_zero, List.getElem?_cons_succ, List.reverse_cons, List.reverse_nil, List.nil_append, List.cons_append]; repeat' (first | exact hK1 | exact trivial | exact disj_cut | assumption | omega | refine And.intro ?_ ?_)) ?_; first | (refine ⟨_, _, next2_fn _ (by omega) hb, ?_⟩; rintro _ ⟨x, hx, rfl⟩ hnewZ; clear hnewZ)) | (refine ax_op rfl ?_; intro K hK)) | ((with_reducible show evTake _ _ _ _ _); refine take_step rfl ?_; intro K hK) | ((with_reducible show evSy _ _ _ _ _ _ _); refine sy_take rfl ?_; intro K hK) | ((with_reducible show AxB _ _ _ _ _); first | (refine axb_op rfl rfl ?_; intro K hK)) | ((with_reducible show evOps _ _ _ _ _ _); (first | refine ev_step rfl ?_ | refine ev_undef rfl rfl rfl ?_); intro K hK) | ((with_reducible show EvOpen _ _ _ _ _ _ _); refine ev_open ?_; intro K hK) | ((with_reducible show SkOpen _ _ _ _ _ _ _); refine sk_open ?_; intro K hK) | ((with_reducible show callK _ _ _ _ _ _ _ _); first  | fail)); simp only [evOp, evQ, binK, withS, opd, kput, putS, upd, lookup, bringIn, bring, Res.list, Res.slot, slotsOf, InK_i64, swpS, swSl, oldC, List.map_cons, List.map_nil, Nat.reduceEqDiff, Nat.reduceLT, Nat.zero_add, ↓reduceIte, eq_self, true_and]) | refine ev_guard rfl rfl rfl ?_ ?_ | ((with_reducible show retQ _ _ _ _); simp only [eq_self]) | (with_reducible refine hK _ ?_; clear hK K) | (with_reducible refine And.intro ?_ ?_) | (with_reducible intro hc; try simp only [decide_eq_true_eq, decide_eq_false_iff_not, Int.not_lt, Int.not_le, gt_iff_lt] at hc) | omega)
  all_goals first
    | (refine retC_int rfl rfl (by omega) ?_; exact ⟨by omega, .inr rfl⟩)
    | (refine retC_int rfl rfl (by omega) ?_; exact ⟨Int.emod_nonneg _ (by omega), .inl (Int.emod_lt_of_pos _ (by omega))⟩)
    | trace_state

theorem one_fn (k : Nat) (n : Int) (hk : k ≤ 549755813880) (hb : BytOk m g) : FnC Try.prog 96 b k (k + 2) Z (bytV m g) [vi n] someB := by
  refine FnC.of_body Try.call96 Try.func96 rfl Try.ntmps96 (ts := [4]) rfl (by simp) (someB.shape) (fun N cx hcx hbN => ?_)
  repeat' (first | ((with_reducible show evNx _ _ _ _ _ _); first | (with_reducible refine nx_done ?_) | (refine nx_one rfl ?_) | (refine nx_alt rfl ?_ ?_) | (with_reducible refine nx_st ?_)) | ((with_reducible show evSx _ _ _ _ _ _); first | (with_reducible refine sx_done ?_) | (with_reducible refine sx_st ?_) | (with_reducible refine sx_op ?_)) | ((with_reducible show evTake _ _ _ _ _); with_reducible refine take_nil ?_) | ((with_reducible show evSy _ _ _ _ _ _ _); first | (with_reducible refine sy_done ?_) | (refine sy_last rfl ?_) | (refine sy_one (by decide) rfl ?_) | (refine sy_alt (by decide) rfl ?_ ?_) | (with_reducible refine sy_st ?_)) | ((with_reducible show StK _ _ _); first | fail) | (with_reducible first | refine then_normal ?_ | refine then_ret ?_ | refine then_exit ?_ | refine block_normal ?_ | refine block_ret ?_) | ((with_reducible show blockQ _ _ _ _); first | refine block_exit ?_ | refine block_exit_ne rfl ?_) | ((with_reducible show AWP _ _ _ _ _); first | (refine AWP.region_sx (id := 1) [.op, .op, .op, .op, .op] ?_) | (with_reducible first | refine AWP.seq ?_ | refine AWP.block ?_ | refine AWP.region ?_ | refine AWP.ret ?_ | refine AWP.exit ?_ | refine AWP.skip ?_) | refine AWP.drawn rfl (by kernel_rfl) ?_ | refine AWP.cond rfl ?_ ?_) | with_reducible refine ev_nil ?_ | ((first | ((with_reducible show evNx _ _ _ _ _ _); refine nx_take rfl ?_; intro K hK) | ((with_reducible show Ax _ _ _ _ _); first | ((first | refine ax_callC (f := 97) ?_); refine callC_go (x := _) (xs := _) rfl rfl rfl (by first | exact .inl (by rw [hcx]; exact rfl) | exact .inr (by assumption)) (by (try simp only [okS, okSl, okH, eq_self, true_and, and_true, and_self]); repeat' (first | exact trivial | exact rfl | exact disj_cut | exact disj_lt (by assumption) | assumption | omega | refine And.intro ?_ ?_ | (intro i hi; first | exact trivial | (split <;> first | exact trivial | exact disj_lt (by assumption) | exact disj_cut) | (repeat' split) <;> exact trivial))) (by (try simp only [okS, okSl, okH, eq_self, true_and, and_true, and_self]); repeat' (first | exact trivial | exact rfl | exact disj_cut | exact disj_lt (by assumption) | assumption | omega | refine And.intro ?_ ?_ | (intro i hi; first | exact trivial | (split <;> first | exact trivial | exact disj_lt (by assumption) | exact disj_cut) | (repeat' split) <;> exact trivial))) (fun K1 hK1 => by simp only [argsC, opd, lookup, Nat.zero_add, Nat.reduceEqDiff, ↓reduceIte, List.getElem?_cons_zero, List.getElem?_cons_succ, List.reverse_cons, List.reverse_nil, List.nil_append, List.cons_append]; repeat' (first | exact hK1 | exact trivial | exact disj_cut | assumption | omega | refine And.intro ?_ ?_)) ?_; first | (refine ⟨_, _, pick_fn _ _ (by omega) hb, ?_⟩; rintro _ ⟨x, hx, rfl⟩ hnewZ; clear hnewZ)) | (refine ax_op rfl ?_; intro K hK)) | ((with_reducible show evTake _ _ _ _ _); refine take_step rfl ?_; intro K hK) | ((with_reducible show evSy _ _ _ _ _ _ _); refine sy_take rfl ?_; intro K hK) | ((with_reducible show AxB _ _ _ _ _); first | (refine axb_op rfl rfl ?_; intro K hK)) | ((with_reducible show evOps _ _ _ _ _ _); (first | refine ev_step rfl ?_ | refine ev_undef rfl rfl rfl ?_); intro K hK) | ((with_reducible show EvOpen _ _ _ _ _ _ _); refine ev_open ?_; intro K hK) | ((with_reducible show SkOpen _ _ _ _ _ _ _); refine sk_open ?_; intro K hK) | ((with_reducible show callK _ _ _ _ _ _ _ _); first  | fail)); simp only [evOp, evQ, binK, withS, opd, kput, putS, upd, lookup, bringIn, bring, Res.list, Res.slot, slotsOf, swpS, swSl, oldC, List.map_cons, List.map_nil, Nat.reduceEqDiff, Nat.reduceLT, Nat.zero_add, ↓reduceIte, eq_self, true_and]) | refine ev_guard rfl rfl rfl ?_ ?_ | ((with_reducible show retQ _ _ _ _); simp only [eq_self]) | (with_reducible refine hK _ ?_; clear hK K) | (with_reducible refine And.intro ?_ ?_) | (with_reducible intro hc; try simp only [eq_self] at hc) | omega)
  all_goals first
    | exact retC_bool rfl rfl (by omega)
    | trace_state

/-- One of a list's numbers. -/
theorem among_fn (k n : Nat) (f : Nat → V) (l : Nat → Int) (p : Int → Prop) (hk : k ≤ 549755813880) (hn : 1 ≤ n ∧ n ≤ 200) (hb : BytOk m g) (hf : ∀ i, i < n → f i = vi (l i)) (hp : ∀ i, i < n → p (l i)) : FnC Try.prog 88 b k (k + 2) Z (bytV m g) [.seq 1 n f] (someI p) := by
  refine FnC.of_body Try.call88 Try.func88 rfl Try.ntmps88 (ts := [4]) rfl (by simp) (someI.shape) (fun N cx hcx hbN => ?_)
  repeat' (first | ((with_reducible show evNx _ _ _ _ _ _); first | (with_reducible refine nx_done ?_) | (refine nx_one rfl ?_) | (refine nx_alt rfl ?_ ?_) | (with_reducible refine nx_st ?_)) | ((with_reducible show evSx _ _ _ _ _ _); first | (with_reducible refine sx_done ?_) | (with_reducible refine sx_st ?_) | (with_reducible refine sx_op ?_)) | ((with_reducible show evTake _ _ _ _ _); with_reducible refine take_nil ?_) | ((with_reducible show evSy _ _ _ _ _ _ _); first | (with_reducible refine sy_done ?_) | (refine sy_last rfl ?_) | (refine sy_one (by decide) rfl ?_) | (refine sy_alt (by decide) rfl ?_ ?_) | (with_reducible refine sy_st ?_)) | ((with_reducible show StK _ _ _); first | fail) | (with_reducible first | refine then_normal ?_ | refine then_ret ?_ | refine then_exit ?_ | refine block_normal ?_ | refine block_ret ?_) | ((with_reducible show blockQ _ _ _ _); first | refine block_exit ?_ | refine block_exit_ne rfl ?_) | ((with_reducible show AWP _ _ _ _ _); first | (refine AWP.region_sx (id := 1) [.op, .op, .op, .op, .op, .op, .op, .op] ?_) | (with_reducible first | refine AWP.seq ?_ | refine AWP.block ?_ | refine AWP.region ?_ | refine AWP.ret ?_ | refine AWP.exit ?_ | refine AWP.skip ?_) | refine AWP.drawn rfl (by kernel_rfl) ?_ | refine AWP.cond rfl ?_ ?_) | with_reducible refine ev_nil ?_ | ((first | ((with_reducible show evNx _ _ _ _ _ _); refine nx_take rfl ?_; intro K hK) | ((with_reducible show Ax _ _ _ _ _); first | ((first | refine ax_callC (f := 97) ?_); refine callC_go (x := _) (xs := _) rfl rfl rfl (by first | exact .inl (by rw [hcx]; exact rfl) | exact .inr (by assumption)) (by (try simp only [okS, okSl, okH, eq_self, true_and, and_true, and_self]); repeat' (first | exact trivial | exact rfl | exact disj_cut | exact disj_lt (by assumption) | assumption | omega | refine And.intro ?_ ?_ | (intro i hi; first | exact trivial | (split <;> first | exact trivial | exact disj_lt (by assumption) | exact disj_cut) | (repeat' split) <;> exact trivial))) (by (try simp only [okS, okSl, okH, eq_self, true_and, and_true, and_self]); repeat' (first | exact trivial | exact rfl | exact disj_cut | exact disj_lt (by assumption) | assumption | omega | refine And.intro ?_ ?_ | (intro i hi; first | exact trivial | (split <;> first | exact trivial | exact disj_lt (by assumption) | exact disj_cut) | (repeat' split) <;> exact trivial))) (fun K1 hK1 => by simp only [argsC, opd, lookup, Nat.zero_add, Nat.reduceEqDiff, ↓reduceIte, List.getElem?_cons_zero, List.getElem?_cons_succ, List.reverse_cons, List.reverse_nil, List.nil_append, List.cons_append]; repeat' (first | exact hK1 | exact trivial | exact disj_cut | assumption | omega | refine And.intro ?_ ?_)) ?_; first | (refine ⟨_, _, pick_fn _ _ (by omega) hb, ?_⟩; rintro _ ⟨x, hx, rfl⟩ hnewZ; clear hnewZ)) | (refine ax_op rfl ?_; intro K hK)) | ((with_reducible show evTake _ _ _ _ _); refine take_step rfl ?_; intro K hK) | ((with_reducible show evSy _ _ _ _ _ _ _); refine sy_take rfl ?_; intro K hK) | ((with_reducible show AxB _ _ _ _ _); first | (refine axb_op rfl rfl ?_; intro K hK)) | ((with_reducible show evOps _ _ _ _ _ _); (first | refine ev_step rfl ?_ | refine ev_undef rfl rfl rfl ?_); intro K hK) | ((with_reducible show EvOpen _ _ _ _ _ _ _); refine ev_open ?_; intro K hK) | ((with_reducible show SkOpen _ _ _ _ _ _ _); refine sk_open ?_; intro K hK) | ((with_reducible show callK _ _ _ _ _ _ _ _); first  | fail)); simp only [evOp, evQ, evB, withS, opd, kput, putS, upd, lookup, bringIn, bring, Res.list, Res.slot, slotsOf, sz_ints, c_int, swpS, swSl, oldC, List.map_cons, List.map_nil, Nat.reduceEqDiff, Nat.reduceLT, Nat.mul_one, Nat.add_zero, Nat.zero_add, ↓reduceIte, eq_self, true_and, Option.isSome_some]) | refine ev_guard rfl rfl rfl ?_ ?_ | ((with_reducible show retQ _ _ _ _); simp only [eq_self]) | (with_reducible refine hK _ ?_; clear hK K) | (with_reducible refine And.intro ?_ ?_) | (with_reducible intro hc; try simp only [eq_self] at hc) | omega)
  all_goals first
    | (refine retC_int (x := l x.toNat) ?_ rfl (by omega) (hp _ (by omega))
       show some (Slot.one (SV.pv (oldZ _ (f x.toNat)))) = _
       rw [hf _ (by omega)]; rfl)
    | trace_state

theorem among1_fn (k : Nat) (f : Nat → V) (a0 : Int) (p : Int → Prop) (hk : k ≤ 549755813880) (hb : BytOk m g) (h0 : f 0 = vi a0) (hp : p a0) : FnC Try.prog 88 b k (k + 2) Z (bytV m g) [.seq 1 1 f] (someI p) :=
  among_fn k 1 f (fun i => [a0].getD i 0) p hk (by omega) hb (fun i hi => by
    match i, hi with
    | 0, _ => exact h0) fun i hi => by
    match i, hi with
    | 0, _ => exact hp

theorem among2_fn (k : Nat) (f : Nat → V) (a0 a1 : Int) (p : Int → Prop) (hk : k ≤ 549755813880) (hb : BytOk m g) (h0 : f 0 = vi a0) (h1 : f 1 = vi a1) (hp : p a0 ∧ p a1) : FnC Try.prog 88 b k (k + 2) Z (bytV m g) [.seq 1 2 f] (someI p) :=
  among_fn k 2 f (fun i => [a0, a1].getD i 0) p hk (by omega) hb (fun i hi => by
    match i, hi with
    | 0, _ => exact h0
    | 1, _ => exact h1) fun i hi => by
    match i, hi with
    | 0, _ => exact hp.1
    | 1, _ => exact hp.2

theorem among3_fn (k : Nat) (f : Nat → V) (a0 a1 a2 : Int) (p : Int → Prop) (hk : k ≤ 549755813880) (hb : BytOk m g) (h0 : f 0 = vi a0) (h1 : f 1 = vi a1) (h2 : f 2 = vi a2) (hp : p a0 ∧ p a1 ∧ p a2) : FnC Try.prog 88 b k (k + 2) Z (bytV m g) [.seq 1 3 f] (someI p) :=
  among_fn k 3 f (fun i => [a0, a1, a2].getD i 0) p hk (by omega) hb (fun i hi => by
    match i, hi with
    | 0, _ => exact h0
    | 1, _ => exact h1
    | 2, _ => exact h2) fun i hi => by
    match i, hi with
    | 0, _ => exact hp.1
    | 1, _ => exact hp.2.1
    | 2, _ => exact hp.2.2

theorem among4_fn (k : Nat) (f : Nat → V) (a0 a1 a2 a3 : Int) (p : Int → Prop) (hk : k ≤ 549755813880) (hb : BytOk m g) (h0 : f 0 = vi a0) (h1 : f 1 = vi a1) (h2 : f 2 = vi a2) (h3 : f 3 = vi a3) (hp : p a0 ∧ p a1 ∧ p a2 ∧ p a3) : FnC Try.prog 88 b k (k + 2) Z (bytV m g) [.seq 1 4 f] (someI p) :=
  among_fn k 4 f (fun i => [a0, a1, a2, a3].getD i 0) p hk (by omega) hb (fun i hi => by
    match i, hi with
    | 0, _ => exact h0
    | 1, _ => exact h1
    | 2, _ => exact h2
    | 3, _ => exact h3) fun i hi => by
    match i, hi with
    | 0, _ => exact hp.1
    | 1, _ => exact hp.2.1
    | 2, _ => exact hp.2.2.1
    | 3, _ => exact hp.2.2.2

theorem among5_fn (k : Nat) (f : Nat → V) (a0 a1 a2 a3 a4 : Int) (p : Int → Prop) (hk : k ≤ 549755813880) (hb : BytOk m g) (h0 : f 0 = vi a0) (h1 : f 1 = vi a1) (h2 : f 2 = vi a2) (h3 : f 3 = vi a3) (h4 : f 4 = vi a4) (hp : p a0 ∧ p a1 ∧ p a2 ∧ p a3 ∧ p a4) : FnC Try.prog 88 b k (k + 2) Z (bytV m g) [.seq 1 5 f] (someI p) :=
  among_fn k 5 f (fun i => [a0, a1, a2, a3, a4].getD i 0) p hk (by omega) hb (fun i hi => by
    match i, hi with
    | 0, _ => exact h0
    | 1, _ => exact h1
    | 2, _ => exact h2
    | 3, _ => exact h3
    | 4, _ => exact h4) fun i hi => by
    match i, hi with
    | 0, _ => exact hp.1
    | 1, _ => exact hp.2.1
    | 2, _ => exact hp.2.2.1
    | 3, _ => exact hp.2.2.2.1
    | 4, _ => exact hp.2.2.2.2

theorem among6_fn (k : Nat) (f : Nat → V) (a0 a1 a2 a3 a4 a5 : Int) (p : Int → Prop) (hk : k ≤ 549755813880) (hb : BytOk m g) (h0 : f 0 = vi a0) (h1 : f 1 = vi a1) (h2 : f 2 = vi a2) (h3 : f 3 = vi a3) (h4 : f 4 = vi a4) (h5 : f 5 = vi a5) (hp : p a0 ∧ p a1 ∧ p a2 ∧ p a3 ∧ p a4 ∧ p a5) : FnC Try.prog 88 b k (k + 2) Z (bytV m g) [.seq 1 6 f] (someI p) :=
  among_fn k 6 f (fun i => [a0, a1, a2, a3, a4, a5].getD i 0) p hk (by omega) hb (fun i hi => by
    match i, hi with
    | 0, _ => exact h0
    | 1, _ => exact h1
    | 2, _ => exact h2
    | 3, _ => exact h3
    | 4, _ => exact h4
    | 5, _ => exact h5) fun i hi => by
    match i, hi with
    | 0, _ => exact hp.1
    | 1, _ => exact hp.2.1
    | 2, _ => exact hp.2.2.1
    | 3, _ => exact hp.2.2.2.1
    | 4, _ => exact hp.2.2.2.2.1
    | 5, _ => exact hp.2.2.2.2.2

theorem among7_fn (k : Nat) (f : Nat → V) (a0 a1 a2 a3 a4 a5 a6 : Int) (p : Int → Prop) (hk : k ≤ 549755813880) (hb : BytOk m g) (h0 : f 0 = vi a0) (h1 : f 1 = vi a1) (h2 : f 2 = vi a2) (h3 : f 3 = vi a3) (h4 : f 4 = vi a4) (h5 : f 5 = vi a5) (h6 : f 6 = vi a6) (hp : p a0 ∧ p a1 ∧ p a2 ∧ p a3 ∧ p a4 ∧ p a5 ∧ p a6) : FnC Try.prog 88 b k (k + 2) Z (bytV m g) [.seq 1 7 f] (someI p) :=
  among_fn k 7 f (fun i => [a0, a1, a2, a3, a4, a5, a6].getD i 0) p hk (by omega) hb (fun i hi => by
    match i, hi with
    | 0, _ => exact h0
    | 1, _ => exact h1
    | 2, _ => exact h2
    | 3, _ => exact h3
    | 4, _ => exact h4
    | 5, _ => exact h5
    | 6, _ => exact h6) fun i hi => by
    match i, hi with
    | 0, _ => exact hp.1
    | 1, _ => exact hp.2.1
    | 2, _ => exact hp.2.2.1
    | 3, _ => exact hp.2.2.2.1
    | 4, _ => exact hp.2.2.2.2.1
    | 5, _ => exact hp.2.2.2.2.2.1
    | 6, _ => exact hp.2.2.2.2.2.2

theorem small_fn (k : Nat) (hk : k ≤ 549755813880) (hb : BytOk m g) : FnC Try.prog 154 b k (k + 2) Z (bytV m g) [] (someI fun x => -4 ≤ x ∧ x ≤ 8) := by
  refine FnC.of_body Try.call154 Try.func154 rfl Try.ntmps154 (ts := [2]) rfl (by simp) (someI.shape) (fun N cx hcx hbN => ?_)
  repeat' (first | ((with_reducible show evNx _ _ _ _ _ _); first | (with_reducible refine nx_done ?_) | (refine nx_one rfl ?_) | (refine nx_alt rfl ?_ ?_) | (with_reducible refine nx_st ?_)) | ((with_reducible show evSx _ _ _ _ _ _); first | (with_reducible refine sx_done ?_) | (with_reducible refine sx_st ?_) | (with_reducible refine sx_op ?_)) | ((with_reducible show evTake _ _ _ _ _); with_reducible refine take_nil ?_) | ((with_reducible show evSy _ _ _ _ _ _ _); first | (with_reducible refine sy_done ?_) | (refine sy_last rfl ?_) | (refine sy_one (by decide) rfl ?_) | (refine sy_alt (by decide) rfl ?_ ?_) | (with_reducible refine sy_st ?_)) | ((with_reducible show StK _ _ _); first | fail) | (with_reducible first | refine then_normal ?_ | refine then_ret ?_ | refine then_exit ?_ | refine block_normal ?_ | refine block_ret ?_) | ((with_reducible show blockQ _ _ _ _); first | refine block_exit ?_ | refine block_exit_ne rfl ?_) | ((with_reducible show AWP _ _ _ _ _); first | (refine AWP.region_sx (id := 1) [.op, .op, .op, .op] ?_) | (with_reducible first | refine AWP.seq ?_ | refine AWP.block ?_ | refine AWP.region ?_ | refine AWP.ret ?_ | refine AWP.exit ?_ | refine AWP.skip ?_) | refine AWP.drawn rfl (by kernel_rfl) ?_ | refine AWP.cond rfl ?_ ?_) | with_reducible refine ev_nil ?_ | ((first | ((with_reducible show evNx _ _ _ _ _ _); refine nx_take rfl ?_; intro K hK) | ((with_reducible show Ax _ _ _ _ _); first | ((first | refine ax_callC (f := 97) ?_); refine callC_go (x := _) (xs := _) rfl rfl rfl (by first | exact .inl (by rw [hcx]; exact rfl) | exact .inr (by assumption)) (by (try simp only [okS, okSl, okH, eq_self, true_and, and_true, and_self]); repeat' (first | exact trivial | exact rfl | exact disj_cut | exact disj_lt (by assumption) | assumption | omega | refine And.intro ?_ ?_ | (intro i hi; first | exact trivial | (split <;> first | exact trivial | exact disj_lt (by assumption) | exact disj_cut) | (repeat' split) <;> exact trivial))) (by (try simp only [okS, okSl, okH, eq_self, true_and, and_true, and_self]); repeat' (first | exact trivial | exact rfl | exact disj_cut | exact disj_lt (by assumption) | assumption | omega | refine And.intro ?_ ?_ | (intro i hi; first | exact trivial | (split <;> first | exact trivial | exact disj_lt (by assumption) | exact disj_cut) | (repeat' split) <;> exact trivial))) (fun K1 hK1 => by simp only [argsC, opd, lookup, Nat.zero_add, Nat.reduceEqDiff, ↓reduceIte, List.getElem?_cons_zero, List.getElem?_cons_succ, List.reverse_cons, List.reverse_nil, List.nil_append, List.cons_append]; repeat' (first | exact hK1 | exact trivial | exact disj_cut | assumption | omega | refine And.intro ?_ ?_)) ?_; first | (refine ⟨_, _, pick_fn _ _ (by omega) hb, ?_⟩; rintro _ ⟨x, hx, rfl⟩ hnewZ; clear hnewZ)) | (refine ax_op rfl ?_; intro K hK)) | ((with_reducible show evTake _ _ _ _ _); refine take_step rfl ?_; intro K hK) | ((with_reducible show evSy _ _ _ _ _ _ _); refine sy_take rfl ?_; intro K hK) | ((with_reducible show AxB _ _ _ _ _); first | (refine axb_op rfl rfl ?_; intro K hK)) | ((with_reducible show evOps _ _ _ _ _ _); (first | refine ev_step rfl ?_ | refine ev_undef rfl rfl rfl ?_); intro K hK) | ((with_reducible show EvOpen _ _ _ _ _ _ _); refine ev_open ?_; intro K hK) | ((with_reducible show SkOpen _ _ _ _ _ _ _); refine sk_open ?_; intro K hK) | ((with_reducible show callK _ _ _ _ _ _ _ _); first  | fail)); simp only [evOp, evQ, binK, withS, opd, kput, putS, upd, lookup, bringIn, bring, Res.list, Res.slot, slotsOf, InK_i64, swpS, swSl, List.map_nil, Nat.reduceEqDiff, Nat.reduceLT, Nat.zero_add, ↓reduceIte, eq_self, true_and]) | refine ev_guard rfl rfl rfl ?_ ?_ | ((with_reducible show retQ _ _ _ _); simp only [eq_self]) | (with_reducible refine hK _ ?_; clear hK K) | (with_reducible refine And.intro ?_ ?_) | (with_reducible intro hc; try simp only [eq_self] at hc) | omega)
  all_goals first
    | (refine retC_int rfl rfl (by omega) ?_; omega)
    | trace_state

/-- A number of some size. -/
abbrev big64 (x : Int) : Prop := -9223372036854775808 ≤ x ∧ x ≤ 9223372036854775807

theorem num_fn (k : Nat) (hk : k ≤ 549755813870) (hb : BytOk m g) : FnC Try.prog 169 b k (k + 4) Z (bytV m g) [] (someI fun x => -1000000 ≤ x ∧ x ≤ 1000000000) := by
  refine FnC.of_body Try.call169 Try.func169 rfl Try.ntmps169 (ts := [2]) rfl (by simp) (someI.shape) (fun N cx hcx hbN => ?_)
  repeat' (first | ((with_reducible show evNx _ _ _ _ _ _); first | (with_reducible refine nx_done ?_) | (refine nx_one rfl ?_) | (refine nx_alt rfl ?_ ?_) | (with_reducible refine nx_st ?_)) | ((with_reducible show evSx _ _ _ _ _ _); first | (with_reducible refine sx_done ?_) | (with_reducible refine sx_st ?_) | (with_reducible refine sx_op ?_)) | ((with_reducible show evTake _ _ _ _ _); with_reducible refine take_nil ?_) | ((with_reducible show evSy _ _ _ _ _ _ _); first | (with_reducible refine sy_done ?_) | (refine sy_last rfl ?_) | (refine sy_one (by decide) rfl ?_) | (refine sy_alt (by decide) rfl ?_ ?_) | (with_reducible refine sy_st ?_)) | ((with_reducible show StK _ _ _); first | fail) | (with_reducible first | refine then_normal ?_ | refine then_ret ?_ | refine then_exit ?_ | refine block_normal ?_ | refine block_ret ?_) | ((with_reducible show blockQ _ _ _ _); first | refine block_exit ?_ | refine block_exit_ne rfl ?_) | ((with_reducible show AWP _ _ _ _ _); first | (refine AWP.region_sx (id := 1) [.op, .op] ?_) | (refine AWP.region_sx (id := 5) [.op, .op, .op, .op] ?_) | (refine AWP.region_sx (id := 6) [.op, .op, .op, .op] ?_) | (with_reducible first | refine AWP.seq ?_ | refine AWP.block ?_ | refine AWP.region ?_ | refine AWP.ret ?_ | refine AWP.exit ?_ | refine AWP.skip ?_) | refine AWP.drawn rfl (by kernel_rfl) ?_ | refine AWP.cond rfl ?_ ?_) | with_reducible refine ev_nil ?_ | ((first | ((with_reducible show evNx _ _ _ _ _ _); refine nx_take rfl ?_; intro K hK) | ((with_reducible show Ax _ _ _ _ _); first | ((first | refine ax_callC (f := 97) ?_ | refine ax_callC (f := 88) ?_); refine callC_go (x := _) (xs := _) rfl rfl rfl (by first | exact .inl (by rw [hcx]; exact rfl) | exact .inr (by assumption)) (by (try simp only [okS, okSl, okH, eq_self, true_and, and_true, and_self]); repeat' (first | exact trivial | exact rfl | exact disj_cut | exact disj_lt (by assumption) | assumption | omega | refine And.intro ?_ ?_ | (intro i hi; first | exact trivial | (split <;> first | exact trivial | exact disj_lt (by assumption) | exact disj_cut) | (repeat' split) <;> exact trivial))) (by (try simp only [okS, okSl, okH, eq_self, true_and, and_true, and_self]); repeat' (first | exact trivial | exact rfl | exact disj_cut | exact disj_lt (by assumption) | assumption | omega | refine And.intro ?_ ?_ | (intro i hi; first | exact trivial | (split <;> first | exact trivial | exact disj_lt (by assumption) | exact disj_cut) | (repeat' split) <;> exact trivial))) (fun K1 hK1 => by simp only [argsC, opd, lookup, Nat.zero_add, Nat.reduceEqDiff, ↓reduceIte, List.getElem?_cons_zero, List.getElem?_cons_succ, List.reverse_cons, List.reverse_nil, List.nil_append, List.cons_append]; repeat' (first | exact hK1 | exact trivial | exact disj_cut | assumption | omega | refine And.intro ?_ ?_)) ?_; first | (refine ⟨_, _, pick_fn _ _ (by omega) hb, ?_⟩; rintro _ ⟨x, hx, rfl⟩ hnewZ; clear hnewZ) | (refine ⟨_, _, among4_fn _ _ 1000000 (-1000000) 500000 (-500001) (fun x => -1000000 ≤ x ∧ x ≤ 1000000000) (by omega) hb rfl rfl rfl rfl (by decide), ?_⟩; rintro _ ⟨x, hx, rfl⟩ hnewZ; clear hnewZ)) | (refine ax_op rfl ?_; intro K hK)) | ((with_reducible show evTake _ _ _ _ _); refine take_step rfl ?_; intro K hK) | ((with_reducible show evSy _ _ _ _ _ _ _); refine sy_take rfl ?_; intro K hK) | ((with_reducible show AxB _ _ _ _ _); first | (refine axb_op rfl rfl ?_; intro K hK)) | ((with_reducible show evOps _ _ _ _ _ _); (first | refine ev_step rfl ?_ | refine ev_undef rfl rfl rfl ?_); intro K hK) | ((with_reducible show EvOpen _ _ _ _ _ _ _); refine ev_open ?_; intro K hK) | ((with_reducible show SkOpen _ _ _ _ _ _ _); refine sk_open ?_; intro K hK) | ((with_reducible show callK _ _ _ _ _ _ _ _); first  | fail)); simp only [evOp, evQ, binK, withS, opd, kput, putS, upd, lookup, bringIn, bring, Res.list, Res.slot, slotsOf, InK_i64, frz, newBlk, partsK, buildSliceK, plSlice, V.one, Value.oneCell', ei_ints, ea_ints, swpS, swSl, List.map_nil, List.nil_append, List.length_cons, List.length_nil, Nat.reduceEqDiff, Nat.reduceLT, Nat.reduceLeDiff, Nat.mul_one, Nat.zero_add, Nat.mod_one, List.getD_cons_zero, ↓reduceIte, eq_self, true_and, Bool.false_eq_true]) | refine ev_guard rfl rfl rfl ?_ ?_ | ((with_reducible show retQ _ _ _ _); simp only [eq_self]) | (with_reducible refine hK _ ?_; clear hK K) | (with_reducible refine And.intro ?_ ?_) | (with_reducible intro hc; try simp only [beq_iff_eq, beq_eq_false_iff_ne, ne_eq] at hc) | omega)
  all_goals first
    | (refine retC_int rfl rfl (by omega) ?_; omega)
    | trace_state

theorem anyNum_fn (k : Nat) (hk : k ≤ 549755813850) (hb : BytOk m g) : FnC Try.prog 142 b k (k + 6) Z (bytV m g) [] (someI big64) := by
  refine FnC.of_body Try.call142 Try.func142 rfl Try.ntmps142 (ts := [2]) rfl (by simp) (someI.shape) (fun N cx hcx hbN => ?_)
  repeat' (first | ((with_reducible show evNx _ _ _ _ _ _); first | (with_reducible refine nx_done ?_) | (refine nx_one rfl ?_) | (refine nx_alt rfl ?_ ?_) | (with_reducible refine nx_st ?_)) | ((with_reducible show evSx _ _ _ _ _ _); first | (with_reducible refine sx_done ?_) | (with_reducible refine sx_st ?_) | (with_reducible refine sx_op ?_)) | ((with_reducible show evTake _ _ _ _ _); with_reducible refine take_nil ?_) | ((with_reducible show evSy _ _ _ _ _ _ _); first | (with_reducible refine sy_done ?_) | (refine sy_last rfl ?_) | (refine sy_one (by decide) rfl ?_) | (refine sy_alt (by decide) rfl ?_ ?_) | (with_reducible refine sy_st ?_)) | ((with_reducible show StK _ _ _); first | fail) | (with_reducible first | refine then_normal ?_ | refine then_ret ?_ | refine then_exit ?_ | refine block_normal ?_ | refine block_ret ?_) | ((with_reducible show blockQ _ _ _ _); first | refine block_exit ?_ | refine block_exit_ne rfl ?_) | ((with_reducible show AWP _ _ _ _ _); first | (refine AWP.region_sx (id := 1) [.op, .op] ?_) | (refine AWP.region_sx (id := 2) [.op, .op, .op, .op] ?_) | (refine AWP.region_sx (id := 3) [.op, .op, .op] ?_) | (with_reducible first | refine AWP.seq ?_ | refine AWP.block ?_ | refine AWP.region ?_ | refine AWP.ret ?_ | refine AWP.exit ?_ | refine AWP.skip ?_) | refine AWP.drawn rfl (by kernel_rfl) ?_ | refine AWP.cond rfl ?_ ?_) | with_reducible refine ev_nil ?_ | ((first | ((with_reducible show evNx _ _ _ _ _ _); refine nx_take rfl ?_; intro K hK) | ((with_reducible show Ax _ _ _ _ _); first | ((first | refine ax_callC (f := 96) ?_ | refine ax_callC (f := 169) ?_ | refine ax_callC (f := 88) ?_); refine callC_go (x := _) (xs := _) rfl rfl rfl (by first | exact .inl (by rw [hcx]; exact rfl) | exact .inr (by assumption)) (by (try simp only [okS, okSl, okH, eq_self, true_and, and_true, and_self]); repeat' (first | exact trivial | exact rfl | exact disj_cut | exact disj_lt (by assumption) | assumption | omega | refine And.intro ?_ ?_ | (intro i hi; first | exact trivial | (split <;> first | exact trivial | exact disj_lt (by assumption) | exact disj_cut) | (repeat' split) <;> exact trivial))) (by (try simp only [okS, okSl, okH, eq_self, true_and, and_true, and_self]); repeat' (first | exact trivial | exact rfl | exact disj_cut | exact disj_lt (by assumption) | assumption | omega | refine And.intro ?_ ?_ | (intro i hi; first | exact trivial | (split <;> first | exact trivial | exact disj_lt (by assumption) | exact disj_cut) | (repeat' split) <;> exact trivial))) (fun K1 hK1 => by simp only [argsC, opd, lookup, Nat.zero_add, Nat.reduceEqDiff, ↓reduceIte, List.getElem?_cons_zero, List.getElem?_cons_succ, List.reverse_cons, List.reverse_nil, List.nil_append, List.cons_append]; repeat' (first | exact hK1 | exact trivial | exact disj_cut | assumption | omega | refine And.intro ?_ ?_)) ?_; first | (refine ⟨_, _, one_fn _ _ (by omega) hb, ?_⟩; rintro _ ⟨x, rfl⟩ hnewZ; clear hnewZ) | (refine ⟨_, _, num_fn _ (by omega) hb, ?_⟩; rintro _ ⟨x, hx, rfl⟩ hnewZ; clear hnewZ) | (refine ⟨_, _, among6_fn _ _ 1000001 (-1000001) 1000000001 999999999 (-9223372036854775808) 9223372036854775807 big64 (by omega) hb rfl rfl rfl rfl rfl rfl (by decide), ?_⟩; rintro _ ⟨x, hx, rfl⟩ hnewZ; clear hnewZ)) | (refine ax_op rfl ?_; intro K hK)) | ((with_reducible show evTake _ _ _ _ _); refine take_step rfl ?_; intro K hK) | ((with_reducible show evSy _ _ _ _ _ _ _); refine sy_take rfl ?_; intro K hK) | ((with_reducible show AxB _ _ _ _ _); first | (refine axb_op rfl rfl ?_; intro K hK)) | ((with_reducible show evOps _ _ _ _ _ _); (first | refine ev_step rfl ?_ | refine ev_undef rfl rfl rfl ?_); intro K hK) | ((with_reducible show EvOpen _ _ _ _ _ _ _); refine ev_open ?_; intro K hK) | ((with_reducible show SkOpen _ _ _ _ _ _ _); refine sk_open ?_; intro K hK) | ((with_reducible show callK _ _ _ _ _ _ _ _); first  | fail)); simp only [evOp, evQ, withS, opd, kput, putS, upd, lookup, bringIn, bring, Res.list, Res.slot, slotsOf, frz, newBlk, partsK, buildSliceK, plSlice, V.one, Value.oneCell', ei_ints, ea_ints, swpS, swSl, List.map_nil, List.nil_append, List.length_cons, List.length_nil, Nat.reduceEqDiff, Nat.reduceLT, Nat.reduceLeDiff, Nat.mul_one, Nat.zero_add, Nat.mod_one, List.getD_cons_zero, ↓reduceIte, eq_self, true_and, Bool.false_eq_true]) | refine ev_guard rfl rfl rfl ?_ ?_ | ((with_reducible show retQ _ _ _ _); simp only [eq_self]) | (with_reducible refine hK _ ?_; clear hK K) | (with_reducible refine And.intro ?_ ?_) | (with_reducible intro hc; try simp only [eq_self] at hc) | omega)
  all_goals first
    | (refine retC_int rfl rfl (by omega) ?_; exact hx)
    | (refine retC_int rfl rfl (by omega) ?_; unfold big64; omega)
    | trace_state
end

end Go.Proofs.Yteapdildbfimnaa
