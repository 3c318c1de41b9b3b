/- Parts of the proof of LawFnParts: contracts of functions, laws of an abstract state, plain facts. No conditions. -/
import Derived.Test.YteapdildbfimnaaB03
import Derived.WalkKit
import Derived.Lib.Walk
import Derived.Deep.QuietTactic
import Derived.BigQuiet
import Derived.Deep.LoopGhost
import Derived.MapKept
import Derived.ChangeMaps5
import Derived.Laws.RangeString
import Derived.OrdersHeld
import Derived.Shelf.SlSortCmp.NoneTotal
namespace Go.Proofs.Yteapdildbfimnaa
open Go.RowKit Go.Proofs
set_option linter.unusedSimpArgs false
set_option linter.unusedVariables false

theorem u64_wrap (n : Int) : 0 ≤ IntKind.u64.wrap n ∧ IntKind.u64.wrap n < 18446744073709551616 := by
  simp [IntKind.wrap, IntKind.bits, IntKind.signed]; omega

theorem and255 (x : Int) : 0 ≤ bits .and .u64 x 255 ∧ bits .and .u64 x 255 < 256 := by
  have h1 : (BitVec.ofInt IntKind.u64.bits x &&& BitVec.ofInt IntKind.u64.bits 255).toNat ≤ 255 := by
    rw [BitVec.toNat_and]
    exact Nat.le_trans Nat.and_le_right (by decide)
  unfold bits
  show 0 ≤ IntKind.u64.wrap _ ∧ IntKind.u64.wrap _ < 256
  generalize (BitVec.ofInt IntKind.u64.bits x &&& BitVec.ofInt IntKind.u64.bits 255).toNat = m at h1
  simp [IntKind.wrap, IntKind.bits, IntKind.signed]
  omega

theorem next_in (b : Nat) (cur : Array Value) (e : TypeId) (A : Addr) (n cap : Nat) (g p q : Int) (w : World) (hb : w.heap[b]? = some (.cells cur e (0, 0))) (h0 : cur[0]? = some (.slice (some A) n cap)) (h1 : cur[1]? = some (.int .i64 p)) (h2 : cur[2]? = some (.int .u64 q))
    (hp : 0 ≤ p ∧ p ≤ 1099511627776) (hq : 0 ≤ q ∧ q < 18446744073709551616) (hn : n ≤ 1099511627776) (hnp : p < n) (hg : w.cell? (A.add p.toNat) = some (.int .u8 g)) (hg2 : 0 ≤ g ∧ g < 256) :
    Calls Try.prog 144 #[.pointer (some ⟨b, 0, none⟩)] w fun e' w' => ∃ x q' : Int, (0 ≤ x ∧ x < 256) ∧ (0 ≤ q' ∧ q' < 18446744073709551616) ∧ e' = .returned (.int .i64 x) ∧ ∃ m m', w' = (((w.drewN m).setCell ⟨b, 1, none⟩ (.int .i64 (p + 1))).setCell ⟨b, 2, none⟩ (.int .u64 q')).drewN m' := by
  have c0 : w.cell? ⟨b, 0, none⟩ = some (.slice (some A) n cap) := cell_of_blk hb h0
  have c1 : w.cell? ⟨b, 1, none⟩ = some (.int .i64 p) := cell_of_blk hb h1
  have c2 : w.cell? ⟨b, 2, none⟩ = some (.int .u64 q) := cell_of_blk hb h2
  go_enter Try.func144, Try.ntmps144
  go_wp2
  have hlt : decide (p < (n : Int)) = true := decide_eq_true hnp
  have hle : decide (p + 1 ≤ (n : Int)) = true := decide_eq_true (by omega)
  have f1 : w.frozen? ⟨b, 1, none⟩ = false := by simp [World.frozen?, hb]
  have f2 : w.frozen? ⟨b, 2, none⟩ = false := by simp [World.frozen?, hb]
  have hp0 : 0 ≤ p := hp.1
  go_quiet (fail)
  go_wp2
  go_quiet (fail)
  go_wp2
  go_quiet (fail)
  go_wp2
  go_ret
  exact ⟨g, _, hg2, u64_wrap _, rfl, _, _, rfl⟩

theorem next_out (b : Nat) (cur : Array Value) (e : TypeId) (B : Option Addr) (n cap : Nat) (p q : Int) (w : World) (hb : w.heap[b]? = some (.cells cur e (0, 0))) (h0 : cur[0]? = some (.slice B n cap)) (h1 : cur[1]? = some (.int .i64 p)) (h2 : cur[2]? = some (.int .u64 q))
    (hp : 0 ≤ p ∧ p ≤ 1099511627776) (hq : 0 ≤ q ∧ q < 18446744073709551616) (hn : n ≤ 1099511627776) (hnp : ¬ p < n) :
    Calls Try.prog 144 #[.pointer (some ⟨b, 0, none⟩)] w fun e' w' => ∃ x q' : Int, (0 ≤ x ∧ x < 256) ∧ (0 ≤ q' ∧ q' < 18446744073709551616) ∧ e' = .returned (.int .i64 x) ∧ ∃ m m', w' = (((w.drewN m).setCell ⟨b, 1, none⟩ (.int .i64 (p + 1))).setCell ⟨b, 2, none⟩ (.int .u64 q')).drewN m' := by
  have c0 : w.cell? ⟨b, 0, none⟩ = some (.slice B n cap) := cell_of_blk hb h0
  have c1 : w.cell? ⟨b, 1, none⟩ = some (.int .i64 p) := cell_of_blk hb h1
  have c2 : w.cell? ⟨b, 2, none⟩ = some (.int .u64 q) := cell_of_blk hb h2
  go_enter Try.func144, Try.ntmps144
  go_wp2
  have hlt : decide (p < (n : Int)) = false := decide_eq_false (by omega)
  have hle : decide (p + 1 ≤ (n : Int)) = false := decide_eq_false (by omega)
  have f1 : w.frozen? ⟨b, 1, none⟩ = false := by simp [World.frozen?, hb]
  have f2 : w.frozen? ⟨b, 2, none⟩ = false := by simp [World.frozen?, hb]
  have hp0 : 0 ≤ p := hp.1
  go_quiet (fail)
  go_wp2
  go_quiet (fail)
  go_wp2
  go_ret
  refine ⟨_, _, ?_, u64_wrap _, rfl, _, _, rfl⟩
  have := and255 (IntKind.u64.wrap (IntKind.u64.wrap (IntKind.u64.wrap (q * 6364136223846793005)) + 1442695040888963407) / 1099511627776)
  generalize bits BinOp.and IntKind.u64 (IntKind.u64.wrap (IntKind.u64.wrap (IntKind.u64.wrap (q * 6364136223846793005)) + 1442695040888963407) / 1099511627776) 255 = y at *
  unfold wrap64
  omega

/-- The bytes that the cursor reads. -/
abbrev bytV (n : Nat) (g : Nat → Int) : V := .seq 1 n fun i => .val (.int .u8 (g i))

theorem moved_world {b : Nat} {cur : Array Value} {e : TypeId} {w w' : World} {m m' : Nat} {p' q' : Int} (hb : w.heap[b]? = some (.cells cur e (0, 0))) (hw : w' = (((w.drewN m).setCell ⟨b, 1, none⟩ (.int .i64 p')).setCell ⟨b, 2, none⟩ (.int .u64 q')).drewN m') :
    RebB b w { w with heap := w'.heap } ∧ Below w'.heap.size { w with heap := w'.heap } w' ∧ w'.heap[b]? = some (.cells ((cur.setIfInBounds 1 (.int .i64 p')).setIfInBounds 2 (.int .u64 q')) e (0, 0)) ∧ w'.heap.size = w.heap.size := by
  have hd : ∀ (v : World) (k : Nat), (v.drewN k).heap = v.heap := fun v k => by cases k <;> rfl
  have h1 : (w.drewN m).heap[b]? = some (.cells cur e (0, 0)) := by rw [hd]; exact hb
  have h2 : ((w.drewN m).setCell ⟨b, 1, none⟩ (.int .i64 p')).heap[b]? = some (.cells (cur.setIfInBounds 1 (.int .i64 p')) e (0, 0)) := setCell_at h1
  have h3 : (((w.drewN m).setCell ⟨b, 1, none⟩ (.int .i64 p')).setCell ⟨b, 2, none⟩ (.int .u64 q')).heap[b]? = some (.cells ((cur.setIfInBounds 1 (.int .i64 p')).setIfInBounds 2 (.int .u64 q')) e (0, 0)) := setCell_at h2
  have hH : w'.heap = (((w.drewN m).setCell ⟨b, 1, none⟩ (.int .i64 p')).setCell ⟨b, 2, none⟩ (.int .u64 q')).heap := by rw [hw, hd]
  have hS : w'.heap.size = w.heap.size := by rw [hH, setCell_size, setCell_size, hd]
  have hso : ∀ (v : World) (x : Addr) (y : Value), (v.setCell x y).os = v.os ∧ (v.setCell x y).tape = v.tape ∧ (v.setCell x y).output = v.output := fun v x y => ⟨rfl, rfl, rfl⟩
  have hdo : ∀ (v : World) (k : Nat), (v.drewN k).os = v.os ∧ (v.drewN k).tape = v.tape ∧ (v.drewN k).output = v.output := fun v k => ⟨rfl, rfl, rfl⟩
  refine ⟨⟨rfl, rfl, rfl, hS, fun j hj => ?_⟩, ⟨?_, ?_, ?_, Nat.le_refl _, fun _ _ => rfl⟩, ?_, hS⟩
  · show w'.heap[j]? = _
    rw [hH, Below.heap_setCell _ _ _ _ hj, Below.heap_setCell _ _ _ _ hj, hd]
  · rw [hw]; simp only [hdo, hso]
  · rw [hw]; simp only [hdo, hso]
  · rw [hw]; simp only [hdo, hso]
  · rw [hH]; exact h3

/-- Some number below 256. -/
theorem next_fn (b k n : Nat) (Z : Nat → Prop) (g : Nat → Int) (hk : k ≤ 1099511627776) (hn : n ≤ 1099511627776) (hg : ∀ i, i < n → 0 ≤ g i ∧ g i < 256) :
    FnC Try.prog 144 b k (k + 1) Z (bytV n g) [] (fun r => ∃ x : Int, (0 ≤ x ∧ x < 256) ∧ r = .one (.pv (vi x))) := by
  refine ⟨Try.call144, fun w u us hu hus => ?_⟩
  match us, hus with
  | [], _ =>
    obtain ⟨rfl, _, hz, cur, cv, p, q, e, hc, ⟨h0, h1, h2⟩, hp, hq, hr⟩ := hu
    obtain ⟨A, c, rfl, hcap, hcells⟩ := hr
    have fin : ∀ e' w', (∃ x q' : Int, (0 ≤ x ∧ x < 256) ∧ (0 ≤ q' ∧ q' < 18446744073709551616) ∧ e' = Ending.returned (.int .i64 x) ∧ ∃ m m', w' = (((w.drewN m).setCell ⟨b, 1, none⟩ (.int .i64 (p + 1))).setCell ⟨b, 2, none⟩ (.int .u64 q')).drewN m') →
        ∃ w1 r x φ, RebB b w w1 ∧ Rd w1 (fun _ => True) (.cur b (k + 1) Z (bytV n g)) (.pointer (some ⟨b, 0, none⟩)) ∧ (∃ x : Int, (0 ≤ x ∧ x < 256) ∧ r = Res.one (.pv (vi x))) ∧ NewL (fun Z => ∀ j, Z j → w.heap.size ≤ j) r.list ∧ e' = .returned x ∧ Heap w1 (fun _ => True) (bring r.list []).2 φ w' ∧ RdSlot w' (Stab w1 (fun _ => True) (bring r.list []).2 φ) φ (r.slot (bring r.list []).1) x := by
      rintro e' w' ⟨x, q', hx, hq', rfl, m, m', hw⟩
      obtain ⟨hR, hB, hblk, hsz⟩ := moved_world hc hw
      have c1 : 1 < cur.size := (Array.getElem?_eq_some_iff.1 h1).1
      have c2 : 2 < cur.size := (Array.getElem?_eq_some_iff.1 h2).1
      have hcur : Rd { w with heap := w'.heap } (fun _ => True) (.cur b (k + 1) Z (bytV n g)) (.pointer (some ⟨b, 0, none⟩)) := by
        refine ⟨rfl, trivial, fun j hj => ⟨trivial, ?_, (hz j hj).2.2⟩, _, _, p + 1, q', e, hblk, ⟨?_, ?_, ?_⟩, ⟨by omega, by omega⟩, hq', Rd.mono (S := Z) (fun j hj _ => ⟨hj, hR.oth j (hz j hj).2.2⟩) (bytV n g) (.slice A n c) ⟨A, c, rfl, hcap, hcells⟩⟩
        · show j < w'.heap.size
          rw [hsz]; exact (hz j hj).2.1
        · rw [Array.getElem?_setIfInBounds_ne (by decide), Array.getElem?_setIfInBounds_ne (by decide)]; exact h0
        · rw [Array.getElem?_setIfInBounds_ne (by decide)]; simp [c1]
        · simp [c2]
      exact ⟨_, .one (.pv (vi x)), .int .i64 x, [], hR, hcur, ⟨x, hx, rfl⟩, ⟨trivial, trivial⟩, rfl, ⟨rfl, hB, fun id blk hi => by simp [bring, Res.list] at hi, fun i j bi bj b z z' hi => by simp [bring, Res.list] at hi⟩, rfl⟩
    by_cases hpn : p < n
    · obtain ⟨b', off, rfl, hS, hcl⟩ := hcells (by omega)
      obtain ⟨y, hy, hy2⟩ := hcl p.toNat (by omega)
      have hy2 : y = .int .u8 (g p.toNat) := hy2
      subst hy2
      exact (next_in b cur e ⟨b', off, none⟩ n c (g p.toNat) p q w hc h0 h1 h2 ⟨hp.1, by omega⟩ hq hn hpn (by rw [add_none]; exact hy) (hg _ (by omega))).mono fin
    · exact (next_out b cur e A n c p q w hc h0 h1 h2 ⟨hp.1, by omega⟩ hq hn hpn).mono fin

open Go.RowKit Go.Proofs
set_option linter.unusedSimpArgs false
set_option linter.unusedVariables false
set_option maxRecDepth 20000

/-- Some integer of which p holds. -/
def someI (p : Int → Prop) : Res → Prop := fun r => ∃ x : Int, p x ∧ r = .one (.pv (vi x))
theorem someI.shape {p : Int → Prop} (r : Res) (h : someI p r) : r.shape 1 = true := by obtain ⟨x, _, rfl⟩ := h; rfl

def someB : Res → Prop := fun r => ∃ x : Bool, r = .one (.pv (vb x))
theorem someB.shape (r : Res) (h : someB r) : r.shape 1 = true := by obtain ⟨x, rfl⟩ := h; rfl

theorem retC_int {t N b k' : Nat} {Z : Nat → Prop} {c : V} {p : Int → Prop} {s : ASt} {x : Int} (hl : lookup s.σ t = some (sc (.int .i64 x))) {j : Nat} (hc : lookup s.σ 0 = some (.one (.pv (.cur b j Z c)))) (hj : j ≤ k') (hp : p x) : retC [t] N (someI p) b k' Z c .ret s := by
  refine ⟨⟨j, hc, hj⟩, _, ⟨x, hp, rfl⟩, ⟨trivial, trivial⟩, ?_⟩
  unfold retOk
  simp only [getL, hl, Option.map_some, Res.list, fitsL, fits, VE, srcs, ND, and_true]
theorem retC_bool {t N b k' : Nat} {Z : Nat → Prop} {c : V} {s : ASt} {x : Bool} (hl : lookup s.σ t = some (sc (.bool x))) {j : Nat} (hc : lookup s.σ 0 = some (.one (.pv (.cur b j Z c)))) (hj : j ≤ k') : retC [t] N someB b k' Z c .ret s := by
  refine ⟨⟨j, hc, hj⟩, _, ⟨x, rfl⟩, ⟨trivial, trivial⟩, ?_⟩
  unfold retOk
  simp only [getL, hl, Option.map_some, Res.list, fitsL, fits, VE, srcs, ND, and_true]

/-- The bytes are bytes, and no more than 2^40. -/
structure BytOk (m : Nat) (g : Nat → Int) : Prop where
  len : m ≤ 1099511627776
  byte : ∀ i, i < m → 0 ≤ g i ∧ g i < 256

section
variable {b m : Nat} {Z : Nat → Prop} {g : Nat → Int}

theorem next2_fn (k : Nat) (hk : k ≤ 549755813888) (hb : BytOk m g) : FnC Try.prog 144 b k (k + 1) Z (bytV m g) [] (someI fun x => 0 ≤ x ∧ x < 256) := next_fn b k m Z g (by omega) hb.len hb.byte

theorem pick_fn (k : Nat) (n : Int) (hk : k ≤ 549755813880) (hb : BytOk m g) : FnC Try.prog 97 b k (k + 2) Z (bytV m g) [vi n] (someI fun x => 0 ≤ x ∧ (x < n ∨ x = 0)) := by
  refine FnC.of_body Try.call97 Try.func97 rfl Try.ntmps97 (ts := [4]) rfl (by simp) (someI.shape) (fun N cx hcx hbN => ?_)
  repeat' (first | ((with_reducible show evNx _ _ _ _ _ _); first | (with_reducible refine nx_done ?_) | (refine nx_one rfl ?_) | (refine nx_alt rfl ?_ ?_) | (with_reducible refine nx_st ?_)) | ((with_reducible show evSx _ _ _ _ _ _); first | (with_reducible refine sx_done ?_) | (with_reducible refine sx_st ?_) | (with_reducible refine sx_op ?_)) | ((with_reducible show evTake _ _ _ _ _); with_reducible refine take_nil ?_) | ((with_reducible show evSy _ _ _ _ _ _ _); first | (with_reducible refine sy_done ?_) | (refine sy_last rfl ?_) | (refine sy_one (by decide) rfl ?_) | (refine sy_alt (by decide) rfl ?_ ?_) | (with_reducible refine sy_st ?_)) | ((with_reducible show StK _ _ _); first | fail) | (with_reducible first | refine then_normal ?_ | refine then_ret ?_ | refine then_exit ?_ | refine block_normal ?_ | refine block_ret ?_) | ((with_reducible show blockQ _ _ _ _); first | refine block_exit ?_ | refine block_exit_ne rfl ?_) | ((with_reducible show AWP _ _ _ _ _); first | (refine AWP.region_sx (id := 3) [.op, .op, .op] ?_) | (refine AWP.region_sx (id := 5) [.op, .op, .op, .op, .op, .op] ?_) | (with_reducible first | refine AWP.seq ?_ | refine AWP.block ?_ | refine AWP.region ?_ | refine AWP.ret ?_ | refine AWP.exit ?_ | refine AWP.skip ?_) | refine AWP.drawn rfl (by kernel_rfl) ?_ | refine AWP.cond rfl ?_ ?_) | with_reducible refine ev_nil ?_ | ((first | ((with_reducible show evNx _ _ _ _ _ _); refine nx_take rfl ?_; intro K hK) | ((with_reducible show Ax _ _ _ _ _); first | ((first | refine ax_callC (f := 144) ?_); refine callC_go (x := _) (xs := _) rfl rfl rfl (by first | exact .inl (by rw [hcx]; exact rfl) | exact .inr (by assumption)) (by (try simp only [okS, okSl, okH, eq_self, true_and, and_true, and_self]); repeat' (first | exact trivial | exact rfl | exact disj_cut | exact disj_lt (by assumption) | assumption | omega | refine And.intro ?_ ?_ | (intro i hi; first | exact trivial | (split <;> first | exact trivial | exact disj_lt (by assumption) | exact disj_cut) | (repeat' split) <;> exact trivial))) (by (try simp only [okS, okSl, okH, eq_self, true_and, and_true, and_self]); repeat' (first | exact trivial | exact rfl | exact disj_cut | exact disj_lt (by assumption) | assumption | omega | refine And.intro ?_ ?_ | (intro i hi; first | exact trivial | (split <;> first | exact trivial | exact disj_lt (by assumption) | exact disj_cut) | (repeat' split) <;> exact trivial))) (fun K1 hK1 => by simp only [argsC, opd, lookup, Nat.zero_add, Nat.reduceEqDiff, ↓reduceIte, List.getElem?_cons_zero, List.getElem?_cons_succ, List.reverse_cons, List.reverse_nil, List.nil_append, List.cons_append]; repeat' (first | exact hK1 | exact trivial | exact disj_cut | assumption | omega | refine And.intro ?_ ?_)) ?_; first | (refine ⟨_, _, next2_fn _ (by omega) hb, ?_⟩; rintro _ ⟨x, hx, rfl⟩ hnewZ; clear hnewZ)) | (refine ax_op rfl ?_; intro K hK)) | ((with_reducible show evTake _ _ _ _ _); refine take_step rfl ?_; intro K hK) | ((with_reducible show evSy _ _ _ _ _ _ _); refine sy_take rfl ?_; intro K hK) | ((with_reducible show AxB _ _ _ _ _); first | (refine axb_op rfl rfl ?_; intro K hK)) | ((with_reducible show evOps _ _ _ _ _ _); (first | refine ev_step rfl ?_ | refine ev_undef rfl rfl rfl ?_); intro K hK) | ((with_reducible show EvOpen _ _ _ _ _ _ _); refine ev_open ?_; intro K hK) | ((with_reducible show SkOpen _ _ _ _ _ _ _); refine sk_open ?_; intro K hK) | ((with_reducible show callK _ _ _ _ _ _ _ _); first  | fail)); simp only [evOp, evQ, binK, withS, opd, kput, putS, upd, lookup, bringIn, bring, Res.list, Res.slot, slotsOf, InK_i64, swpS, swSl, oldC, List.map_cons, List.map_nil, Nat.reduceEqDiff, Nat.reduceLT, Nat.zero_add, ↓reduceIte, eq_self, true_and]) | refine ev_guard rfl rfl rfl ?_ ?_ | ((with_reducible show retQ _ _ _ _); simp only [eq_self]) | (with_reducible refine hK _ ?_; clear hK K) | (with_reducible refine And.intro ?_ ?_) | (with_reducible intro hc; try simp only [decide_eq_true_eq, decide_eq_false_iff_not, Int.not_lt, Int.not_le, gt_iff_lt] at hc) | omega)
  all_goals first
    | (refine retC_int rfl rfl (by omega) ?_; exact ⟨by omega, .inr rfl⟩)
    | (refine retC_int rfl rfl (by omega) ?_; exact ⟨Int.emod_nonneg _ (by omega), .inl (Int.emod_lt_of_pos _ (by omega))⟩)
    | trace_state

theorem one_fn (k : Nat) (n : Int) (hk : k ≤ 549755813880) (hb : BytOk m g) : FnC Try.prog 96 b k (k + 2) Z (bytV m g) [vi n] someB := by
  refine FnC.of_body Try.call96 Try.func96 rfl Try.ntmps96 (ts := [4]) rfl (by simp) (someB.shape) (fun N cx hcx hbN => ?_)
  repeat' (first | ((with_reducible show evNx _ _ _ _ _ _); first | (with_reducible refine nx_done ?_) | (refine nx_one rfl ?_) | (refine nx_alt rfl ?_ ?_) | (with_reducible refine nx_st ?_)) | ((with_reducible show evSx _ _ _ _ _ _); first | (with_reducible refine sx_done ?_) | (with_reducible refine sx_st ?_) | (with_reducible refine sx_op ?_)) | ((with_reducible show evTake _ _ _ _ _); with_reducible refine take_nil ?_) | ((with_reducible show evSy _ _ _ _ _ _ _); first | (with_reducible refine sy_done ?_) | (refine sy_last rfl ?_) | (refine sy_one (by decide) rfl ?_) | (refine sy_alt (by decide) rfl ?_ ?_) | (with_reducible refine sy_st ?_)) | ((with_reducible show StK _ _ _); first | fail) | (with_reducible first | refine then_normal ?_ | refine then_ret ?_ | refine then_exit ?_ | refine block_normal ?_ | refine block_ret ?_) | ((with_reducible show blockQ _ _ _ _); first | refine block_exit ?_ | refine block_exit_ne rfl ?_) | ((with_reducible show AWP _ _ _ _ _); first | (refine AWP.region_sx (id := 1) [.op, .op, .op, .op, .op] ?_) | (with_reducible first | refine AWP.seq ?_ | refine AWP.block ?_ | refine AWP.region ?_ | refine AWP.ret ?_ | refine AWP.exit ?_ | refine AWP.skip ?_) | refine AWP.drawn rfl (by kernel_rfl) ?_ | refine AWP.cond rfl ?_ ?_) | with_reducible refine ev_nil ?_ | ((first | ((with_reducible show evNx _ _ _ _ _ _); refine nx_take rfl ?_; intro K hK) | ((with_reducible show Ax _ _ _ _ _); first | ((first | refine ax_callC (f := 97) ?_); refine callC_go (x := _) (xs := _) rfl rfl rfl (by first | exact .inl (by rw [hcx]; exact rfl) | exact .inr (by assumption)) (by (try simp only [okS, okSl, okH, eq_self, true_and, and_true, and_self]); repeat' (first | exact trivial | exact rfl | exact disj_cut | exact disj_lt (by assumption) | assumption | omega | refine And.intro ?_ ?_ | (intro i hi; first | exact trivial | (split <;> first | exact trivial | exact disj_lt (by assumption) | exact disj_cut) | (repeat' split) <;> exact trivial))) (by (try simp only [okS, okSl, okH, eq_self, true_and, and_true, and_self]); repeat' (first | exact trivial | exact rfl | exact disj_cut | exact disj_lt (by assumption) | assumption | omega | refine And.intro ?_ ?_ | (intro i hi; first | exact trivial | (split <;> first | exact trivial | exact disj_lt (by assumption) | exact disj_cut) | (repeat' split) <;> exact trivial))) (fun K1 hK1 => by simp only [argsC, opd, lookup, Nat.zero_add, Nat.reduceEqDiff, ↓reduceIte, List.getElem?_cons_zero, List.getElem?_cons_succ, List.reverse_cons, List.reverse_nil, List.nil_append, List.cons_append]; repeat' (first | exact hK1 | exact trivial | exact disj_cut | assumption | omega | refine And.intro ?_ ?_)) ?_; first | (refine ⟨_, _, pick_fn _ _ (by omega) hb, ?_⟩; rintro _ ⟨x, hx, rfl⟩ hnewZ; clear hnewZ)) | (refine ax_op rfl ?_; intro K hK)) | ((with_reducible show evTake _ _ _ _ _); refine take_step rfl ?_; intro K hK) | ((with_reducible show evSy _ _ _ _ _ _ _); refine sy_take rfl ?_; intro K hK) | ((with_reducible show AxB _ _ _ _ _); first | (refine axb_op rfl rfl ?_; intro K hK)) | ((with_reducible show evOps _ _ _ _ _ _); (first | refine ev_step rfl ?_ | refine ev_undef rfl rfl rfl ?_); intro K hK) | ((with_reducible show EvOpen _ _ _ _ _ _ _); refine ev_open ?_; intro K hK) | ((with_reducible show SkOpen _ _ _ _ _ _ _); refine sk_open ?_; intro K hK) | ((with_reducible show callK _ _ _ _ _ _ _ _); first  | fail)); simp only [evOp, evQ, binK, withS, opd, kput, putS, upd, lookup, bringIn, bring, Res.list, Res.slot, slotsOf, swpS, swSl, oldC, List.map_cons, List.map_nil, Nat.reduceEqDiff, Nat.reduceLT, Nat.zero_add, ↓reduceIte, eq_self, true_and]) | refine ev_guard rfl rfl rfl ?_ ?_ | ((with_reducible show retQ _ _ _ _); simp only [eq_self]) | (with_reducible refine hK _ ?_; clear hK K) | (with_reducible refine And.intro ?_ ?_) | (with_reducible intro hc; try simp only [eq_self] at hc) | omega)
  all_goals first
    | exact retC_bool rfl rfl (by omega)
    | trace_state

/-- One of a list's numbers. -/
theorem among_fn (k n : Nat) (f : Nat → V) (l : Nat → Int) (p : Int → Prop) (hk : k ≤ 549755813880) (hn : 1 ≤ n ∧ n ≤ 200) (hb : BytOk m g) (hf : ∀ i, i < n → f i = vi (l i)) (hp : ∀ i, i < n → p (l i)) : FnC Try.prog 88 b k (k + 2) Z (bytV m g) [.seq 1 n f] (someI p) := by
  refine FnC.of_body Try.call88 Try.func88 rfl Try.ntmps88 (ts := [4]) rfl (by simp) (someI.shape) (fun N cx hcx hbN => ?_)
  repeat' (first | ((with_reducible show evNx _ _ _ _ _ _); first | (with_reducible refine nx_done ?_) | (refine nx_one rfl ?_) | (refine nx_alt rfl ?_ ?_) | (with_reducible refine nx_st ?_)) | ((with_reducible show evSx _ _ _ _ _ _); first | (with_reducible refine sx_done ?_) | (with_reducible refine sx_st ?_) | (with_reducible refine sx_op ?_)) | ((with_reducible show evTake _ _ _ _ _); with_reducible refine take_nil ?_) | ((with_reducible show evSy _ _ _ _ _ _ _); first | (with_reducible refine sy_done ?_) | (refine sy_last rfl ?_) | (refine sy_one (by decide) rfl ?_) | (refine sy_alt (by decide) rfl ?_ ?_) | (with_reducible refine sy_st ?_)) | ((with_reducible show StK _ _ _); first | fail) | (with_reducible first | refine then_normal ?_ | refine then_ret ?_ | refine then_exit ?_ | refine block_normal ?_ | refine block_ret ?_) | ((with_reducible show blockQ _ _ _ _); first | refine block_exit ?_ | refine block_exit_ne rfl ?_) | ((with_reducible show AWP _ _ _ _ _); first | (refine AWP.region_sx (id := 1) [.op, .op, .op, .op, .op, .op, .op, .op] ?_) | (with_reducible first | refine AWP.seq ?_ | refine AWP.block ?_ | refine AWP.region ?_ | refine AWP.ret ?_ | refine AWP.exit ?_ | refine AWP.skip ?_) | refine AWP.drawn rfl (by kernel_rfl) ?_ | refine AWP.cond rfl ?_ ?_) | with_reducible refine ev_nil ?_ | ((first | ((with_reducible show evNx _ _ _ _ _ _); refine nx_take rfl ?_; intro K hK) | ((with_reducible show Ax _ _ _ _ _); first | ((first | refine ax_callC (f := 97) ?_); refine callC_go (x := _) (xs := _) rfl rfl rfl (by first | exact .inl (by rw [hcx]; exact rfl) | exact .inr (by assumption)) (by (try simp only [okS, okSl, okH, eq_self, true_and, and_true, and_self]); repeat' (first | exact trivial | exact rfl | exact disj_cut | exact disj_lt (by assumption) | assumption | omega | refine And.intro ?_ ?_ | (intro i hi; first | exact trivial | (split <;> first | exact trivial | exact disj_lt (by assumption) | exact disj_cut) | (repeat' split) <;> exact trivial))) (by (try simp only [okS, okSl, okH, eq_self, true_and, and_true, and_self]); repeat' (first | exact trivial | exact rfl | exact disj_cut | exact disj_lt (by assumption) | assumption | omega | refine And.intro ?_ ?_ | (intro i hi; first | exact trivial | (split <;> first | exact trivial | exact disj_lt (by assumption) | exact disj_cut) | (repeat' split) <;> exact trivial))) (fun K1 hK1 => by simp only [argsC, opd, lookup, Nat.zero_add, Nat.reduceEqDiff, ↓reduceIte, List.getElem?_cons_zero, List.getElem?_cons_succ, List.reverse_cons, List.reverse_nil, List.nil_append, List.cons_append]; repeat' (first | exact hK1 | exact trivial | exact disj_cut | assumption | omega | refine And.intro ?_ ?_)) ?_; first | (refine ⟨_, _, pick_fn _ _ (by omega) hb, ?_⟩; rintro _ ⟨x, hx, rfl⟩ hnewZ; clear hnewZ)) | (refine ax_op rfl ?_; intro K hK)) | ((with_reducible show evTake _ _ _ _ _); refine take_step rfl ?_; intro K hK) | ((with_reducible show evSy _ _ _ _ _ _ _); refine sy_take rfl ?_; intro K hK) | ((with_reducible show AxB _ _ _ _ _); first | (refine axb_op rfl rfl ?_; intro K hK)) | ((with_reducible show evOps _ _ _ _ _ _); (first | refine ev_step rfl ?_ | refine ev_undef rfl rfl rfl ?_); intro K hK) | ((with_reducible show EvOpen _ _ _ _ _ _ _); refine ev_open ?_; intro K hK) | ((with_reducible show SkOpen _ _ _ _ _ _ _); refine sk_open ?_; intro K hK) | ((with_reducible show callK _ _ _ _ _ _ _ _); first  | fail)); simp only [evOp, evQ, evB, withS, opd, kput, putS, upd, lookup, bringIn, bring, Res.list, Res.slot, slotsOf, sz_ints, c_int, swpS, swSl, oldC, List.map_cons, List.map_nil, Nat.reduceEqDiff, Nat.reduceLT, Nat.mul_one, Nat.add_zero, Nat.zero_add, ↓reduceIte, eq_self, true_and, Option.isSome_some]) | refine ev_guard rfl rfl rfl ?_ ?_ | ((with_reducible show retQ _ _ _ _); simp only [eq_self]) | (with_reducible refine hK _ ?_; clear hK K) | (with_reducible refine And.intro ?_ ?_) | (with_reducible intro hc; try simp only [eq_self] at hc) | omega)
  all_goals first
    | (refine retC_int (x := l x.toNat) ?_ rfl (by omega) (hp _ (by omega))
       show some (Slot.one (SV.pv (oldZ _ (f x.toNat)))) = _
       rw [hf _ (by omega)]; rfl)
    | trace_state

theorem among4_fn (k : Nat) (f : Nat → V) (a0 a1 a2 a3 : Int) (p : Int → Prop) (hk : k ≤ 549755813880) (hb : BytOk m g) (h0 : f 0 = vi a0) (h1 : f 1 = vi a1) (h2 : f 2 = vi a2) (h3 : f 3 = vi a3) (hp : p a0 ∧ p a1 ∧ p a2 ∧ p a3) : FnC Try.prog 88 b k (k + 2) Z (bytV m g) [.seq 1 4 f] (someI p) :=
  among_fn k 4 f (fun i => [a0, a1, a2, a3].getD i 0) p hk (by omega) hb (fun i hi => by
    match i, hi with
    | 0, _ => exact h0
    | 1, _ => exact h1
    | 2, _ => exact h2
    | 3, _ => exact h3) fun i hi => by
    match i, hi with
    | 0, _ => exact hp.1
    | 1, _ => exact hp.2.1
    | 2, _ => exact hp.2.2.1
    | 3, _ => exact hp.2.2.2

theorem among5_fn (k : Nat) (f : Nat → V) (a0 a1 a2 a3 a4 : Int) (p : Int → Prop) (hk : k ≤ 549755813880) (hb : BytOk m g) (h0 : f 0 = vi a0) (h1 : f 1 = vi a1) (h2 : f 2 = vi a2) (h3 : f 3 = vi a3) (h4 : f 4 = vi a4) (hp : p a0 ∧ p a1 ∧ p a2 ∧ p a3 ∧ p a4) : FnC Try.prog 88 b k (k + 2) Z (bytV m g) [.seq 1 5 f] (someI p) :=
  among_fn k 5 f (fun i => [a0, a1, a2, a3, a4].getD i 0) p hk (by omega) hb (fun i hi => by
    match i, hi with
    | 0, _ => exact h0
    | 1, _ => exact h1
    | 2, _ => exact h2
    | 3, _ => exact h3
    | 4, _ => exact h4) fun i hi => by
    match i, hi with
    | 0, _ => exact hp.1
    | 1, _ => exact hp.2.1
    | 2, _ => exact hp.2.2.1
    | 3, _ => exact hp.2.2.2.1
    | 4, _ => exact hp.2.2.2.2

theorem small_fn (k : Nat) (hk : k ≤ 549755813880) (hb : BytOk m g) : FnC Try.prog 154 b k (k + 2) Z (bytV m g) [] (someI fun x => -4 ≤ x ∧ x ≤ 8) := by
  refine FnC.of_body Try.call154 Try.func154 rfl Try.ntmps154 (ts := [2]) rfl (by simp) (someI.shape) (fun N cx hcx hbN => ?_)
  repeat' (first | ((with_reducible show evNx _ _ _ _ _ _); first | (with_reducible refine nx_done ?_) | (refine nx_one rfl ?_) | (refine nx_alt rfl ?_ ?_) | (with_reducible refine nx_st ?_)) | ((with_reducible show evSx _ _ _ _ _ _); first | (with_reducible refine sx_done ?_) | (with_reducible refine sx_st ?_) | (with_reducible refine sx_op ?_)) | ((with_reducible show evTake _ _ _ _ _); with_reducible refine take_nil ?_) | ((with_reducible show evSy _ _ _ _ _ _ _); first | (with_reducible refine sy_done ?_) | (refine sy_last rfl ?_) | (refine sy_one (by decide) rfl ?_) | (refine sy_alt (by decide) rfl ?_ ?_) | (with_reducible refine sy_st ?_)) | ((with_reducible show StK _ _ _); first | fail) | (with_reducible first | refine then_normal ?_ | refine then_ret ?_ | refine then_exit ?_ | refine block_normal ?_ | refine block_ret ?_) | ((with_reducible show blockQ _ _ _ _); first | refine block_exit ?_ | refine block_exit_ne rfl ?_) | ((with_reducible show AWP _ _ _ _ _); first | (refine AWP.region_sx (id := 1) [.op, .op, .op, .op] ?_) | (with_reducible first | refine AWP.seq ?_ | refine AWP.block ?_ | refine AWP.region ?_ | refine AWP.ret ?_ | refine AWP.exit ?_ | refine AWP.skip ?_) | refine AWP.drawn rfl (by kernel_rfl) ?_ | refine AWP.cond rfl ?_ ?_) | with_reducible refine ev_nil ?_ | ((first | ((with_reducible show evNx _ _ _ _ _ _); refine nx_take rfl ?_; intro K hK) | ((with_reducible show Ax _ _ _ _ _); first | ((first | refine ax_callC (f := 97) ?_); refine callC_go (x := _) (xs := _) rfl rfl rfl (by first | exact .inl (by rw [hcx]; exact rfl) | exact .inr (by assumption)) (by (try simp only [okS, okSl, okH, eq_self, true_and, and_true, and_self]); repeat' (first | exact trivial | exact rfl | exact disj_cut | exact disj_lt (by assumption) | assumption | omega | refine And.intro ?_ ?_ | (intro i hi; first | exact trivial | (split <;> first | exact trivial | exact disj_lt (by assumption) | exact disj_cut) | (repeat' split) <;> exact trivial))) (by (try simp only [okS, okSl, okH, eq_self, true_and, and_true, and_self]); repeat' (first | exact trivial | exact rfl | exact disj_cut | exact disj_lt (by assumption) | assumption | omega | refine And.intro ?_ ?_ | (intro i hi; first | exact trivial | (split <;> first | exact trivial | exact disj_lt (by assumption) | exact disj_cut) | (repeat' split) <;> exact trivial))) (fun K1 hK1 => by simp only [argsC, opd, lookup, Nat.zero_add, Nat.reduceEqDiff, ↓reduceIte, List.getElem?_cons_zero, List.getElem?_cons_succ, List.reverse_cons, List.reverse_nil, List.nil_append, List.cons_append]; repeat' (first | exact hK1 | exact trivial | exact disj_cut | assumption | omega | refine And.intro ?_ ?_)) ?_; first | (refine ⟨_, _, pick_fn _ _ (by omega) hb, ?_⟩; rintro _ ⟨x, hx, rfl⟩ hnewZ; clear hnewZ)) | (refine ax_op rfl ?_; intro K hK)) | ((with_reducible show evTake _ _ _ _ _); refine take_step rfl ?_; intro K hK) | ((with_reducible show evSy _ _ _ _ _ _ _); refine sy_take rfl ?_; intro K hK) | ((with_reducible show AxB _ _ _ _ _); first | (refine axb_op rfl rfl ?_; intro K hK)) | ((with_reducible show evOps _ _ _ _ _ _); (first | refine ev_step rfl ?_ | refine ev_undef rfl rfl rfl ?_); intro K hK) | ((with_reducible show EvOpen _ _ _ _ _ _ _); refine ev_open ?_; intro K hK) | ((with_reducible show SkOpen _ _ _ _ _ _ _); refine sk_open ?_; intro K hK) | ((with_reducible show callK _ _ _ _ _ _ _ _); first  | fail)); simp only [evOp, evQ, binK, withS, opd, kput, putS, upd, lookup, bringIn, bring, Res.list, Res.slot, slotsOf, InK_i64, swpS, swSl, List.map_nil, Nat.reduceEqDiff, Nat.reduceLT, Nat.zero_add, ↓reduceIte, eq_self, true_and]) | refine ev_guard rfl rfl rfl ?_ ?_ | ((with_reducible show retQ _ _ _ _); simp only [eq_self]) | (with_reducible refine hK _ ?_; clear hK K) | (with_reducible refine And.intro ?_ ?_) | (with_reducible intro hc; try simp only [eq_self] at hc) | omega)
  all_goals first
    | (refine retC_int rfl rfl (by omega) ?_; omega)
    | trace_state

/-- A number of some size. -/
abbrev big64 (x : Int) : Prop := -9223372036854775808 ≤ x ∧ x ≤ 9223372036854775807

end

end Go.Proofs.Yteapdildbfimnaa
namespace Go.Proofs.Yteapdildbfimnaa
open Go.RowKit Go.Proofs
set_option linter.unusedSimpArgs false
set_option linter.unusedVariables false
set_option maxRecDepth 20000

/-- Some list of which p holds. -/
def someL (p : List Int → Prop) : Res → Prop := fun r => ∃ l : List Int, p l ∧ r = .one (.fr 1 l.length (bints l))
theorem someL.shape {p : List Int → Prop} (r : Res) (h : someL p r) : r.shape 1 = true := by obtain ⟨x, _, rfl⟩ := h; rfl
/-- No longer than q, of machine words. -/
def LP (q : Nat) (l : List Int) : Prop := l.length ≤ q ∧ ∀ i, big64 (l.getD i 0)
theorem LP.len {q : Nat} {l : List Int} (h : LP q l) (hq : q ≤ 1099511627776) : l.length ≤ 1099511627776 := Nat.le_trans h.1 hq
theorem LP.nil (q : Nat) : LP q [] := ⟨Nat.zero_le _, fun i => by simp [big64]⟩
theorem LP.snoc {q : Nat} {l : List Int} {x : Int} (h : LP q l) (hx : big64 x) (hl : l.length < q) : LP q (l ++ [x]) := by
  refine ⟨by simp; omega, fun i => ?_⟩
  rcases Nat.lt_trichotomy i l.length with h1 | h1 | h1
  · have := h.2 i; simpa [List.getD, List.getElem?_append_left h1] using this
  · subst h1; simpa [List.getD] using hx
  · have e : (l ++ [x]).getD i 0 = 0 := by rw [List.getD, List.getElem?_eq_none (by simp; omega)]; rfl
    rw [e]; simp [big64]
theorem LP.set {q : Nat} {l : List Int} {x : Int} {j : Nat} (h : LP q l) (hx : big64 x) : LP q (l.set j x) := by
  refine ⟨by simp; exact h.1, fun i => ?_⟩
  by_cases e : i = j
  · subst e
    by_cases hi : i < l.length
    · simpa [List.getD, hi] using hx
    · have e : (l.set i x).getD i 0 = 0 := by rw [List.getD, List.getElem?_eq_none (by simp; omega)]; rfl
      rw [e]; simp [big64]
  · have := h.2 i; simpa [List.getD, List.getElem?_set_ne (fun h => e h.symm)] using this
theorem LP.mono {q q' : Nat} {l : List Int} (h : LP q l) (hq : q ≤ q') : LP q' l := ⟨Nat.le_trans h.1 hq, h.2⟩
/-- The ways through an if meet again. -/
theorem AWP.condX [Cx] {P : Program} {N t : Nat} {x1 x2 y : Code} {Q Q' : Exit → ASt → Prop} {s : ASt} {ι : Type} (inv : ι → ASt) (G : ι → Prop) (h : AWP N P (.cond (.tmp t) x1 x2) (thenQ (fun s' => ∃ i, G i ∧ ∃ m, EntR m s' (inv i)) Q') s) (h' : Later (∀ i, G i → AWP N P y Q (inv i))) : AWP N P (.cond (.tmp t) x1 x2) (thenQ (AWP N P y Q) Q') s :=
  fun w0 S0 a w hN sim => wp_mono (h w0 S0 a w hN sim) fun e a' w' ⟨s', hq, sim'⟩ => by
    cases e with
    | normal => obtain ⟨i, hG, m, hq⟩ := hq; obtain ⟨w1, hR, sim'⟩ := sim'; exact ⟨inv i, h' i hG, w1, hR, EntR.sim hq sim'⟩
    | _ => exact ⟨s', hq, sim'⟩

theorem AWP.mono [Cx] {P : Program} {N : Nat} {c : Code} {Q Q' : Exit → ASt → Prop} {s : ASt} (h : AWP N P c Q s) (hQ : ∀ e s', Q e s' → Q' e s') : AWP N P c Q' s :=
  fun w0 S0 a w hN sim => wp_mono (h w0 S0 a w hN sim) fun e a' w' ⟨s', hq, sim'⟩ => ⟨s', hQ e s' hq, sim'⟩
/-- The ways through a region and the if behind it meet again. -/
theorem AWP.regX [Cx] {P : Program} {N id t : Nat} {ops : Array Oper} {d : Bool} {x1 x2 z : Code} {Q Q' Q'' : Exit → ASt → Prop} {s : ASt} {ι : Type} (inv : ι → ASt) (G : ι → Prop)
    (h : AWP N P (.region id ops d) (thenQ (AWP N P (.cond (.tmp t) x1 x2) (thenQ (fun s' => ∃ i, G i ∧ ∃ m, EntR m s' (inv i)) Q'')) Q') s) (h' : Later (∀ i, G i → AWP N P z Q (inv i))) :
    AWP N P (.region id ops d) (thenQ (AWP N P (.cond (.tmp t) x1 x2) (thenQ (AWP N P z Q) Q'')) Q') s :=
  AWP.mono h fun e s' hq => by
    cases e with
    | normal => exact AWP.condX inv G hq h'
    | _ => exact hq

section
variable {b m : Nat} {Z : Nat → Prop} {g : Nat → Int}

end
end Go.Proofs.Yteapdildbfimnaa
namespace Go.Proofs.Yteapdildbfimnaa
open Go.RowKit Go.Proofs
set_option linter.unusedSimpArgs false
set_option linter.unusedVariables false

theorem l1Least_fn (a b : Int) : Fn Try.prog 118 [vi a, vi b] (.one (.pv (vi (if a < b then a else b)))) := by
  refine Fn.of_body Try.call118 Try.func118 rfl Try.ntmps118 (ts := [4]) rfl (by simp) rfl (fun N => ?_)
  repeat' (first | (with_reducible first | refine then_normal ?_ | refine then_ret ?_ | refine then_exit ?_ | refine block_normal ?_ | refine block_ret ?_) | ((with_reducible show blockQ _ _ _ _); first | refine block_exit ?_ | refine block_exit_ne rfl ?_) | ((with_reducible show AWP _ _ _ _ _); first | (with_reducible first | refine AWP.seq ?_ | refine AWP.block ?_ | refine AWP.region ?_ | refine AWP.ret ?_ | refine AWP.exit ?_ | refine AWP.skip ?_) | refine AWP.drawn rfl (by kernel_rfl) ?_ | refine AWP.cond rfl ?_ ?_) | with_reducible refine ev_nil ?_ | ((first | ((with_reducible show evOps _ _ _ _ _ _); (first | refine ev_step rfl ?_ | refine ev_undef rfl rfl rfl ?_); intro K hK) | ((with_reducible show EvOpen _ _ _ _ _ _ _); refine ev_open ?_; intro K hK) | ((with_reducible show SkOpen _ _ _ _ _ _ _); refine sk_open ?_; intro K hK) | ((with_reducible show callK _ _ _ _ _ _ _ _); first | fail)); simp only [evOp, evQ, binK, withS, opd, kput, putS, upd, lookup, slotsOf, Nat.reduceEqDiff, Nat.reduceLT, Nat.zero_add, ↓reduceIte, eq_self, true_and]) | refine ev_guard rfl rfl rfl ?_ ?_ | ((with_reducible show retQ _ _ _ _); simp only [retQ, retOk, getL, lookup, Option.map_some, fitsL, fits, ND, srcs, Res.list, VE, Value.int.injEq, Nat.reduceEqDiff, ↓reduceIte, and_true, true_and]) | (with_reducible refine hK _ ?_; clear hK K) | (with_reducible refine And.intro ?_ ?_) | (with_reducible intro hc; try simp only [decide_eq_true_eq, decide_eq_false_iff_not, Int.not_lt] at hc) | omega)
  all_goals first | (rw [if_pos ‹_›]; done) | (rw [if_neg (by omega)]; done)

end Go.Proofs.Yteapdildbfimnaa
namespace Go.Proofs.Yteapdildbfimnaa
open Go.RowKit Go.Proofs
set_option linter.unusedSimpArgs false
set_option linter.unusedVariables false

/-- The world behind k rounds of marking block b from m on. -/
def Marked (b : Nat) (cur : Array Value) (e : TypeId) (w : World) (k : Nat) (m : Int) (wr : World) : Prop :=
  AllBut b w wr ∧ ∃ cur' : Array Value, wr.heap[b]? = some (.cells cur' e (0, 0)) ∧ cur'.size = cur.size ∧ ∀ i, i < k → cur'[i]? = some (.int .i64 (m + i))

theorem Marked.cell {b : Nat} {cur : Array Value} {e : TypeId} {w wr : World} {k : Nat} {m : Int} (h : Marked b cur e w k m wr) (hk : k < cur.size) : (∃ x, wr.cell? ⟨b, k, none⟩ = some x) ∧ wr.frozen? ⟨b, k, none⟩ = false := by
  obtain ⟨_, cur', h1, h2, _⟩ := h
  exact ⟨⟨cur'[k], cell_of_blk h1 (Array.getElem?_eq_getElem (by omega))⟩, by simp [World.frozen?, h1]⟩

theorem Marked.step {b : Nat} {cur : Array Value} {e : TypeId} {w wr : World} {k : Nat} {m : Int} (h : Marked b cur e w k m wr) (hk : k < cur.size) :
    Marked b cur e w (k + 1) m (wr.setCell ⟨b, k, none⟩ (.int .i64 (m + k))) := by
  obtain ⟨ha, cur', h1, h2, h3⟩ := h
  refine ⟨⟨ha.os, ha.tape, ha.output, by rw [setCell_size]; exact ha.size, fun j hj hne => (Below.heap_setCell _ _ _ _ hne).trans (ha.oth j hj hne)⟩, _, setCell_at h1, by simpa using h2, fun i hi => ?_⟩
  by_cases e : i = k
  · subst e; simp [show i < cur'.size by omega]
  · rw [Array.getElem?_setIfInBounds_ne (fun h => e h.symm)]; exact h3 i (by omega)

end Go.Proofs.Yteapdildbfimnaa
namespace Go.Proofs.Yteapdildbfimnaa
open Go.RowKit Go.Proofs
set_option linter.unusedSimpArgs false
set_option linter.unusedVariables false

end Go.Proofs.Yteapdildbfimnaa
namespace Go.Proofs.Yteapdildbfimnaa
open Go.RowKit Go.Proofs
theorem z_cur : zeroOf Try.prog 73 = some [.slice none 0 0, .int .i64 0, .int .u64 0] := by kernel_rfl
theorem pl_cur : placesOf Try.prog 73 = some [(0, 1), (1, 1), (2, 1)] := by kernel_rfl
theorem fc_0 : fieldIn Try.prog 73 0 = some (0, none) := by kernel_rfl
set_option linter.unusedSimpArgs false
set_option linter.unusedVariables false
set_option maxRecDepth 20000

/-- Two lists of which p holds. -/
def some2L (p : List Int → Prop) : Res → Prop := fun r => ∃ l h : List Int, (p l ∧ p h) ∧ r = .many [.fr 1 l.length (bints l), .fr 1 h.length (bints h)]
theorem some2L.shape {p : List Int → Prop} (r : Res) (h : some2L p r) : r.shape 2 = true := by obtain ⟨x, y, _, rfl⟩ := h; rfl
section
variable {b m : Nat} {Z : Nat → Prop} {g : Nat → Int}

end

open Go.RowKit Go.Proofs
set_option linter.unusedSimpArgs false
set_option linter.unusedVariables false
set_option maxRecDepth 20000

theorem AWP.letCur_rg [Cx] {P : Program} {N id : Nat} {ops : Array Oper} {d : Bool} {Q : Exit → ASt → Prop} {s : ASt} (t : Nat) {i : Nat} {blk : Blk} {Z : Nat → Prop} {c : V} (ht : lookup s.σ t = some (.one (.ptr i 0))) (hb : s.h[i]? = some (some blk)) (hn : Nat.ble 3 blk.n = true) (h0 : blk.f 0 = .old Z c) (h1 : blk.f 1 = .val (.int .i64 0)) (h2 : blk.f 2 = .val (.int .u64 0)) (hZ : ∀ j, Z j → j < N)
    (h : ∀ b, N ≤ b → AWP N P (.region id ops d) Q ⟨upd s.σ t (.one (.pv (.cur b 0 Z c))), s.h.set i none, s.nt⟩) : AWP N P (.region id ops d) Q s :=
  AWP.letCur t ⟨i, blk, Z, c, ht, hb, Nat.le_of_ble_eq_true hn, h0, h1, h2, hZ, fun b hb _ => h b hb⟩

/-- Three lists of which p holds. -/
def some3L (p : List Int → Prop) : Res → Prop := fun r => ∃ l h q : List Int, (p l ∧ p h ∧ p q) ∧ r = .many [.fr 1 l.length (bints l), .fr 1 h.length (bints h), .fr 1 q.length (bints q)]
theorem some3L.shape {p : List Int → Prop} (r : Res) (h : some3L p r) : r.shape 3 = true := by obtain ⟨x, y, z, _, rfl⟩ := h; rfl
/-- Two lists of which p holds, and an integer. -/
def some2I (p : List Int → Prop) : Res → Prop := fun r => ∃ (l h : List Int) (x : Int), (p l ∧ p h ∧ big64 x) ∧ r = .many [.fr 1 l.length (bints l), .fr 1 h.length (bints h), .pv (vi x)]
theorem some2I.shape {p : List Int → Prop} (r : Res) (h : some2I p r) : r.shape 3 = true := by obtain ⟨x, y, z, _, rfl⟩ := h; rfl

section
variable {m : Nat} {g : Nat → Int}
end

end Go.Proofs.Yteapdildbfimnaa
namespace Go.Proofs.Yteapdildbfimnaa
open Go.ChangeShapes Go.WideShapes Go.ChangeAt Go.RowKit
set_option linter.unusedSimpArgs false
set_option linter.unusedVariables false

theorem wf_byte {n : Int} (h : (Lit.int .u8 n).wf = true) : 0 ≤ n ∧ n < 256 := by
  simp [Lit.wf, IntKind.wrap, IntKind.bits, IntKind.signed, IntKind.min, IntKind.max] at h
  omega

theorem rd_bytes {H : Type} {enc : TypeId × Value → H} {P : Program} {w : World} {base : Nat} {held : Bool} {t e : TypeId} {fuel : Nat} {a : Option Addr} {len cap : Nat} {x : DataW H × List MemPlace} (ht : P.underlying t = some (.slice e)) (he : P.underlying e = some (.int .u8)) (hc : P.cellsOf e = 1)
    (h : DataW.trod enc P w base (fun _ => true) held fuel t (Value.slice a len cap).cells.toList = some x) :
    ∃ (m : Nat) (g : Nat → Int), Rd w (fun _ => True) (bytV m g) (.slice a len cap) ∧ m ≤ 9223372036854775807 ∧ ∀ i, i < m → 0 ≤ g i ∧ g i < 256 := by
  have hM : maxLen ≤ 9223372036854775807 := by decide
  rcases open_ints ht he hc h with ⟨hcs, _⟩ | ⟨x, l, c, zs, hcs, _, hl, hm, hz, _, hcell, hwz⟩
  · simp [Value.cells] at hcs
    obtain ⟨rfl, rfl, rfl⟩ := hcs
    exact ⟨0, fun _ => 0, ⟨none, 0, rfl, Nat.le_refl _, fun h => by simp at h⟩, by omega, fun i hi => by omega⟩
  · simp [Value.cells] at hcs
    obtain ⟨rfl, rfl, rfl⟩ := hcs
    have hz : zs.length = cap := by simpa using hz
    refine ⟨len, fun i => zs.getD i 0, ⟨some x, cap, rfl, hl, fun hp => ?_⟩, by omega, fun i hi => ?_⟩
    · rw [Nat.mul_one] at hp
      have h0 := hcell 0 (by omega)
      have hs : x.spot = none := spot_of_cell (by rw [← add_zero_addr x]; exact h0)
      obtain ⟨b, off, spot⟩ := x
      have hs : spot = none := hs
      subst hs
      refine ⟨b, off, rfl, trivial, fun i hi => ⟨_, by rw [← add_none]; exact hcell i (by omega), ?_⟩⟩
      rfl
    · have hi' : i < zs.length := by omega
      have e : zs.getD i 0 = zs[i] := by simp [List.getD, hi']
      show 0 ≤ zs.getD i 0 ∧ zs.getD i 0 < 256
      rw [e]
      exact wf_byte (hwz _ (List.getElem_mem hi'))

theorem rd_bytesZ {H : Type} {enc : TypeId × Value → H} {P : Program} {w : World} {base : Nat} {held : Bool} {t e : TypeId} {fuel : Nat} {a : Option Addr} {len cap : Nat} {x : DataW H × List MemPlace} (ht : P.underlying t = some (.slice e)) (he : P.underlying e = some (.int .u8)) (hc : P.cellsOf e = 1)
    (h : DataW.trod enc P w base (fun _ => true) held fuel t (Value.slice a len cap).cells.toList = some x) :
    ∃ (m : Nat) (g : Nat → Int), Rd w (fun _ => True) (bytV m g) (.slice a len cap) ∧ m ≤ 9223372036854775807 ∧ (∀ i, i < m → 0 ≤ g i ∧ g i < 256) ∧ (m = 0 ∨ ∃ el sp : List (DataW H), x.1 = .slice el sp ∧ el.length = m) := by
  obtain ⟨m, g, h1, h2, h3⟩ := rd_bytes ht he hc h
  refine ⟨m, g, h1, h2, h3, ?_⟩
  obtain ⟨A, c, e1, hle, h4⟩ := h1
  injection e1 with e1 e2 e3
  subst e2
  rcases open_ints ht he hc h with ⟨hcs, hx⟩ | ⟨x', l, c', zs, hcs, _, hl, hm, hz, hx, hcell, hwz⟩
  · simp [Value.cells] at hcs
    exact .inl hcs.2.1
  · simp [Value.cells] at hcs
    obtain ⟨_, rfl, rfl⟩ := hcs
    have hz : zs.length = cap := by simpa using hz
    refine .inr ⟨_, _, by rw [hx], ?_⟩
    simp [lits]
    omega

/-- What waits for the next stage of a walk. -/
def HoldR (p : Prop) : Prop := p
theorem AWP.holdR [Cx] {P : Program} {N : Nat} {id : Nat} {ops : Array Oper} {d : Bool} {Q : Exit → ASt → Prop} {s : ASt} (h : HoldR (AWP N P (.region id ops d) Q s)) : AWP N P (.region id ops d) Q s := h
end Go.Proofs.Yteapdildbfimnaa
namespace Go.Proofs.Yteapdildbfimnaa
set_option linter.unusedSimpArgs false
set_option linter.unusedVariables false
open Go.RowKit Go.ChangeMaps

/-- w' differs from w in block b, what a range has got to. -/
structure ItB (b : Nat) (w w' : World) : Prop where
  os : w'.os = w.os
  tape : w'.tape = w.tape
  output : w'.output = w.output
  size : w'.heap.size = w.heap.size
  oth : ∀ j, j ≠ b → w'.heap[j]? = w.heap[j]?
  was : ∃ s p, w.heap[b]? = some (.stringIter s p)
theorem ItB.cells {b : Nat} {w w' : World} (h : ItB b w w') {j : Nat} {cur : Array Value} {e : TypeId} {q : Nat × Nat} (hc : w.heap[j]? = some (.cells cur e q)) : w'.heap[j]? = some (.cells cur e q) := by
  have hne : j ≠ b := by
    rintro rfl
    obtain ⟨es, c, hb⟩ := h.was
    rw [hb] at hc; cases hc
  rw [h.oth _ hne]; exact hc
theorem ItB.cell {b : Nat} {w w' : World} (h : ItB b w w') {a : Addr} {x : Value} (hc : w.cell? a = some x) : w'.cell? a = some x := by
  have hne : a.block ≠ b := by
    intro e
    obtain ⟨es, c, hb⟩ := h.was
    unfold World.cell? at hc
    rw [e, hb] at hc; cases hc
  rw [World.cell?_of_block (w := w) (h.oth _ hne)]; exact hc
theorem ItB.wr {b : Nat} {w w' : World} (h : ItB b w w') {j : Nat} (hw : Wr w j) : Wr w' j := by
  obtain ⟨cur, e, hc⟩ := hw
  exact ⟨cur, e, hc.imp h.cells fun hc => ⟨hc.1, h.cells hc.2⟩⟩
theorem Rd.iter {b : Nat} {w w' : World} (h : ItB b w w') : ∀ {S : Nat → Prop} (v : V) (u : Value), Rd w S v u → Rd w' S v u
  | S, .val _, _, h' => h'
  | S, .seq sz n f, u, h' => by
    obtain ⟨A, c, rfl, hc, h'⟩ := h'
    refine ⟨A, c, rfl, hc, fun hp => ?_⟩
    obtain ⟨g, off, rfl, hS, h'⟩ := h' hp
    refine ⟨g, off, rfl, hS, fun i hi => ?_⟩
    obtain ⟨x, hx, hr⟩ := h' i hi
    exact ⟨x, h.cell hx, Rd.iter h (f i) x hr⟩
  | S, .agg n f, u, h' => by
    obtain ⟨cs, rfl, hn, h'⟩ := h'
    refine ⟨cs, rfl, hn, fun i hi => ?_⟩
    obtain ⟨x, hx, hr⟩ := h' i hi
    exact ⟨x, hx, Rd.iter h (f i) x hr⟩
  | S, .pin n f, u, h' => by
    obtain ⟨g, off, rfl, h'⟩ := h'
    refine ⟨g, off, rfl, fun i hi => ?_⟩
    obtain ⟨hS, x, hx, hr⟩ := h' i hi
    exact ⟨hS, x, h.cell hx, Rd.iter h (f i) x hr⟩
  | S, .clo g n f, u, h' => by
    obtain ⟨cs, rfl, hn, h'⟩ := h'
    refine ⟨cs, rfl, hn, fun i hi => ?_⟩
    obtain ⟨x, hx, hr⟩ := h' i hi
    exact ⟨x, hx, Rd.iter h (f i) x hr⟩
  | S, .old Z v, u, h' => ⟨fun j hj => ⟨(h'.1 j hj).1, by rw [h.size]; exact (h'.1 j hj).2⟩, Rd.iter h v u h'.2⟩
  | S, .row u0 Z sz n f, u, h' => by
    obtain ⟨e, hz, A, c, hu, hc, h'⟩ := h'
    refine ⟨e, fun j hj => ⟨(hz j hj).1, h.wr (hz j hj).2⟩, A, c, hu, hc, fun hp => ?_⟩
    obtain ⟨g, off, hA, hZ, h'⟩ := h' hp
    refine ⟨g, off, hA, hZ, fun i hi => ?_⟩
    obtain ⟨x, hx, hr⟩ := h' i hi
    exact ⟨x, h.cell hx, Rd.iter h (f i) x hr⟩
  | S, .grow u0 Z e sz n f, u, h' => by
    obtain ⟨hu, hz, h'⟩ := h'
    refine ⟨hu, fun j hj => ⟨(hz j hj).1, h.wr (hz j hj).2⟩, ?_⟩
    rcases h' with h' | ⟨g, c, cur, h1, h2, h3, h4, h5, h6, h7⟩
    · exact .inl h'
    · refine .inr ⟨g, c, cur, h1, h2, h3, h4, h5.imp h.cells (fun h5 => ⟨h5.1, h.cells h5.2⟩), h6, fun i hi => ?_⟩
      obtain ⟨x, hx, hr⟩ := h7 i hi
      exact ⟨x, hx, Rd.iter h (f i) x hr⟩
  | S, .cur g k Z c, u, h' => by
    obtain ⟨hu, hb, hz, cur, cv, p, q, e, hc, h3, hp, hq, hr⟩ := h'
    exact ⟨hu, hb, fun j hj => ⟨(hz j hj).1, by rw [h.size]; exact (hz j hj).2.1, (hz j hj).2.2⟩, cur, cv, p, q, e, h.cells hc, h3, hp, hq, Rd.iter h c cv hr⟩

/-- What the slots hold behind a step of the range in block b. -/
def swIV (b : Nat) (s : ByteArray) (p : Nat) : SV → SV
  | .it b0 s0 p0 => if b0 = b then .it b0 s p else .it b0 s0 p0
  | v => v
def swIM (b : Nat) (s : ByteArray) (p : Nat) : Slot → Slot
  | .one v => .one (swIV b s p v)
  | .many vs => .many (vs.map (swIV b s p))
def swI (b : Nat) (s : ByteArray) (p : Nat) : List (Nat × Slot) → List (Nat × Slot)
  | [] => []
  | (t, v) :: r => (t, swIM b s p v) :: swI b s p r
theorem swI_get {b : Nat} {s : ByteArray} {p t : Nat} {v : Slot} : ∀ {σ : List (Nat × Slot)}, lookup (swI b s p σ) t = some v → ∃ v0, lookup σ t = some v0 ∧ v = swIM b s p v0
  | [], h => by cases h
  | (i, x) :: r, h => by
    simp only [swI, lookup] at h ⊢
    by_cases e : i = t
    · rw [if_pos e] at h ⊢; injection h with h; exact ⟨x, rfl, h.symm⟩
    · rw [if_neg e] at h ⊢; exact swI_get h

section
variable {P : Program} {N : Nat} {w0 : World} {S0 : Nat → Prop} {s : ASt} {φ : List (Option (Nat × Nat))} {a : Act} {w : World}

theorem RdS.iter {b : Nat} {w' : World} {x : ByteArray} {p : Nat} {S : Nat → Prop} (h : ItB b w w') (hm : w'.heap[b]? = some (.stringIter x p)) : ∀ (v : SV) (u : Value), RdS w S φ v u → RdS w' S φ (swIV b x p v) u
  | .pv v, u, h' => Rd.iter h v u h'
  | .own id sz off len, u, h' => h'
  | .ptr id off, u, h' => h'
  | .pin n f, u, h' => by
    obtain ⟨g, off, rfl, h'⟩ := h'
    refine ⟨g, off, rfl, fun i hi => ?_⟩
    obtain ⟨hS, x, hx, hr⟩ := h' i hi
    exact ⟨hS, x, h.cell hx, Rd.iter h (f i) x hr⟩
  | .mp b0 L0, u, h' => by
    obtain ⟨h1, h2, es0, c0, h3, h4⟩ := h'
    have e : b0 ≠ b := by
      rintro rfl
      obtain ⟨es1, c1, h5⟩ := h.was
      rw [h5] at h3; cases h3
    exact ⟨h1, h2, es0, c0, by rw [h.oth _ e]; exact h3, h4⟩
  | .it b0 s0 p0, u, h' => by
    obtain ⟨h1, h2, h3⟩ := h'
    show RdS w' S φ (if b0 = b then .it b0 x p else .it b0 s0 p0) u
    by_cases e : b0 = b
    · subst e; rw [if_pos rfl]; exact ⟨h1, h2, hm⟩
    · rw [if_neg e]; exact ⟨h1, h2, by rw [h.oth _ e]; exact h3⟩
theorem RdSs.iter {b : Nat} {w' : World} {x : ByteArray} {p : Nat} {S : Nat → Prop} (h : ItB b w w') (hm : w'.heap[b]? = some (.stringIter x p)) : ∀ (vs : List SV) (us : List Value), RdSs w S φ vs us → RdSs w' S φ (vs.map (swIV b x p)) us
  | [], [], _ => trivial
  | [], _ :: _, h' => h'.elim
  | _ :: _, [], h' => h'.elim
  | v :: vs, u :: us, h' => ⟨RdS.iter h hm v u h'.1, RdSs.iter h hm vs us h'.2⟩

theorem SimAt.iter (sim : SimAt w0 S0 s φ a w) {b : Nat} (hb : w0.heap.size ≤ b) {w' : World} (h : ItB b w w') {x : ByteArray} {p : Nat} (hm : w'.heap[b]? = some (.stringIter x p)) : SimAt w0 S0 ⟨swI b x p s.σ, s.h, s.nt⟩ φ a w' := by
  refine ⟨⟨sim.heap.len, ⟨?_, ?_, ?_, ?_, fun j hj => ?_⟩, fun id blk hi => ?_, sim.heap.inj⟩, fun t v ht => ?_, sim.defers, sim.size⟩
  · rw [h.os, sim.heap.below.os]
  · rw [h.tape, sim.heap.below.tape]
  · rw [h.output, sim.heap.below.output]
  · rw [h.size]; exact sim.heap.below.size
  · rw [h.oth j (by omega)]; exact sim.heap.below.block j hj
  · rcases sim.heap.blk id blk hi with h1 | ⟨g, cu, h1, h2, h4, h5, h6⟩
    · exact .inl h1
    · refine .inr ⟨g, cu, h1, h2, h.cells h4, h5, fun i hi' => ?_⟩
      obtain ⟨x, hx, hrx⟩ := h6 i hi'
      exact ⟨x, hx, Rd.iter h _ _ hrx⟩
  · obtain ⟨v0, h1, rfl⟩ := swI_get ht
    obtain ⟨y, hy, hry⟩ := sim.slots t v0 h1
    refine ⟨y, hy, ?_⟩
    cases v0 with
    | one v0 => exact RdS.iter h hm v0 y hry
    | many vs =>
      obtain ⟨us, rfl, hry⟩ := hry
      exact ⟨us, rfl, RdSs.iter h hm vs us hry⟩

/-! ### The operations -/
theorem ax_rangeStr [Cx] {K : ASt → Prop} {t : TypeId} {x : Operand} {d ty : Nat} {pos : String} {after : Array Edge} {z : ByteArray} (hx : opd s x = some (sc (.string z))) (ht : P.underlying t = some .string) (hd : Nat.ble (d + 1) s.nt = true) (h : ∀ b, N ≤ b → K (putS s d (.one (.it b z 0)))) : Ax N P K ⟨some d, .range t x, ty, pos, after, none⟩ s := by
  refine ⟨rfl, fun w0 S0 φ a w hN sim next Q hnx => ?_⟩
  have hsz := sim.heap.below.size
  have hvx : a.eval x = .string z := val_of sim hx
  have hr : (execOp a.eval ⟨some d, .range t x, ty, pos, after, none⟩).run P w = .ok (.value (.pointer (some ⟨w.heap.size, 0, none⟩))) (w.alloc (.stringIter z 0)) := by
    simp only [execOp, hvx, Sem.run_bind, run_range_string w t z ht, Result.andThen_ok, World.iter]
    rfl
  unfold Oper.wp
  rw [hr, Oper.upon_value]
  have sim' := sim.after (below_alloc w (.stringIter z 0))
  refine hnx _ _ _ (h w.heap.size (by omega)) ⟨w0, Reb.refl _, φ, sim'.put (d := d) (Nat.le_of_ble_eq_true hd) (v := .one (.it w.heap.size z 0)) ⟨rfl, ⟨.inr (by omega), ?_⟩, heap_alloc_new w _⟩⟩
  rintro ⟨id, blk, z, h1, h2⟩
  rcases sim.heap.blk id blk h1 with ⟨h3, _⟩ | ⟨g, cu, h3, h4, h5, _⟩
  · rw [h3] at h2; cases h2
  · rw [h3] at h2
    injection h2 with h2; injection h2 with h2; injection h2 with h2 _
    have := block_lt h5
    omega

theorem byteI_get {z : ByteArray} {p : Nat} (h : p < z.size) : ((z[p]'h).toNat : Int) = byteI z p := by
  unfold byteI bytesOf
  have h' : p < z.data.toList.length := by rw [Array.length_toList]; exact h
  rw [List.getD, List.getElem?_eq_getElem h']
  simp only [Option.getD_some, Array.getElem_toList]
  rfl

theorem ax_nextStr [Cx] {K : ASt → Prop} {x : Operand} {d ty : Nat} {pos : String} {after : Array Edge} {b p : Nat} {z : ByteArray} (hx : opd s x = some (.one (.it b z p))) (hb : N ≤ b) (hd : Nat.ble (d + 1) s.nt = true) (hp : p < lenB z) (ha : byteI z p < 128)
    (h : K (putS ⟨swI b z (p + 1) s.σ, s.h, s.nt⟩ d (.many [.pv (vb true), .pv (vi p), .pv (.val (.int .i32 (byteI z p)))]))) : Ax N P K ⟨some d, .next x true, ty, pos, after, none⟩ s := by
  refine ⟨rfl, fun w0 S0 φ a w hN sim next Q hnx => ?_⟩
  obtain ⟨h1, h2, h3⟩ := sim.opd hx
  have hlt : p < z.size := by rw [← lenB_size]; exact hp
  have hg := byteI_get hlt
  have hdec := decode_ascii z p hlt (by omega)
  have hr : (execOp a.eval ⟨some d, .next x true, ty, pos, after, none⟩).run P w = .ok (.value (.tuple #[.bool true, .int .i64 p, .int .i32 (byteI z p)])) (setBlock w b (.stringIter z (p + 1))) := by
    have hbl : b < w.heap.size := block_lt h3
    simp [execOp, h1, Instr.next, getObj, setObj, Sem.run_bind, Sem.run, h3, Result.andThen, hlt, hdec, setBlock, goInt, hg]
  unfold Oper.wp
  rw [hr, Oper.upon_value]
  have hB : ItB b w (setBlock w b (.stringIter z (p + 1))) := ⟨rfl, rfl, rfl, by simp [setBlock], fun j hj => by simp [setBlock, Array.getElem?_setIfInBounds, Ne.symm hj], z, p, h3⟩
  exact hnx _ _ _ h ⟨w0, Reb.refl _, φ, (sim.iter (by omega) hB (by simp [setBlock, block_lt h3])).put (d := d) (Nat.le_of_ble_eq_true hd) (v := .many [.pv (vb true), .pv (vi p), .pv (.val (.int .i32 (byteI z p)))]) ⟨_, rfl, rfl, rfl, rfl, trivial⟩⟩

theorem ax_nextEnd [Cx] {K : ASt → Prop} {x : Operand} {d ty : Nat} {pos : String} {after : Array Edge} {b p : Nat} {z : ByteArray} (hx : opd s x = some (.one (.it b z p))) (hd : Nat.ble (d + 1) s.nt = true) (hp : ¬ p < lenB z)
    (h : K (putS s d (.many [.pv (vb false)]))) : Ax N P K ⟨some d, .next x true, ty, pos, after, none⟩ s := by
  refine ⟨rfl, fun w0 S0 φ a w hN sim next Q hnx => ?_⟩
  obtain ⟨h1, h2, h3⟩ := sim.opd hx
  have hlt : ¬ p < z.size := by rw [← lenB_size]; exact hp
  have hr : (execOp a.eval ⟨some d, .next x true, ty, pos, after, none⟩).run P w = .ok (.value (.tuple #[.bool false])) w := by
    simp [execOp, h1, Instr.next, getObj, Sem.run_bind, Sem.run, h3, Result.andThen, hlt]
  unfold Oper.wp
  rw [hr, Oper.upon_value]
  exact hnx _ _ _ h ⟨w0, Reb.refl _, φ, sim.put (d := d) (Nat.le_of_ble_eq_true hd) (v := .many [.pv (vb false)]) ⟨_, rfl, rfl, trivial⟩⟩
end
end Go.Proofs.Yteapdildbfimnaa
namespace Go.Proofs.Yteapdildbfimnaa
open Go.RowKit Go.Proofs
set_option linter.unusedSimpArgs false
set_option linter.unusedVariables false

/-- A function that hands its argument, read as v, back as it came with true, or nil with false. -/
structure FnPass (P : Program) (f : FuncId) (v : V) (ok : Bool) : Prop where
  entry : ∀ (args : Array Value) (w : World), (callFunc f args).run P w = .ok (.enter f args) w
  runs : ∀ (w : World) (u : Value), Gl w → Rd w (fun _ => True) v u → Calls P f #[u] w fun e w' => e = .returned (.tuple #[if ok = true then u else .slice none 0 0, .bool ok]) ∧ Below w.heap.size w w'

end Go.Proofs.Yteapdildbfimnaa
namespace Go.Proofs.Yteapdildbfimnaa
open Go.RowKit Go.Proofs
set_option linter.unusedSimpArgs false
set_option linter.unusedVariables false

theorem three {i : Nat} (h : i < 3) : i = 0 ∨ i = 1 ∨ i = 2 := by omega

theorem plBefore_fn (a b : T3) : Fn Try.prog 178 [term a, term b] (.one (.pv (vb (befB a b)))) := by
  refine Fn.of_body Try.call178 Try.func178 rfl Try.ntmps178 (ts := [4]) rfl (by simp) rfl (fun N => ?_)
  repeat' (first | (with_reducible first | refine then_normal ?_ | refine then_ret ?_ | refine then_exit ?_ | refine block_normal ?_ | refine block_ret ?_) | ((with_reducible show blockQ _ _ _ _); first | refine block_exit ?_ | refine block_exit_ne rfl ?_) | ((with_reducible show AWP _ _ _ _ _); first | (with_reducible first | refine AWP.seq ?_ | refine AWP.block ?_ | refine AWP.region ?_ | refine AWP.ret ?_ | refine AWP.exit ?_ | refine AWP.skip ?_) | refine AWP.drawn rfl (by kernel_rfl) ?_ | refine AWP.cond rfl ?_ ?_) | with_reducible refine ev_nil ?_ | ((first | ((with_reducible show evOps _ _ _ _ _ _); (first | refine ev_step rfl ?_ | refine ev_undef rfl rfl rfl ?_); intro K hK) | ((with_reducible show EvOpen _ _ _ _ _ _ _); refine ev_open ?_; intro K hK) | ((with_reducible show SkOpen _ _ _ _ _ _ _); refine sk_open ?_; intro K hK) | ((with_reducible show callK _ _ _ _ _ _ _ _); first | fail)); simp only [evOp, evQ, binK, withS, opd, kput, putS, upd, lookup, skipOp, loadOwn, slotsOf, frz, newBlk, boxV, c_int, fi0, fi1, t3_0, t3_1, List.getElem?_cons_zero, List.getElem?_cons_succ, List.nil_append, List.cons_append, List.length_cons, List.length_nil, Nat.reduceEqDiff, Nat.reduceLT, Nat.add_zero, Nat.zero_add, ↓reduceIte, eq_self, true_and, and_true, Bool.not_true, Bool.not_false, Bool.true_eq_false, Bool.false_eq_true, false_implies, forall_const]) | refine ev_guard rfl rfl rfl ?_ ?_ | ((with_reducible show retQ _ _ _ _); simp only [retQ, retOk, getL, lookup, Option.map_some, fitsL, fits, ND, srcs, Res.list, VE, Value.bool.injEq, Nat.reduceEqDiff, ↓reduceIte, and_true]) | (with_reducible refine hK _ ?_; clear hK K) | (with_reducible refine And.intro ?_ ?_) | (with_reducible intro hc; try simp only [decide_eq_true_eq, decide_eq_false_iff_not, beq_iff_eq, beq_eq_false_iff_ne, Bool.not_true, Bool.not_false, Int.not_lt, ne_eq, reduceCtorEq, Bool.true_eq_false] at hc) | omega)
  all_goals first
    | exact (befB_no (by omega)).symm
    | exact (befB_iff.2 (by omega)).symm
    | (unfold befB; rw [decide_eq_false (show ¬ a.1 < b.1 by omega), decide_eq_true (show a.1 = b.1 by omega)]; rfl)
    | trace_state

end Go.Proofs.Yteapdildbfimnaa
namespace Go.Proofs.Yteapdildbfimnaa
set_option linter.unusedSimpArgs false
set_option linter.unusedVariables false
open Go.RowKit

def valT (t : T3) (x y : Int) : Int := t.2.2 + t.1 * x + t.2.1 * y
def placesL (g : Nat → Int) (v : Int) : Nat → List Int
  | 0 => []
  | n + 1 => if g n = v then placesL g v n ++ [(n : Int)] else placesL g v n
theorem placesL_yes {g : Nat → Int} {v : Int} {n : Nat} (h : g n = v) : placesL g v (n + 1) = placesL g v n ++ [(n : Int)] := by show (if g n = v then _ else _) = _; rw [if_pos h]
theorem placesL_no {g : Nat → Int} {v : Int} {n : Nat} (h : ¬ g n = v) : placesL g v (n + 1) = placesL g v n := by show (if g n = v then _ else _) = _; rw [if_neg h]
theorem placesL_len (g : Nat → Int) (v : Int) : ∀ n, (placesL g v n).length ≤ n
  | 0 => by simp [placesL]
  | n + 1 => by
    have := placesL_len g v n
    by_cases h : g n = v
    · rw [placesL_yes h]; simp; omega
    · rw [placesL_no h]; omega
theorem placesL_mem (g : Nat → Int) (v : Int) : ∀ n (z : Int), z ∈ placesL g v n → 0 ≤ z ∧ z < n
  | 0, z, h => by simp [placesL] at h
  | n + 1, z, h => by
    by_cases h1 : g n = v
    · rw [placesL_yes h1] at h
      rcases List.mem_append.1 h with h2 | h2
      · have := placesL_mem g v n z h2; omega
      · simp at h2; omega
    · rw [placesL_no h1] at h
      have := placesL_mem g v n z h; omega
theorem placesL_first {g : Nat → Int} {v : Int} {n : Nat} (h : 1 ≤ (placesL g v n).length) : 0 ≤ (placesL g v n).getD 0 0 ∧ (placesL g v n).getD 0 0 < n := by
  refine placesL_mem g v n _ ?_
  have e : (placesL g v n).getD 0 0 = (placesL g v n)[0]'(by omega) := by simp [List.getD, show 0 < (placesL g v n).length by omega]
  rw [e]; exact List.getElem_mem _
theorem placesL_ne (g : Nat → Int) (v : Int) : ∀ n i, i < n → g i = v → 1 ≤ (placesL g v n).length
  | 0, i, h, _ => by omega
  | n + 1, i, h, hv => by
    by_cases h1 : g n = v
    · rw [placesL_yes h1]; simp
    · rw [placesL_no h1]
      rcases Nat.lt_or_ge i n with h2 | h2
      · exact placesL_ne g v n i h2 hv
      · rw [show i = n by omega] at hv; exact absurd hv h1

abbrev valP (l : List T3) (x y : Int) (i : Nat) : Int := valT (tAt l i) x y
end Go.Proofs.Yteapdildbfimnaa
namespace Go.Proofs.Yteapdildbfimnaa
open Go.RowKit Go.Proofs
set_option linter.unusedSimpArgs false
set_option linter.unusedVariables false

theorem grow_intsL {L : List Int} {v z : V} {m : Int} (h : v = vi m) : BE ⟨3, L.length + 1, fun j => if j < L.length then vi (L.getD j 0) else if j - L.length = 0 then v else z⟩ ⟨3, (L ++ [m]).length, fun j => vi ((L ++ [m]).getD j 0)⟩ := by
  refine ⟨rfl, by simp, fun j hj => VE.of_eq ?_⟩
  simp only [List.length_append, List.length_cons, List.length_nil, Nat.zero_add] at hj
  by_cases h1 : j < L.length
  · simp [h1, List.getD, List.getElem?_append_left h1]
  · have e : j = L.length := by omega
    subst e
    simp [h, List.getD]

theorem nuSumL_fn (n : Nat) (g : Nat → Int) (hn : n ≤ 1099511627776) : Fn Try.prog 179 [.seq 1 n fun i => vi (g i)] (.one (.pv (vi (leastN g n)))) := by
  refine Fn.of_body Try.call179 Try.func179 rfl Try.ntmps179 (ts := [2]) rfl (by simp) rfl (fun N => ?_)
  repeat' (first | (with_reducible first | refine then_normal ?_ | refine then_ret ?_ | refine then_exit ?_ | refine block_normal ?_ | refine block_ret ?_) | ((with_reducible show blockQ _ _ _ _); first | refine block_exit ?_ | refine block_exit_ne rfl ?_) | ((with_reducible show AWP _ _ _ _ _); first | (with_reducible first | refine AWP.seq ?_ | refine AWP.block ?_ | refine AWP.region ?_ | refine AWP.ret ?_ | refine AWP.exit ?_ | refine AWP.skip ?_) | refine AWP.drawn rfl (by kernel_rfl) ?_ | refine AWP.cond rfl ?_ ?_) | with_reducible refine ev_nil ?_ | ((first | ((with_reducible show evOps _ _ _ _ _ _); (first | refine ev_step rfl ?_ | refine ev_undef rfl rfl rfl ?_); intro K hK) | ((with_reducible show EvOpen _ _ _ _ _ _ _); refine ev_open ?_; intro K hK) | ((with_reducible show SkOpen _ _ _ _ _ _ _); refine sk_open ?_; intro K hK) | ((with_reducible show callK _ _ _ _ _ _ _ _); first | fail)); simp only [evOp, evQ, evB, withS, opd, kput, putS, upd, lookup, slotsOf, sz_ints, Nat.reduceEqDiff, Nat.reduceLT, ↓reduceIte, eq_self, true_and, Option.isSome_some]) | refine ev_guard rfl rfl rfl ?_ ?_ | ((with_reducible show retQ _ _ _ _); simp only [eq_self]) | (with_reducible refine hK _ ?_; clear hK K) | (with_reducible refine And.intro ?_ ?_) | (with_reducible intro hc; try simp only [eq_self] at hc) | omega)
  refine AWP.loop_ent (fun k : Nat => ⟨[(0, .one (.pv (.seq 1 n fun i => vi (g i)))), (3, sc (.int .i64 (leastN g k))), (6, .one (.pv (.seq 1 n fun i => vi (g i)))), (7, sc (.int .i64 n)), (8, sc (.int .i64 k))], [], 17⟩)
    (fun k => k ≤ n) (fun k => n - k) 0 (by omega) (by simp [Ent, EntS, EntH, SlE, VE, lookup, BE, leastN]) ?_
  intro k hk
  repeat' (first | (with_reducible first | refine then_normal ?_ | refine then_ret ?_ | refine then_exit ?_ | refine block_normal ?_ | refine block_ret ?_) | ((with_reducible show blockQ _ _ _ _); first | refine block_exit ?_ | refine block_exit_ne rfl ?_) | ((with_reducible show AWP _ _ _ _ _); first | (with_reducible first | refine AWP.seq ?_ | refine AWP.block ?_ | refine AWP.region ?_ | refine AWP.ret ?_ | refine AWP.exit ?_ | refine AWP.skip ?_) | refine AWP.drawn rfl (by kernel_rfl) ?_ | refine AWP.cond rfl ?_ ?_) | with_reducible refine ev_nil ?_ | ((first | ((with_reducible show evOps _ _ _ _ _ _); (first | refine ev_step rfl ?_ | refine ev_undef rfl rfl rfl ?_); intro K hK) | ((with_reducible show EvOpen _ _ _ _ _ _ _); refine ev_open ?_; intro K hK) | ((with_reducible show SkOpen _ _ _ _ _ _ _); refine sk_open ?_; intro K hK) | ((with_reducible show callK _ _ _ _ _ _ _ _); first  | (refine call_scalar (l1Least_fn _ _) (Nat.le_of_ble_eq_true rfl) rfl ?_))); simp only [evOp, evQ, binK, withS, opd, kput, putS, upd, lookup, argsK, bringIn, bring, Res.list, Res.slot, InK_i64, sz_ints, c_int, List.reverse_cons, List.reverse_nil, List.nil_append, List.cons_append, Nat.reduceEqDiff, Nat.reduceLT, Nat.mul_one, Nat.add_zero, ↓reduceIte, eq_self, true_and, Int.toNat_natCast]) | refine ev_guard rfl rfl rfl ?_ ?_ | ((with_reducible show retQ _ _ _ _); simp only [retQ, retOk, getL, lookup, Option.map_some, fitsL, fits, ND, srcs, Res.list, VE, Value.int.injEq, Nat.reduceEqDiff, ↓reduceIte, and_true, true_and]) | (with_reducible refine hK _ ?_; clear hK K) | (with_reducible refine And.intro ?_ ?_) | (with_reducible intro hc; try simp only [decide_eq_true_eq, decide_eq_false_iff_not, Int.not_lt] at hc) | omega)
  · exact ⟨k + 1, by omega, by omega, by simp [Ent, EntS, EntH, SlE, VE, lookup, BE, leastN]⟩
  · rw [show k = n by omega]

theorem nuPlaces_fn (n : Nat) (g : Nat → Int) (hn : n ≤ 1099511627776) : Fn Try.prog 159 [.seq 1 n fun i => vi (g i)] (.one (.fr 1 (placesL g (leastN g n) n).length (bints (placesL g (leastN g n) n)))) := by
  refine Fn.of_body Try.call159 Try.func159 rfl Try.ntmps159 (ts := [2]) rfl (by simp) rfl (fun N => ?_)
  repeat' (first | (with_reducible first | refine then_normal ?_ | refine then_ret ?_ | refine then_exit ?_ | refine block_normal ?_ | refine block_ret ?_) | ((with_reducible show blockQ _ _ _ _); first | refine block_exit ?_ | refine block_exit_ne rfl ?_) | ((with_reducible show AWP _ _ _ _ _); first | (with_reducible first | refine AWP.seq ?_ | refine AWP.block ?_ | refine AWP.region ?_ | refine AWP.ret ?_ | refine AWP.exit ?_ | refine AWP.skip ?_) | refine AWP.drawn rfl (by kernel_rfl) ?_ | refine AWP.cond rfl ?_ ?_) | with_reducible refine ev_nil ?_ | ((first | ((with_reducible show evOps _ _ _ _ _ _); (first | refine ev_step rfl ?_ | refine ev_undef rfl rfl rfl ?_); intro K hK) | ((with_reducible show EvOpen _ _ _ _ _ _ _); refine ev_open ?_; intro K hK) | ((with_reducible show SkOpen _ _ _ _ _ _ _); refine sk_open ?_; intro K hK) | ((with_reducible show callK _ _ _ _ _ _ _ _); first  | (refine call_scalar (nuSumL_fn n g hn) (Nat.le_of_ble_eq_true rfl) rfl ?_))); simp only [evOp, evQ, evB, withS, opd, kput, putS, upd, lookup, argsK, bringIn, bring, Res.list, Res.slot, slotsOf, sz_ints, List.reverse_cons, List.reverse_nil, List.nil_append, Nat.reduceEqDiff, Nat.reduceLT, ↓reduceIte, eq_self, true_and, Option.isSome_some]) | refine ev_guard rfl rfl rfl ?_ ?_ | ((with_reducible show retQ _ _ _ _); simp only [eq_self]) | (with_reducible refine hK _ ?_; clear hK K) | (with_reducible refine And.intro ?_ ?_) | (with_reducible intro hc; try simp only [eq_self] at hc) | omega)
  refine AWP.virtual 3 3 1 rfl ?_
  refine AWP.loop_entR [0] (fun k : Nat => ⟨[(0, .one (.pv (.seq 1 n fun i => vi (g i)))), (3, .one (.own 0 1 0 (placesL g (leastN g n) k).length)), (4, sc (.int .i64 (leastN g n))), (9, .one (.pv (.seq 1 n fun i => vi (g i)))), (10, sc (.int .i64 n)), (11, sc (.int .i64 k))], [some (bints (placesL g (leastN g n) k))], 25⟩)
    (fun k => k ≤ n) (fun k => n - k) 0 (by omega) (by simp [EntR, EntSR, EntHR, SlR, VE, lookup, BE, upd, sc, bints, placesL]) ?_
  intro k hk
  have hlen := placesL_len g (leastN g n) k
  repeat' (first | (with_reducible first | refine then_normal ?_ | refine then_ret ?_ | refine then_exit ?_ | refine block_normal ?_ | refine block_ret ?_) | ((with_reducible show blockQ _ _ _ _); first | refine block_exit ?_ | refine block_exit_ne rfl ?_) | ((with_reducible show AWP _ _ _ _ _); first | (with_reducible first | refine AWP.seq ?_ | refine AWP.block ?_ | refine AWP.region ?_ | refine AWP.ret ?_ | refine AWP.exit ?_ | refine AWP.skip ?_) | refine AWP.drawn rfl (by kernel_rfl) ?_ | refine AWP.cond rfl ?_ ?_) | with_reducible refine ev_nil ?_ | ((first | ((with_reducible show evOps _ _ _ _ _ _); (first | refine ev_step rfl ?_ | refine ev_undef rfl rfl rfl ?_); intro K hK) | ((with_reducible show EvOpen _ _ _ _ _ _ _); refine ev_open ?_; intro K hK) | ((with_reducible show SkOpen _ _ _ _ _ _ _); refine sk_open ?_; intro K hK) | ((with_reducible show callK _ _ _ _ _ _ _ _); first | fail)); simp only [evOp, evQ, binK, withS, opd, kput, putS, upd, lookup, InK_i64, appendK, srcK, growK, frz, newBlk, partsK, buildSliceK, plSlice, V.one, Value.oneCell', List.set_cons_zero, sz_ints, c_int, ei_ints, ea_ints, bints, List.getElem?_cons_zero, List.getElem?_cons_succ, List.nil_append, List.cons_append, List.length_cons, List.length_nil, Nat.reduceEqDiff, Nat.reduceAdd, Nat.reduceLT, Nat.reduceLeDiff, Nat.mul_one, Nat.add_zero, Nat.zero_add, Nat.mod_one, List.getD_cons_zero, ↓reduceIte, eq_self, true_and, Bool.false_eq_true, forall_const, implies_true, Int.toNat_natCast]) | refine ev_guard rfl rfl rfl ?_ ?_ | ((with_reducible show retQ _ _ _ _); simp only [retQ, retOk, getL, lookup, Option.map_some, fitsL, fits, ND, srcs, Res.list, List.getElem?_cons_zero, Nat.reduceEqDiff, ↓reduceIte, and_true, true_and]) | (with_reducible refine hK _ ?_; clear hK K) | (with_reducible refine And.intro ?_ ?_) | (with_reducible intro hc; try simp only [decide_eq_true_eq, decide_eq_false_iff_not, beq_iff_eq, beq_eq_false_iff_ne, Int.not_lt, ne_eq] at hc) | omega)
  all_goals first
    | (rename_i i; obtain rfl : i = 0 := (by omega); rfl)
    | (refine ⟨k + 1, by omega, by omega, [2], rfl, by decide, ?_, ?_⟩
       · simp only [placesL_yes ‹g k = leastN g n›]; simp [EntSR, SlR, VE, lookup, sc]
       · simp only [placesL_yes ‹g k = leastN g n›]; exact ⟨grow_intsL rfl, trivial⟩)
    | (refine ⟨k + 1, by omega, by omega, [0], rfl, by decide, ?_, ?_⟩
       · simp only [placesL_no ‹¬ g k = leastN g n›]; simp [EntSR, SlR, VE, lookup, sc]
       · simp only [placesL_no ‹¬ g k = leastN g n›]; exact ⟨BE.rfl' _, trivial⟩)
    | (obtain rfl : k = n := (by omega); first | rfl | exact ⟨_, rfl, BE.rfl' _⟩ | (simp; done))
    | trace_state

theorem cut_letter (p : Int) (h : 0 ≤ p ∧ p < 12) : (ByteArray.mk (List.toArray (((bytesOf (ByteArray.mk #[97, 98, 99, 100, 101, 102, 103, 104, 105, 106, 107, 108])).drop p.toNat).take ((p + 1).toNat - p.toNat)))) = strOfNums [97 + p] := by
  have : p = 0 ∨ p = 1 ∨ p = 2 ∨ p = 3 ∨ p = 4 ∨ p = 5 ∨ p = 6 ∨ p = 7 ∨ p = 8 ∨ p = 9 ∨ p = 10 ∨ p = 11 := by omega
  rcases this with rfl | rfl | rfl | rfl | rfl | rfl | rfl | rfl | rfl | rfl | rfl | rfl <;> rfl

end Go.Proofs.Yteapdildbfimnaa
namespace Go.Proofs.Yteapdildbfimnaa
set_option linter.unusedSimpArgs false
set_option linter.unusedVariables false
open Go.RowKit

section
variable {P : Program} {ops : Array Oper} {Q : Exit → Act → World → Prop} {S : World → Prop}

/-- In whatever order; S holds behind all operations but number L. -/
def wpAnyS (P : Program) (ops : Array Oper) (Q : Exit → Act → World → Prop) (S : World → Prop) (L : Nat) : Nat → Array Bool → Act → World → Prop
  | 0, listed, a, w => Region.ready .any ops listed = [] ∧ Q .normal a w
  | f + 1, listed, a, w => (Region.ready .any ops listed = [] → Q .normal a w) ∧
    ∀ i ∈ Region.ready .any ops listed, wpOp P ops Q i (fun a' w' => (i ≠ L → S w') ∧ wpAnyS P ops Q S L f (listed.setIfInBounds i true) a' w') a w

theorem wpAnyS.any {L : Nat} : ∀ (f : Nat) (listed : Array Bool) (a : Act) (w : World), wpAnyS P ops Q S L f listed a w → wpAny P .any ops Q f listed a w
  | 0, _, _, _, h => h
  | f + 1, _, _, _, h => ⟨h.1, fun i hi => wpOp_mono (fun a' w' h' => wpAnyS.any f _ a' w' h'.2) (h.2 i hi)⟩

end

/-- An operation is done by whatever rule, and what was there is there as it was. -/
def OpAnyB (N : Nat) (P : Program) (o : Oper) (K : ASt → Prop) (s : ASt) : Prop :=
  o.guard = none ∧ ∀ (w0 : World) (S0 : Nat → Prop) (φ : List (Option (Nat × Nat))) (a : Act) (w : World), w0.heap.size = N → SimAt w0 S0 s φ a w → ∀ (next : Act → World → Prop) (Q : Exit → Act → World → Prop),
    (∀ s' a' w', K s' → Sim w0 S0 s' a' w' → Below w.heap.size w w' → next a' w') → o.wp P a w next Q

def evAs (N : Nat) (P : Program) (ops : List Oper) (L i : Nat) (K : ASt → Prop) (s : ASt) : Prop :=
  match ops[i]? with
  | some o => (i = L ∧ OpAny N P o K s) ∨ OpAnyB N P o K s
  | none => False
def evSy (N : Nat) (P : Program) (ops : List Oper) (L : Nat) (K : ASt → Prop) : Nx → ASt → Prop
  | .done, s => K s
  | .take i t, s => evAt P true ops i (evSy N P ops L K t) s
  | .one i t, s => evAs N P ops L i (evSy N P ops L K t) s
  | .alt i t u, s => evAs N P ops L i (evSy N P ops L K t) s ∧ evSy N P ops L K u s
  | .st t, s => StK N s (evSy N P ops L K t)

section
variable {P : Program} {w0 : World} {S0 : Nat → Prop} {N : Nat} {w1 : World}

theorem callE_below {f : FuncId} {args : Array Operand} {d ty : Nat} {ts : Array TypeId} {pos : String} {after : Array Edge} {s : ASt} {φ : List (Option (Nat × Nat))} {a : Act} {w : World} {K : ASt → Prop} {next : Act → World → Prop} {Q : Exit → Act → World → Prop}
    (hN : w0.heap.size = N) (sim : SimAt w0 S0 s φ a w) (h : callEK N P f args.toList d s K) (hn : ∀ s' a' w', K s' → Sim w0 S0 s' a' w' → Below w.heap.size w w' → next a' w') : (⟨some d, .call ⟨.value (.func f), args, ts⟩, ty, pos, after, none⟩ : Oper).wp P a w next Q := by
  obtain ⟨p', vs', ⟨R, hf, hd, hK⟩, h3, h4⟩ := argsK_ok sim args.toList true [] [] h sim.gl (fun _ => sim.gl)
  have hrun : (execOp a.eval ⟨some d, .call ⟨.value (.func f), args, ts⟩, ty, pos, after, none⟩).run P w = .ok (.enter f (args.toList.map a.eval).toArray) w := by
    have e : execOp a.eval ⟨some d, .call ⟨.value (.func f), args, ts⟩, ty, pos, after, none⟩ = callFunc f (#[] ++ args.map a.eval ++ #[]) := rfl
    rw [e, hf.1]
    congr 2
    rw [← Array.toList_inj]
    simp
  unfold Oper.wp
  rw [hrun, Oper.upon_enter]
  simp only [List.reverse_nil, List.nil_append] at h3 h4
  refine (hf.2 w _ h3).mono ?_
  rintro e w' ⟨r, u, ψ, hr, hnew, rfl, hh, hs⟩
  have hw := sim.heap.below.size
  refine hn _ _ _ (hK r hr (NewL.mono (fun Z hZ => ⟨fun b hb => by have := hZ b hb; omega, fun Z' hZ' b hb hb' => ?_⟩) _ hnew)) ⟨_, sim.call_new hd hnew hh hs⟩ hh.below
  have h1 := (hZ'.there sim b hb).2
  have h2 := hZ b hb'
  omega

def AxB (N : Nat) (P : Program) (K : ASt → Prop) (o : Oper) (s : ASt) : Prop := OpAnyB N P o K s
theorem sy_done {ops : List Oper} {L : Nat} {K : ASt → Prop} {s : ASt} (h : K s) : evSy N P ops L K .done s := h
theorem sy_take {ops : List Oper} {L : Nat} {K : ASt → Prop} {k : Nat} {t : Nx} {s : ASt} {o : Oper} (ho : ops[k]? = some o) (h : ∀ K' : ASt → Prop, (∀ s', evSy N P ops L K t s' → K' s') → evOp P true o K' s) : evSy N P ops L K (.take k t) s := by
  show evAt P true ops k _ s
  unfold evAt; rw [ho]; exact h _ fun _ h => h
theorem sy_one {ops : List Oper} {L : Nat} {K : ASt → Prop} {k : Nat} {t : Nx} {s : ASt} {o : Oper} (hk : k ≠ L) (ho : ops[k]? = some o) (h : AxB N P (evSy N P ops L K t) o s) : evSy N P ops L K (.one k t) s := by
  show evAs N P ops L k _ s
  unfold evAs; rw [ho]; exact .inr h
theorem sy_last {ops : List Oper} {L : Nat} {K : ASt → Prop} {t : Nx} {s : ASt} {o : Oper} (ho : ops[L]? = some o) (h : Ax N P (evSy N P ops L K t) o s) : evSy N P ops L K (.one L t) s := by
  show evAs N P ops L L _ s
  unfold evAs; rw [ho]; exact .inl ⟨rfl, h⟩
theorem sy_alt {ops : List Oper} {L : Nat} {K : ASt → Prop} {k : Nat} {t u : Nx} {s : ASt} {o : Oper} (hk : k ≠ L) (ho : ops[k]? = some o) (h : AxB N P (evSy N P ops L K t) o s) (h' : evSy N P ops L K u s) : evSy N P ops L K (.alt k t u) s := by
  refine ⟨?_, h'⟩
  unfold evAs; rw [ho]; exact .inr h
theorem sy_st {ops : List Oper} {L : Nat} {K : ASt → Prop} {t : Nx} {s : ASt} (h : StK N s (evSy N P ops L K t)) : evSy N P ops L K (.st t) s := h
theorem axb_op {K : ASt → Prop} {o : Oper} {s : ASt} (hg : o.guard = none) (hw : wr o = false) (h : ∀ K' : ASt → Prop, (∀ s', K s' → K' s') → evOp P false o K' s) : AxB N P K o s :=
  ⟨hg, fun w0 S0 φ a w hN sim next Q hn => evOp_below sim hw (h _ fun _ h => h) hn⟩
theorem axb_callE {K : ASt → Prop} {f : FuncId} {args : Array Operand} {d ty : Nat} {ts : Array TypeId} {pos : String} {after : Array Edge} {s : ASt} (h : callEK N P f args.toList d s K) :
    AxB N P K ⟨some d, .call ⟨.value (.func f), args, ts⟩, ty, pos, after, none⟩ s :=
  ⟨rfl, fun w0 S0 φ a w hN sim next Q hn => callE_below hN sim h hn⟩
end

set_option linter.unusedSimpArgs false
set_option linter.unusedVariables false
open Go.RowKit

/-- All blocks that a slot names have numbers from n on. -/
def SV.ge (n : Nat) : SV → Prop
  | .own id _ _ _ => n ≤ id
  | .ptr id _ => n ≤ id
  | _ => True
def geSs (n : Nat) : List SV → Prop
  | [] => True
  | v :: vs => v.ge n ∧ geSs n vs
def Slot.ge (n : Nat) : Slot → Prop
  | .one v => v.ge n
  | .many vs => geSs n vs
def geS (n : Nat) : List (Nat × Slot) → Prop
  | [] => True
  | (_, v) :: r => v.ge n ∧ geS n r
theorem geS.get {n : Nat} {v : Slot} {t : Nat} : ∀ {σ : List (Nat × Slot)}, geS n σ → lookup σ t = some v → v.ge n
  | [], _, h => by cases h
  | (k, x) :: r, g, h => by
    simp only [lookup] at h
    split at h
    · injection h with h; subst h; exact g.1
    · exact geS.get g.2 h

section
variable {P : Program} {w0 : World} {S0 : Nat → Prop} {N : Nat}

def memN (t : Nat) : List Nat → Bool
  | [] => false
  | x :: r => if t = x then true else memN t r
/-- A slot that says a place alone. -/
def Slot.place : Slot → Prop
  | .one (.ptr _ _) => True
  | .one (.own _ _ _ _) => True
  | _ => False
def geT (n : Nat) (T : List Nat) : List (Nat × Slot) → Prop
  | [] => True
  | (t, v) :: r => (if memN t T = true then True else v.ge n) ∧ geT n T r
def sameT (U : Nat → Value) (τ : List (Nat × Slot)) : List Nat → Prop
  | [] => True
  | t :: r => lookup τ t = some (sc (U t)) ∧ sameT U τ r
def placeT (τ : List (Nat × Slot)) : List Nat → Prop
  | [] => True
  | t :: r => (match lookup τ t with | some v => v.place | none => False) ∧ placeT τ r
theorem geT.get {n : Nat} {T : List Nat} {v : Slot} {t : Nat} (ht : memN t T = false) : ∀ {σ : List (Nat × Slot)}, geT n T σ → lookup σ t = some v → v.ge n
  | [], _, h => by cases h
  | (k, x) :: r, g, h => by
    simp only [lookup] at h
    split at h
    · rename_i e; subst e; injection h with h; subst h
      have := g.1
      rw [if_neg (by rw [ht]; simp)] at this
      exact this
    · exact geT.get ht g.2 h
theorem sameT.get {U : Nat → Value} {τ : List (Nat × Slot)} {t : Nat} : ∀ {T : List Nat}, memN t T = true → sameT U τ T → lookup τ t = some (sc (U t))
  | [], h, _ => by cases h
  | x :: r, h, g => by
    simp only [memN] at h
    split at h
    · rename_i e; subst e; exact g.1
    · exact sameT.get h g.2
theorem placeT.get {τ : List (Nat × Slot)} {t : Nat} : ∀ {T : List Nat}, memN t T = true → placeT τ T → ∃ v, lookup τ t = some v ∧ v.place
  | [], h, _ => by cases h
  | x :: r, h, g => by
    simp only [memN] at h
    split at h
    · rename_i e; subst e
      have := g.1
      split at this
      · rename_i v hv; exact ⟨v, hv, this⟩
      · exact this.elim
    · exact placeT.get h g.2
theorem Slot.place.rd {v : Slot} {u : Value} {w w' : World} {S S' : Nat → Prop} {φ φ' : List (Option (Nat × Nat))} (hp : v.place) (hφ : ∀ (id : Nat) x, φ[id]? = some x → φ'[id]? = some x) (h : RdSlot w S φ v u) : RdSlot w' S' φ' v u := by
  match v, hp with
  | .one (.ptr id off), _ =>
    obtain ⟨b, z, h1, h2⟩ := h
    exact ⟨b, z, hφ _ _ h1, h2⟩
  | .one (.own id sz off len), _ =>
    rcases h with ⟨h1, h2⟩ | ⟨b, c, z, h1, h2⟩
    · exact .inl ⟨hφ _ _ h1, h2⟩
    · exact .inr ⟨b, c, z, hφ _ _ h1, h2⟩

variable {w1 : World} {S1 : Nat → Prop}
end

end Go.Proofs.Yteapdildbfimnaa
namespace Go.Proofs.Yteapdildbfimnaa
set_option linter.unusedSimpArgs false
set_option linter.unusedVariables false
open Go.RowKit Go.Proofs

section
variable {P : Program} {N : Nat}

end
end Go.Proofs.Yteapdildbfimnaa
namespace Go.Proofs.Yteapdildbfimnaa
set_option linter.unusedSimpArgs false
set_option linter.unusedVariables false
open Go.RowKit

section
variable {P : Program}
end

set_option linter.unusedSimpArgs false
set_option linter.unusedVariables false
open Go.RowKit Go.Proofs

/-- What waits for the next stage of a walk. -/
def HoldW (p : Prop) : Prop := p
theorem AWP.holdW [Cx] {P : Program} {N : Nat} {id : Nat} {ops : Array Oper} {d : Bool} {Q : Exit → ASt → Prop} {s : ASt} (h : HoldW (AWP N P (.region id ops d) Q s)) : AWP N P (.region id ops d) Q s := h

section
variable {P : Program} {N : Nat}

/-- The variable that slot t points at holds what R wants, and the cursor is where it should be. -/
def retCellC (t n N : Nat) (R : Res → Prop) (b k' : Nat) (Z : Nat → Prop) (c : V) : Exit → ASt → Prop
  | .normal, s => (∃ j, lookup s.σ 0 = some (.one (.pv (.cur b j Z c))) ∧ j ≤ k') ∧ ∃ g, R (.one (.pv (.agg n g))) ∧ NewV (fun Z => ∀ b, Z b → N ≤ b) (.agg n g) ∧ retCell.cellOk t n g s
  | .ret, s => (∃ j, lookup s.σ 0 = some (.one (.pv (.cur b j Z c))) ∧ j ≤ k') ∧ ∃ g, R (.one (.pv (.agg n g))) ∧ NewV (fun Z => ∀ b, Z b → N ≤ b) (.agg n g) ∧ retCell.cellOk t n g s
  | _, _ => False

theorem FnC.of_body_cell {f : FuncId} {fn : Func} {cd : Code} {nt b k k' t ty n : Nat} {Z : Nat → Prop} {c : V} {vs : List V} {R : Res → Prop}
    (hcall : ∀ (args : Array Value) (w : World), (callFunc f args).run P w = .ok (.enter f args) w) (hf : P.funcs[f]? = some fn) (hb : fn.body = some cd) (hnt : fn.ntmps = nt)
    (hres : fn.results = #[ResultVar.cell t ty]) (hc : cellsIn P ty = some (some n)) (hlen : vs.length + 1 ≤ nt)
    (h : ∀ (N : Nat) (cx : Cx), cx.X = isB b → b < N → (∀ j, Z j → j < N) → @AWP cx N P cd (retCellC t n N R b k' Z c) ⟨slotsOf 0 (.cur b k Z c :: vs.map (oldC N b)), [], nt⟩) : FnC P f b k k' Z c vs R := by
  refine ⟨hcall, fun w u us hu hus => calls_of_wp hf hb ?_⟩
  have hu' := hu
  obtain ⟨hu0, _, hz, cur, cv, p, q, e, hcu, _⟩ := hu'
  have hblt : b < w.heap.size := block_lt hcu
  have sim := body_start (w := w) (fn := fn) (vs := .cur b k Z c :: vs.map (oldC w.heap.size b)) (us := u :: us) hnt (by simpa using hlen) ⟨hu, oldCL_rd vs us hus⟩
  refine wp_mono (h _ ⟨isB b⟩ rfl hblt (fun j hj => (hz j hj).2.1) w _ _ w rfl ⟨w, @Reb.refl ⟨isB b⟩ _, [], sim⟩) fun e a' w' ⟨s', hq, w1, hR, φ, sim'⟩ => ?_
  obtain ⟨r1, r2, r3, r4, r5, r6⟩ := hR
  have hRB : RebB b w w1 := ⟨r1, r2, r3, r5, fun j hj => r6 j hj⟩
  have fin : ((∃ j, lookup s'.σ 0 = some (.one (.pv (.cur b j Z c))) ∧ j ≤ k') ∧ ∃ g, R (.one (.pv (.agg n g))) ∧ NewV (fun Z => ∀ b, Z b → w.heap.size ≤ b) (.agg n g) ∧ retCell.cellOk t n g s') → a'.defers = [] ∧ ∃ v, (results fn a'.tmps).run P w' = .ok v w' ∧
      ∃ w1 r x φ, RebB b w w1 ∧ Rd w1 (fun _ => True) (.cur b k' Z c) u ∧ R r ∧ NewL (fun Z => ∀ j, Z j → w.heap.size ≤ j) r.list ∧ Ending.returned v = .returned x ∧ Heap w1 (fun _ => True) (bring r.list []).2 φ w' ∧ RdSlot w' (Stab w1 (fun _ => True) (bring r.list []).2 φ) φ (r.slot (bring r.list []).1) x := by
    rintro ⟨⟨j, hj, hjk⟩, g, hRg, hnew, hq⟩
    obtain ⟨u1, _, hr1⟩ := sim'.slots 0 _ hj
    obtain ⟨_, _, hz1, cur1, cv1, p1, q1, e1, hc1, h31, hp1, hq1, hrd1⟩ := hr1
    have hbel := sim'.heap.below
    have hs1 := hRB.size
    have hcur1 : Rd w1 (fun _ => True) (.cur b k' Z c) u := by
      refine ⟨hu0, trivial, fun i hi => ⟨trivial, by rw [hs1]; exact (hz i hi).2.1, (hz i hi).2.2⟩, cur1, cv1, p1, q1, e1, ?_, h31, ⟨hp1.1, by omega⟩, hq1, ?_⟩
      · rw [← hbel.block b (by omega)]; exact hc1
      · exact Rd.mono (S' := Z) (fun i hi _ => ⟨hi, (hbel.block i (by rw [hs1]; exact (hz i hi).2.1)).symm⟩) _ _ hrd1
    unfold retCell.cellOk at hq
    split at hq
    · rename_i id off hl
      split at hq
      · rename_i blk hblk
        obtain ⟨hle, hve⟩ := hq
        obtain ⟨u2, hu2, b2, z, hφ, rfl⟩ := sim'.slots t _ hl
        obtain ⟨cur2, _, hB, hcur, hn, hx⟩ := sim'.blkAt hblk hφ
        have hst : ∀ b, Stab w1 (fun _ => True) s'.h φ b → Stab w1 (fun _ => True) [] [] b := fun b hb => ⟨hb.1, fun ⟨i, x, z, h1, _⟩ => by simp at h1⟩
        have hg : ∀ j, j < n → w'.cell? ⟨b2, off + j, none⟩ = some (cur2.getD (off + j) undef) ∧ Rd w' (Stab w1 (fun _ => True) [] []) (g j) (cur2.getD (off + j) undef) := fun j hj => by
          obtain ⟨x, hx1, hx2⟩ := hx (off + j) (by omega)
          have e : cur2.getD (off + j) undef = x := by simp [hx1]
          rw [e]
          exact ⟨cell_of_blk hcur hx1, VE.rd _ _ _ (hve j hj) (Rd.mono (fun b hb _ => ⟨hst b hb, rfl⟩) _ _ hx2)⟩
        refine ⟨sim'.defers.1, _, run_results_cell hres hc _ b2 off (by simp [hu2]) (fun j => cur2.getD (off + j) undef) w' fun j hj => (hg j hj).1, w1, .one (.pv (.agg n g)), _, [], hRB, hcur1, hRg, ⟨hnew, trivial⟩, rfl, ⟨rfl, sim'.heap.below, fun id blk hi => by simp [bring, Res.list] at hi, fun i j bi bj b z z' hi => by simp [bring, Res.list] at hi⟩, ?_⟩
        exact rd_agg fun j hj => (hg j hj).2
      · exact hq.elim
    · exact hq.elim
  cases e with
  | normal => exact fin hq
  | ret => exact fin hq
  | _ => exact hq.elim

end

set_option linter.unusedSimpArgs false
set_option linter.unusedVariables false
open Go.RowKit

section
variable {P : Program}
end

end Go.Proofs.Yteapdildbfimnaa
namespace Go.Proofs.Yteapdildbfimnaa
open Go.RowKit Go.Proofs
set_option linter.unusedSimpArgs false
set_option linter.unusedVariables false

end Go.Proofs.Yteapdildbfimnaa
namespace Go.Proofs.Yteapdildbfimnaa
open Go.RowKit Go.Proofs
set_option linter.unusedSimpArgs false
set_option linter.unusedVariables false

end Go.Proofs.Yteapdildbfimnaa
namespace Go.Proofs.Yteapdildbfimnaa
open Go.RowKit Go.Proofs
set_option linter.unusedSimpArgs false
set_option linter.unusedVariables false

def MarkedO (b off : Nat) (cur : Array Value) (e : TypeId) (w : World) (k : Nat) (m : Int) (wr : World) : Prop :=
  AllBut b w wr ∧ ∃ cur' : Array Value, wr.heap[b]? = some (.cells cur' e (0, 0)) ∧ cur'.size = cur.size ∧ ∀ i, i < k → cur'[off + i]? = some (.int .i64 (m + i))

theorem MarkedO.cell {b off : Nat} {cur : Array Value} {e : TypeId} {w wr : World} {k : Nat} {m : Int} (h : MarkedO b off cur e w k m wr) (hk : off + k < cur.size) : (∃ x, wr.cell? ⟨b, off + k, none⟩ = some x) ∧ wr.frozen? ⟨b, off + k, none⟩ = false := by
  obtain ⟨_, cur', h1, h2, _⟩ := h
  exact ⟨⟨cur'[off + k], cell_of_blk h1 (Array.getElem?_eq_getElem (by omega))⟩, by simp [World.frozen?, h1]⟩

theorem MarkedO.step {b off : Nat} {cur : Array Value} {e : TypeId} {w wr : World} {k : Nat} {m : Int} (h : MarkedO b off cur e w k m wr) (hk : off + k < cur.size) :
    MarkedO b off cur e w (k + 1) m (wr.setCell ⟨b, off + k, none⟩ (.int .i64 (m + k))) := by
  obtain ⟨ha, cur', h1, h2, h3⟩ := h
  refine ⟨⟨ha.os, ha.tape, ha.output, by rw [setCell_size]; exact ha.size, fun j hj hne => (Below.heap_setCell _ _ _ _ hne).trans (ha.oth j hj hne)⟩, _, setCell_at h1, by simpa using h2, fun i hi => ?_⟩
  by_cases e : i = k
  · subst e; simp [show off + i < cur'.size by omega]
  · rw [Array.getElem?_setIfInBounds_ne (by show off + k ≠ off + i; omega)]; exact h3 i (by omega)

/-- A row of integers from k on. -/
def cnt (k : Int) : Nat → V := fun i => vi (k + i)

/-- Rows of things that are marked one by one: what each is, what it becomes from k on, how many numbers it takes, which blocks it turns. -/
structure MkL where
  F : Nat → V
  G : Nat → Int → V
  c : Nat → Nat
  T : Nat → Nat → Prop

namespace MkL
def off (D : MkL) : Nat → Nat
  | 0 => 0
  | i + 1 => D.off i + D.c i
end MkL

/-- Three parts that are marked one behind the other. -/
structure MkA where
  F : Nat → V
  G : Nat → Int → V
  c : Nat → Nat
  T : Nat → Nat → Prop

/-- The argument's copy in a block of its own. -/
def BoxI (w W : World) (x0 x1 x2 : Value) : Prop := w.heap.size < W.heap.size ∧ W.cell? ⟨w.heap.size, 0, none⟩ = some x0 ∧ W.cell? ⟨w.heap.size, 1, none⟩ = some x1 ∧ W.cell? ⟨w.heap.size, 2, none⟩ = some x2
theorem BoxI.step {w W W' : World} {x0 x1 x2 : Value} {T : Nat → Prop} (h : BoxI w W x0 x1 x2) (ho : OnlyIn T W W') (hT : ∀ b, T b → b < w.heap.size) : BoxI w W' x0 x1 x2 := by
  obtain ⟨h1, h2, h3, h4⟩ := h
  have e : W'.heap[w.heap.size]? = W.heap[w.heap.size]? := ho.oth _ h1 fun h => by have := hT _ h; omega
  have c : ∀ i, W'.cell? ⟨w.heap.size, i, none⟩ = W.cell? ⟨w.heap.size, i, none⟩ := fun i => World.cell?_of_block (w := W) (a := ⟨w.heap.size, i, none⟩) e
  exact ⟨Nat.lt_of_lt_of_le h1 ho.size, by rw [c]; exact h2, by rw [c]; exact h3, by rw [c]; exact h4⟩
theorem BoxI.start (w : World) (x0 x1 x2 : Value) (t : TypeId) : BoxI w (w.alloc (.cells #[x0, x1, x2] t)) x0 x1 x2 ∧ Below w.heap.size w (w.alloc (.cells #[x0, x1, x2] t)) := by
  have e : (w.alloc (.cells #[x0, x1, x2] t)).heap[w.heap.size]? = some (.cells #[x0, x1, x2] t (0, 0)) := by
    show (w.heap.push _)[w.heap.size]? = _
    simp
  exact ⟨⟨block_lt e, cell_of_blk e rfl, cell_of_blk e rfl, cell_of_blk e rfl⟩, (Below.refl _ _).alloc (Nat.le_refl _) _⟩

end Go.Proofs.Yteapdildbfimnaa
namespace Go.Proofs.Yteapdildbfimnaa
open Go.RowKit Go.Proofs
set_option linter.unusedSimpArgs false
set_option linter.unusedVariables false

def Apart (v v' : V) : Prop := Disj (Zof v) (Zof v')
theorem Apart.symm {v v' : V} (h : Apart v v') : Apart v' v := Disj.symm h

/-- A list of n things, each of which is p, all of them apart. -/
def isL (n : Nat) (p : Nat → V → Prop) (v : V) : Prop := ∃ (u0 : Value) (Zh : Nat → Prop) (F : Nat → V), v = .row u0 Zh 1 n F ∧ ∀ i, i < n → p i (F i) ∧ Disj Zh (Zof (F i)) ∧ ∀ j, j < n → j ≠ i → Apart (F i) (F j)
def isRow (l : List Int) (v : V) : Prop := ∃ (u : Value) (Z : Nat → Prop), v = .row u Z 1 l.length fun j => vi (l.getD j 0)
def isMat (m : List (List Int)) (v : V) : Prop := isL m.length (fun i => isRow (rowAt m i)) v
def isMats (s : List (List (List Int))) (v : V) : Prop := isL s.length (fun i => isMat (matAt s i)) v

theorem NewV.zin {p : (Nat → Prop) → Prop} {Z : Nat → Prop} {v : V} (h : ZIn Z v) : NewV p v → p Z := by
  induction h with
  | old v => exact fun h => h
  | row u sz n f => exact fun h => h.1
  | inRow u Z' sz n f i hi h ih => exact fun h => ih (h.2 i hi)
  | grow u e sz n f => exact fun h => h.1
  | inGrow u Z' e sz n f i hi h ih => exact fun h => ih (h.2 i hi)
  | inAgg n f i hi h ih => exact fun h => ih (h i hi)
  | cur => exact fun h => h.elim
theorem NewV.ge {N : Nat} {q : (Nat → Prop) → Prop} {v : V} (h : NewV (fun Z => (∀ b, Z b → N ≤ b) ∧ q Z) v) : ∀ b, Zof v b → N ≤ b := fun b ⟨Z, hZ, hb⟩ => (NewV.zin hZ h).1 b hb

theorem Zof.val (x : Value) (b : Nat) : ¬ Zof (.val x) b := fun ⟨Z, h, _⟩ => by cases h
theorem Zof.agg {n : Nat} {F : Nat → V} {b : Nat} (h : Zof (.agg n F) b) : ∃ i, i < n ∧ Zof (F i) b := by
  obtain ⟨Z, h, hb⟩ := h
  cases h with
  | inAgg _ _ i hi h => exact ⟨i, hi, Z, h, hb⟩
theorem Zof.row {u : Value} {Z : Nat → Prop} {n : Nat} {F : Nat → V} {b : Nat} (h : Zof (.row u Z 1 n F) b) : Z b ∨ ∃ i, i < n ∧ Zof (F i) b := by
  obtain ⟨Z', h, hb⟩ := h
  cases h with
  | row => exact .inl hb
  | inRow _ _ _ _ _ i hi h => exact .inr ⟨i, by omega, Z', h, hb⟩
theorem Zof.at {u : Value} {Z : Nat → Prop} {n : Nat} {F : Nat → V} {b i : Nat} (hi : i < n) (h : Zof (F i) b) : Zof (.row u Z 1 n F) b := by
  obtain ⟨Z', h, hb⟩ := h; exact ⟨Z', .inRow _ _ _ _ _ i (by omega) h, hb⟩
theorem isRow.new {l : List Int} {v : V} (h : isRow l v) : NewV (fun _ => True) v := by
  obtain ⟨u, Z, rfl⟩ := h; exact ⟨trivial, fun _ _ => trivial⟩
theorem isL.new {n : Nat} {p : Nat → V → Prop} {v : V} (hp : ∀ i v, p i v → NewV (fun _ => True) v) (h : isL n p v) : NewV (fun _ => True) v := by
  obtain ⟨u, Z, F, rfl, h⟩ := h; exact ⟨trivial, fun i hi => hp i _ (h i (by omega)).1⟩
theorem isMat.new {m : List (List Int)} {v : V} (h : isMat m v) : NewV (fun _ => True) v := isL.new (fun _ _ h => h.new) h
theorem isMats.new {s : List (List (List Int))} {v : V} (h : isMats s v) : NewV (fun _ => True) v := isL.new (fun _ _ h => h.new) h

theorem isRow.one {l : List Int} {v : V} (h : isRow l v) : v.one = true := by obtain ⟨u, Z, rfl⟩ := h; rfl
theorem isL.one {n : Nat} {p : Nat → V → Prop} {v : V} (h : isL n p v) : v.one = true := by obtain ⟨u, Z, F, rfl, h⟩ := h; rfl

theorem isRow.bare {l : List Int} {v : V} (h : isRow l v) : Bare v (ints l) := by obtain ⟨u, Z, rfl⟩ := h; exact ⟨rfl, rfl, fun i hi => rfl⟩
theorem isL.bare {n : Nat} {p : Nat → V → Prop} {v : V} {g : Nat → V} (hp : ∀ i v, i < n → p i v → Bare v (g i)) (h : isL n p v) : Bare v (.seq 1 n g) := by
  obtain ⟨u, Z, F, rfl, h⟩ := h; exact ⟨rfl, rfl, fun i hi => hp i _ (by omega) (h i (by omega)).1⟩
theorem isMat.bare {m : List (List Int)} {v : V} (h : isMat m v) : Bare v (rows m) := isL.bare (fun _ _ _ h => h.bare) h
theorem isMats.bare {s : List (List (List Int))} {v : V} (h : isMats s v) : Bare v (mats s) := isL.bare (fun _ _ _ h => h.bare) h

/-! ### Marked -/
def rng (k : Int) (n : Nat) : List Int := tab n fun i => k + i
@[simp] theorem rng_len (k : Int) (n : Nat) : (rng k n).length = n := tab_len _ _
theorem FnMz.widen {P : Program} {f : FuncId} {v : V} {k k' : Int} {T : Nat → Prop} {ps : List (V × V)} (h : FnMz P f v k k' T ps) : FnMz P f v k k' (Zof v) ps :=
  ⟨h.entry, fun b hb => hb, fun w S u hr => (h.runs w S u hr).mono fun e w' ⟨h1, h2, h3⟩ => ⟨h1, h2.mono h.inz, h3⟩⟩

/-- An automaton in new memory: its three parts. -/
def isAut (a e : List Int) (s : List (List (List Int))) (F : Nat → V) : Prop := isRow a (F 0) ∧ isRow e (F 1) ∧ isMats s (F 2) ∧ ∀ i, i < 3 → ∀ j, j < 3 → j ≠ i → Apart (F i) (F j)
theorem isAut.bare {a e : List Int} {s : List (List (List Int))} {F : Nat → V} (h : isAut a e s F) : Bare (.agg 3 F) (autV a e s) := ⟨rfl, fun i hi => by
  rcases (show i = 0 ∨ i = 1 ∨ i = 2 by omega) with rfl | rfl | rfl
  · exact h.1.bare
  · exact h.2.1.bare
  · exact h.2.2.1.bare⟩
theorem isAut.one {a e : List Int} {s : List (List (List Int))} {F : Nat → V} (h : isAut a e s F) (i : Nat) (hi : i < 3) : (F i).one = true := by
  rcases (show i = 0 ∨ i = 1 ∨ i = 2 by omega) with rfl | rfl | rfl
  · exact h.1.one
  · exact h.2.1.one
  · exact isL.one h.2.2.1
theorem isAut.new {a e : List Int} {s : List (List (List Int))} {F : Nat → V} (h : isAut a e s F) (i : Nat) (hi : i < 3) : NewV (fun _ => True) (F i) := by
  rcases (show i = 0 ∨ i = 1 ∨ i = 2 by omega) with rfl | rfl | rfl
  · exact h.1.new
  · exact h.2.1.new
  · exact h.2.2.1.new

end Go.Proofs.Yteapdildbfimnaa
namespace Go.Proofs.Yteapdildbfimnaa
open Go.RowKit Go.Proofs
set_option linter.unusedSimpArgs false
set_option linter.unusedVariables false

end Go.Proofs.Yteapdildbfimnaa
namespace Go.Proofs.Yteapdildbfimnaa
open Go.RowKit Go.Proofs
set_option linter.unusedSimpArgs false
set_option linter.unusedVariables false

end Go.Proofs.Yteapdildbfimnaa
namespace Go.Proofs.Yteapdildbfimnaa
open Go.RowKit Go.Proofs
set_option linter.unusedSimpArgs false
set_option linter.unusedVariables false

/-- Parts of a list that is being filled. -/
def partL (N n k : Nat) (p : Nat → V → Prop) (F : Nat → V) : Prop := k ≤ n ∧ ∀ i, i < k → p i (F i) ∧ (∀ b, Zof (F i) b → N ≤ b) ∧ ∀ j, j < k → j ≠ i → Apart (F i) (F j)
/-- A filled list. -/
def fullL (n : Nat) (e : TypeId) (p : Nat → V → Prop) : Res → Prop := fun r => ∃ F : Nat → V, (∀ i, i < n → p i (F i) ∧ ∀ j, j < n → j ≠ i → Apart (F i) (F j)) ∧ r = .one (.fr 1 n ⟨e, n, F⟩)
theorem fullL.shape {n : Nat} {e : TypeId} {p : Nat → V → Prop} (r : Res) (h : fullL n e p r) : r.shape 1 = true := by obtain ⟨F, _, rfl⟩ := h; rfl
def oneL (p : V → Prop) : Res → Prop := fun r => ∃ v, p v ∧ r = .one (.pv v)
theorem oneL.shape {p : V → Prop} (r : Res) (h : oneL p r) : r.shape 1 = true := by obtain ⟨F, _, rfl⟩ := h; rfl

theorem partL.grow {N n k : Nat} {p : Nat → V → Prop} {F : Nat → V} {v : V} (h : partL N n k p F) (hk : k < n) (hp : p k v) (hN : ∀ b, Zof v b → N ≤ b) (hd : ∀ i, i < k → Apart (F i) v) : partL N n (k + 1) p (fun i => if i = k then v else F i) := by
  refine ⟨by omega, fun i hi => ?_⟩
  by_cases e : i = k
  · subst e
    simp only [if_true]
    exact ⟨hp, hN, fun j hj hne => by rw [if_neg hne]; exact (hd j (by omega)).symm⟩
  · simp only [if_neg e]
    obtain ⟨h1, h2, h3⟩ := h.2 i (by omega)
    refine ⟨h1, h2, fun j hj hne => ?_⟩
    by_cases e2 : j = k
    · subst e2; rw [if_pos rfl]; exact hd i (by omega)
    · rw [if_neg e2]; exact h3 j (by omega) hne

theorem zst_blk {s : ASt} {id : Nat} {blk : Blk} {i : Nat} {v : V} {Z : Nat → Prop} (h1 : s.h[id]? = some (some blk)) (h2 : i < blk.n) (h3 : blk.f i = v) (h4 : ZIn Z v) : ZSt Z s := .inr ⟨id, blk, i, h1, h2, by rw [h3]; exact h4⟩
theorem NewV.of_zof {N : Nat} : ∀ {v : V}, NewV (fun _ => True) v → (∀ b, Zof v b → N ≤ b) → NewV (fun Z => ∀ b, Z b → N ≤ b) v
  | .val _, _, _ => trivial
  | .row u Z sz n f, hv, h => ⟨fun b hb => h b ⟨Z, .row _ _ _ _, hb⟩, fun i hi => NewV.of_zof (hv.2 i hi) fun b ⟨Z', hZ, hb⟩ => h b ⟨Z', .inRow _ _ _ _ _ i hi hZ, hb⟩⟩
  | .grow u Z e sz n f, hv, h => ⟨fun b hb => h b ⟨Z, .grow _ _ _ _ _, hb⟩, fun i hi => NewV.of_zof (hv.2 i hi) fun b ⟨Z', hZ, hb⟩ => h b ⟨Z', .inGrow _ _ _ _ _ _ i hi hZ, hb⟩⟩
  | .agg n f, hv, h => fun i hi => NewV.of_zof (hv i hi) fun b ⟨Z', hZ, hb⟩ => h b ⟨Z', .inAgg _ _ i hi hZ, hb⟩
  | .seq _ _ _, hv, _ => hv.elim
  | .pin _ _, hv, _ => hv.elim
  | .clo _ _ _, hv, _ => hv.elim
  | .old Z v, hv, h => fun b hb => h b ⟨Z, .old _, hb⟩
  | .cur _ _ _ _, hv, _ => hv.elim

theorem isAut.mk {a e : List Int} {s : List (List (List Int))} {v0 v1 v2 : V} (h0 : isRow a v0) (h1 : isRow e v1) (h2 : isMats s v2) (a01 : Apart v0 v1) (a02 : Apart v0 v2) (a12 : Apart v1 v2) : isAut a e s (fun i => if i = 0 then v0 else if i = 1 then v1 else v2) := by
  refine ⟨h0, h1, h2, fun i hi j hj hne => ?_⟩
  rcases (show i = 0 ∨ i = 1 ∨ i = 2 by omega) with rfl | rfl | rfl <;> rcases (show j = 0 ∨ j = 1 ∨ j = 2 by omega) with rfl | rfl | rfl <;>
    first | exact (hne rfl).elim | exact a01 | exact a02 | exact a12 | exact a01.symm | exact a02.symm | exact a12.symm

theorem bare_seq {n : Nat} {f : Nat → V} (Z : Nat → Prop) : Bare (.old Z (.seq 1 n f)) (.seq 1 n f) := VE.rfl' (.seq 1 n f)
theorem isAut.ge {N : Nat} {q : (Nat → Prop) → Prop} {F : Nat → V} (h : NewV (fun Z => (∀ b, Z b → N ≤ b) ∧ q Z) (.agg 3 F)) : ∀ b, Zof (.agg 3 F) b → N ≤ b := NewV.ge h

open Go.RowKit Go.Proofs
set_option linter.unusedSimpArgs false
set_option linter.unusedVariables false

end Go.Proofs.Yteapdildbfimnaa
namespace Go.Proofs.Yteapdildbfimnaa
open Go.RowKit Go.Proofs
set_option linter.unusedSimpArgs false
set_option linter.unusedVariables false
abbrev tsAt (L : List (List T3)) (i : Nat) : List T3 := L.getD i []
abbrev termss (L : List (List T3)) : V := .seq 1 L.length fun i => terms (tsAt L i)
def isT (l : List T3) (v : V) : Prop := ∃ (u : Value) (Z : Nat → Prop), v = .row u Z 3 l.length fun j => vi (tf l j)
def isTS (L : List (List T3)) (v : V) : Prop := isL L.length (fun i => isT (tsAt L i)) v
theorem isT.new {l : List T3} {v : V} (h : isT l v) : NewV (fun _ => True) v := by obtain ⟨u, Z, rfl⟩ := h; exact ⟨trivial, fun _ _ => trivial⟩
theorem isT.one {l : List T3} {v : V} (h : isT l v) : v.one = true := by obtain ⟨u, Z, rfl⟩ := h; rfl
theorem isT.bare {l : List T3} {v : V} (h : isT l v) : Bare v (terms l) := by obtain ⟨u, Z, rfl⟩ := h; exact ⟨rfl, rfl, fun i hi => rfl⟩
theorem isTS.new {L : List (List T3)} {v : V} (h : isTS L v) : NewV (fun _ => True) v := isL.new (fun _ _ h => h.new) h
theorem isTS.bare {L : List (List T3)} {v : V} (h : isTS L v) : Bare v (termss L) := isL.bare (fun _ _ _ h => h.bare) h
end Go.Proofs.Yteapdildbfimnaa
namespace Go.Proofs.Yteapdildbfimnaa
set_option linter.unusedSimpArgs false
set_option linter.unusedVariables false
open Go.RowKit

/-- A function that writes the block of its first argument, a slice of n elements from the block's head, whose cells hold known values, and hands a scalar back. -/
structure FnMv (P : Program) (f : FuncId) (n : Nat) (blk blk' : Blk) (u v : Value) : Prop where
  entry : ∀ (args : Array Value) (w : World), (callFunc f args).run P w = .ok (.enter f args) w
  elem : blk'.elem = blk.elem
  le : blk'.n ≤ blk.n
  runsNil : n = 0 → ∀ w, Gl w → Calls P f #[.slice none 0 0, u] w fun e w' => e = .returned v ∧ Below w.heap.size w w'
  vals : ∀ i, i < blk.n → ∃ x, blk.f i = .val x
  runsAt : ∀ (w : World) (b c : Nat) (cur : Array Value), Gl w → w.heap[b]? = some (.cells cur blk.elem (0, 0)) → blk.n ≤ cur.size → (∀ i, i < blk.n → ∃ x, cur[i]? = some x ∧ blk.f i = .val x) → n ≤ c → Calls P f #[.slice (some ⟨b, 0, none⟩) n c, u] w fun e w' =>
    e = .returned v ∧ AllBut b w w' ∧ ∃ cur' : Array Value, w'.heap[b]? = some (.cells cur' blk.elem (0, 0)) ∧ cur'.size = cur.size ∧ ∀ i, i < blk'.n → ∃ x, cur'[i]? = some x ∧ blk'.f i = .val x

/-- A function that hands its first argument, a slice, back as it came. -/
structure FnSame (P : Program) (f : FuncId) (sz n : Nat) (g : Nat → V) (y : Value) : Prop where
  entry : ∀ (args : Array Value) (w : World), (callFunc f args).run P w = .ok (.enter f args) w
  runs : ∀ (w : World) (u : Value) (Z : Nat → Prop), Gl w → Rd w (fun _ => True) (.row u Z sz n g) u → Calls P f #[u, y] w fun e w' => e = .returned u ∧ Below w.heap.size w w'

section
variable {P : Program} {N : Nat}

end
end Go.Proofs.Yteapdildbfimnaa
namespace Go.Proofs
open Go.Shelf
end Go.Proofs
namespace Go.Proofs.Yteapdildbfimnaa
open Go.RowKit Go.Proofs Go.Sort
set_option linter.unusedSimpArgs false
set_option linter.unusedVariables false

/-- A term of small numbers. -/
def TB (t : T3) : Prop := -1000000 ≤ t.1 ∧ t.1 ≤ 1000000 ∧ -1000000 ≤ t.2.1 ∧ t.2.1 ≤ 1000000 ∧ -1000000 ≤ t.2.2 ∧ t.2.2 ≤ 1000000
abbrev TS := {t : T3 // TB t}
instance tsInh : Inhabited TS := ⟨⟨(0, 0, 0), by unfold TB; decide⟩⟩
/-- The order of terms, their last numbers last. -/
def lt0 (a b : T3) : Bool := decide (a.1 < b.1 ∨ (a.1 = b.1 ∧ (a.2.1 < b.2.1 ∨ (a.2.1 = b.2.1 ∧ a.2.2 < b.2.2))))
def srt (l : List T3) : List T3 := l.mergeSort fun x y => !lt0 y x
@[simp] theorem srt_len (l : List T3) : (srt l).length = l.length := List.length_mergeSort _

end Go.Proofs.Yteapdildbfimnaa
namespace Go.Proofs.Yteapdildbfimnaa
open Go.RowKit Go.Proofs
set_option linter.unusedSimpArgs false
set_option linter.unusedVariables false

theorem EntHR.one {h : List (Option Blk)} {j : Nat} {b b' : Blk} (hb : h[j]? = some (some b)) (hbe : BE b b') : EntHR h [j] [some b'] := by
  refine ⟨?_, trivial⟩
  rw [hb]; exact hbe

end Go.Proofs.Yteapdildbfimnaa
namespace Go.Proofs.Yteapdildbfimnaa
open Go.RowKit Go.Proofs
set_option linter.unusedSimpArgs false
set_option linter.unusedVariables false

end Go.Proofs.Yteapdildbfimnaa
namespace Go.Proofs.Yteapdildbfimnaa
set_option linter.unusedSimpArgs false
set_option linter.unusedVariables false

def swT (t : T3) : T3 := (t.2.1, t.1, t.2.2)
def swp (l : List T3) : List T3 := l.map swT
@[simp] theorem swp_len (l : List T3) : (swp l).length = l.length := by simp [swp]
/-- Terms of places apart. -/
def KD (a b : T3) : Prop := a.1 ≠ b.1 ∨ a.2.1 ≠ b.2.1
theorem KD.symm {a b : T3} (h : KD a b) : KD b a := by unfold KD at *; omega
/-- How many terms at the head stand before a term. -/
def cntB (t : T3) : List T3 → Nat
  | [] => 0
  | x :: l => if befB x t = true then cntB t l + 1 else 0
/-- A term put in its place. -/
def insT (l : List T3) (t : T3) : List T3 := l.take (cntB t l) ++ (t :: l.drop (cntB t l))
@[simp] theorem insT_len (l : List T3) (t : T3) : (insT l t).length = l.length + 1 := by simp [insT]; omega
/-- The first k terms, put in one after the other. -/
def insK (l : List T3) : Nat → List T3
  | 0 => []
  | k + 1 => insT (insK l k) (tAt l k)
@[simp] theorem insK_len (l : List T3) : ∀ k, (insK l k).length = k
  | 0 => rfl
  | k + 1 => by unfold insK; rw [insT_len, insK_len l k]
open Go.RowKit Go.Proofs
set_option linter.unusedSimpArgs false
set_option linter.unusedVariables false

end Go.Proofs.Yteapdildbfimnaa
namespace Go.Proofs.Yteapdildbfimnaa
open Go.RowKit Go.Proofs
set_option linter.unusedSimpArgs false
set_option linter.unusedVariables false

/-- A list of numbers that may grow. -/
def isG (l : List Int) (v : V) : Prop := ∃ (u : Value) (Z : Nat → Prop), v = .grow u Z 3 1 l.length fun j => vi (l.getD j 0)
def gL (N n : Nat) (p : Nat → List Int) (F : Nat → V) : Prop := ∀ q, q < n → isG (p q) (F q) ∧ (∀ b, Zof (F q) b → N ≤ b) ∧ ∀ r, r < n → r ≠ q → Apart (F q) (F r)
theorem isG.one {l : List Int} {v : V} (h : isG l v) : v.one = true := by obtain ⟨u, Z, rfl⟩ := h; rfl
theorem Zof.grow {u : Value} {Z : Nat → Prop} {e : TypeId} {n : Nat} {g : Nat → Int} {b : Nat} : Zof (.grow u Z e 1 n fun j => vi (g j)) b ↔ Z b := by
  constructor
  · rintro ⟨Z', h, hb⟩
    cases h with
    | grow => exact hb
    | inGrow _ _ _ _ _ _ i _ h => cases h
  · intro h; exact ⟨Z, .grow _ _ _ _ _, h⟩
theorem isG.new {l : List Int} {v : V} (h : isG l v) : NewV (fun _ => True) v := by obtain ⟨u, Z, rfl⟩ := h; exact ⟨trivial, fun _ _ => trivial⟩
/-- Let go as a row. -/
def rowOfG : V → V
  | .grow u Z _ sz n f => .row u Z sz n f
  | v => v
theorem isG.row {l : List Int} {v : V} (h : isG l v) : isRow l (rowOfG v) ∧ VE v (rowOfG v) ∧ ∀ b, Zof (rowOfG v) b ↔ Zof v b := by
  obtain ⟨u, Z, rfl⟩ := h
  refine ⟨⟨u, Z, rfl⟩, ⟨rfl, rfl, rfl, rfl, fun i _ => VE.rfl' _⟩, fun b => ⟨?_, ?_⟩⟩
  · rintro ⟨Z', h, hb⟩
    cases h with
    | row => exact Zof.grow.2 hb
    | inRow _ _ _ _ _ i _ h => cases h
  · intro h; exact ⟨Z, .row _ _ _ _, Zof.grow.1 h⟩
/-- One of the lists has grown. -/
theorem gL.step {N n k : Nat} {p p' : Nat → List Int} {F : Nat → V} {u1 : Value} {Z1 : Nat → Prop} (h : gL N n p F) (hk : k < n) (hp : ∀ q, q < n → q ≠ k → p' q = p q) (hN : ∀ b, Z1 b → N ≤ b) (hd : ∀ q, q < n → q ≠ k → Disj (Zof (F q)) Z1) :
    gL N n p' fun q => if q = k then .grow u1 Z1 3 1 (p' k).length fun j => vi ((p' k).getD j 0) else F q := by
  intro q hq
  by_cases e : q = k
  · subst e
    simp only [if_pos]
    refine ⟨⟨u1, Z1, rfl⟩, fun b hb => hN b (Zof.grow.1 hb), fun r hr hne => ?_⟩
    rw [if_neg hne]
    exact fun b hb hb' => hd r hr hne b hb' (Zof.grow.1 hb)
  · obtain ⟨h1, h2, h3⟩ := h q hq
    simp only [if_neg e]
    refine ⟨by rw [hp q hq e]; exact h1, h2, fun r hr hne => ?_⟩
    by_cases e' : r = k
    · rw [if_pos e']
      exact fun b hb hb' => hd q hq e b hb (Zof.grow.1 hb')
    · rw [if_neg e']; exact h3 r hr hne

open Go.RowKit Go.Proofs
set_option linter.unusedSimpArgs false
set_option linter.unusedVariables false
def gS (N k : Nat) (p : Nat → V → Prop) (v : V) : Prop := ∃ (u : Value) (Z : Nat → Prop) (F : Nat → V), v = .grow u Z 31 1 k F ∧ (∀ b, Z b → N ≤ b) ∧ ∀ i, i < k → p i (F i) ∧ (∀ b, Zof (F i) b → N ≤ b) ∧ Disj Z (Zof (F i)) ∧ ∀ j, j < k → j ≠ i → Apart (F i) (F j)

theorem Zof.growF {u : Value} {Z : Nat → Prop} {e : TypeId} {n : Nat} {F : Nat → V} {b : Nat} : Zof (.grow u Z e 1 n F) b ↔ Z b ∨ ∃ i, i < n ∧ Zof (F i) b := by
  constructor
  · rintro ⟨Z', h, hb⟩
    cases h with
    | grow => exact .inl hb
    | inGrow _ _ _ _ _ _ i hi h => exact .inr ⟨i, by omega, Z', h, hb⟩
  · rintro (h | ⟨i, hi, Z', h, hb⟩)
    · exact ⟨Z, .grow _ _ _ _ _, h⟩
    · exact ⟨Z', .inGrow _ _ _ _ _ _ i (by omega) h, hb⟩
theorem gS.nil (N : Nat) (p : Nat → V → Prop) : gS N 0 p (.grow (.slice none 0 0) (fun _ => False) 31 1 0 fun _ => .val undef) := ⟨_, _, _, rfl, fun _ h => h.elim, fun i hi => by omega⟩
theorem gS.step {N k : Nat} {p : Nat → V → Prop} {Z Z2 : Nat → Prop} {u2 : Value} {F : Nat → V} {v : V} (h : ∀ i, i < k → p i (F i) ∧ (∀ b, Zof (F i) b → N ≤ b) ∧ Disj Z (Zof (F i)) ∧ ∀ j, j < k → j ≠ i → Apart (F i) (F j)) (hv : p k v) (hN : ∀ b, Zof v b → N ≤ b) (ha : ∀ i, i < k → Apart (F i) v)
    (hZ : ∀ b, Z2 b → N ≤ b) (hd : ∀ i, i < k → Disj Z2 (Zof (F i))) (hdv : Disj Z2 (Zof v)) : gS N (k + 1) p (.grow u2 Z2 31 1 (k + 1) fun i => if i = k then v else F i) := by
  refine ⟨u2, Z2, _, rfl, hZ, fun i hi => ?_⟩
  by_cases e : i = k
  · subst e
    simp only [if_pos]
    exact ⟨hv, hN, hdv, fun j hj hne => by rw [if_neg hne]; exact (ha j (by omega)).symm⟩
  · obtain ⟨q1, q2, q3, q4⟩ := h i (by omega)
    simp only [if_neg e]
    refine ⟨q1, q2, hd i (by omega), fun j hj hne => ?_⟩
    by_cases e' : j = k
    · rw [if_pos e']; exact ha i (by omega)
    · rw [if_neg e']; exact q4 j (by omega) hne
theorem gS.new {N k : Nat} {p : Nat → V → Prop} {v : V} (hp : ∀ i v, p i v → NewV (fun _ => True) v) (h : gS N k p v) : NewV (fun _ => True) v := by
  obtain ⟨u, Z, F, rfl, h1, h2⟩ := h
  exact ⟨trivial, fun i hi => hp i _ (h2 i (by omega)).1⟩
theorem gS.ge {N k : Nat} {p : Nat → V → Prop} {v : V} (h : gS N k p v) : ∀ b, Zof v b → N ≤ b := by
  obtain ⟨u, Z, F, rfl, h1, h2⟩ := h
  intro b hb
  rcases Zof.growF.1 hb with hb | ⟨i, hi, hb⟩
  · exact h1 b hb
  · exact (h2 i hi).2.1 b hb
theorem gS.one {N k : Nat} {p : Nat → V → Prop} {v : V} (h : gS N k p v) : v.one = true := by obtain ⟨u, Z, F, rfl, h⟩ := h; rfl
theorem isMats.of {s : List (List (List Int))} {n : Nat} {p : Nat → V → Prop} {v : V} (h : isL n p v) (hl : s.length = n) (hp : ∀ i v, i < n → p i v → isMat (matAt s i) v) : isMats s v := by
  subst hl
  obtain ⟨u, Z, F, rfl, h⟩ := h
  exact ⟨u, Z, F, rfl, fun i hi => ⟨hp i _ hi (h i hi).1, (h i hi).2⟩⟩
/-- The rows that are being made, apart from what is there. -/
def pU (N n cnt : Nat) (m : List (List Int)) (O : Nat → V) (F : Nat → V) : Prop := partL N n cnt (fun q => isRow (rowAt m q)) F ∧ ∀ q, q < cnt → ∀ i, i < 3 → Apart (O i) (F q)
theorem pU.nil (N n : Nat) (m : List (List Int)) (O F : Nat → V) : pU N n 0 m O F := ⟨⟨by omega, fun i hi => by omega⟩, fun q hq => by omega⟩
theorem pU.grow {N n cnt : Nat} {m : List (List Int)} {O F : Nat → V} {v : V} (h : pU N n cnt m O F) (hc : cnt < n) (hv : isRow (rowAt m cnt) v) (hN : ∀ b, Zof v b → N ≤ b) (hd : ∀ i, i < cnt → Apart (F i) v) (ho : ∀ i, i < 3 → Apart (O i) v) : pU N n (cnt + 1) m O (fun i => if i = cnt then v else F i) := by
  refine ⟨h.1.grow hc hv hN hd, fun q hq i hi => ?_⟩
  show Apart (O i) (if q = cnt then v else F q)
  by_cases e : q = cnt
  · rw [if_pos e]; exact ho i hi
  · rw [if_neg e]; exact h.2 q (by omega) i hi
end Go.Proofs.Yteapdildbfimnaa
