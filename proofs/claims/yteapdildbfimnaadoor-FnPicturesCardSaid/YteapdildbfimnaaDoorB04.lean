/- Parts of the proof of LawFnPictures: contracts of functions, laws of an abstract state, plain facts. No conditions. -/
import Derived.Test.YteapdildbfimnaaDoorB03
import Derived.WalkKit
import Derived.Lib.Walk
import Derived.Deep.QuietTactic
import Derived.BigQuiet
import Derived.Deep.LoopGhost
namespace Go.Proofs.YteapdildbfimnaaDoor
open Go.RowKit Go.Proofs
set_option linter.unusedSimpArgs false
set_option linter.unusedVariables false

theorem u64_wrap (n : Int) : 0 ≤ IntKind.u64.wrap n ∧ IntKind.u64.wrap n < 18446744073709551616 := by
  simp [IntKind.wrap, IntKind.bits, IntKind.signed]; omega

theorem and255 (x : Int) : 0 ≤ bits .and .u64 x 255 ∧ bits .and .u64 x 255 < 256 := by
  have h1 : (BitVec.ofInt IntKind.u64.bits x &&& BitVec.ofInt IntKind.u64.bits 255).toNat ≤ 255 := by
    rw [BitVec.toNat_and]
    exact Nat.le_trans Nat.and_le_right (by decide)
  unfold bits
  show 0 ≤ IntKind.u64.wrap _ ∧ IntKind.u64.wrap _ < 256
  generalize (BitVec.ofInt IntKind.u64.bits x &&& BitVec.ofInt IntKind.u64.bits 255).toNat = m at h1
  simp [IntKind.wrap, IntKind.bits, IntKind.signed]
  omega

theorem next_in (b : Nat) (cur : Array Value) (e : TypeId) (A : Addr) (n cap : Nat) (g p q : Int) (w : World) (hb : w.heap[b]? = some (.cells cur e (0, 0))) (h0 : cur[0]? = some (.slice (some A) n cap)) (h1 : cur[1]? = some (.int .i64 p)) (h2 : cur[2]? = some (.int .u64 q))
    (hp : 0 ≤ p ∧ p ≤ 1099511627776) (hq : 0 ≤ q ∧ q < 18446744073709551616) (hn : n ≤ 1099511627776) (hnp : p < n) (hg : w.cell? (A.add p.toNat) = some (.int .u8 g)) (hg2 : 0 ≤ g ∧ g < 256) :
    Calls Tryd.prog 65 #[.pointer (some ⟨b, 0, none⟩)] w fun e' w' => ∃ x q' : Int, (0 ≤ x ∧ x < 256) ∧ (0 ≤ q' ∧ q' < 18446744073709551616) ∧ e' = .returned (.int .i64 x) ∧ ∃ m m', w' = (((w.drewN m).setCell ⟨b, 1, none⟩ (.int .i64 (p + 1))).setCell ⟨b, 2, none⟩ (.int .u64 q')).drewN m' := by
  have c0 : w.cell? ⟨b, 0, none⟩ = some (.slice (some A) n cap) := cell_of_blk hb h0
  have c1 : w.cell? ⟨b, 1, none⟩ = some (.int .i64 p) := cell_of_blk hb h1
  have c2 : w.cell? ⟨b, 2, none⟩ = some (.int .u64 q) := cell_of_blk hb h2
  go_enter Tryd.func65, Tryd.ntmps65
  go_wp2
  have hlt : decide (p < (n : Int)) = true := decide_eq_true hnp
  have hle : decide (p + 1 ≤ (n : Int)) = true := decide_eq_true (by omega)
  have f1 : w.frozen? ⟨b, 1, none⟩ = false := by simp [World.frozen?, hb]
  have f2 : w.frozen? ⟨b, 2, none⟩ = false := by simp [World.frozen?, hb]
  have hp0 : 0 ≤ p := hp.1
  go_quiet (fail)
  go_wp2
  go_quiet (fail)
  go_wp2
  go_quiet (fail)
  go_wp2
  go_ret
  exact ⟨g, _, hg2, u64_wrap _, rfl, _, _, rfl⟩

theorem next_out (b : Nat) (cur : Array Value) (e : TypeId) (B : Option Addr) (n cap : Nat) (p q : Int) (w : World) (hb : w.heap[b]? = some (.cells cur e (0, 0))) (h0 : cur[0]? = some (.slice B n cap)) (h1 : cur[1]? = some (.int .i64 p)) (h2 : cur[2]? = some (.int .u64 q))
    (hp : 0 ≤ p ∧ p ≤ 1099511627776) (hq : 0 ≤ q ∧ q < 18446744073709551616) (hn : n ≤ 1099511627776) (hnp : ¬ p < n) :
    Calls Tryd.prog 65 #[.pointer (some ⟨b, 0, none⟩)] w fun e' w' => ∃ x q' : Int, (0 ≤ x ∧ x < 256) ∧ (0 ≤ q' ∧ q' < 18446744073709551616) ∧ e' = .returned (.int .i64 x) ∧ ∃ m m', w' = (((w.drewN m).setCell ⟨b, 1, none⟩ (.int .i64 (p + 1))).setCell ⟨b, 2, none⟩ (.int .u64 q')).drewN m' := by
  have c0 : w.cell? ⟨b, 0, none⟩ = some (.slice B n cap) := cell_of_blk hb h0
  have c1 : w.cell? ⟨b, 1, none⟩ = some (.int .i64 p) := cell_of_blk hb h1
  have c2 : w.cell? ⟨b, 2, none⟩ = some (.int .u64 q) := cell_of_blk hb h2
  go_enter Tryd.func65, Tryd.ntmps65
  go_wp2
  have hlt : decide (p < (n : Int)) = false := decide_eq_false (by omega)
  have hle : decide (p + 1 ≤ (n : Int)) = false := decide_eq_false (by omega)
  have f1 : w.frozen? ⟨b, 1, none⟩ = false := by simp [World.frozen?, hb]
  have f2 : w.frozen? ⟨b, 2, none⟩ = false := by simp [World.frozen?, hb]
  have hp0 : 0 ≤ p := hp.1
  go_quiet (fail)
  go_wp2
  go_quiet (fail)
  go_wp2
  go_ret
  refine ⟨_, _, ?_, u64_wrap _, rfl, _, _, rfl⟩
  have := and255 (IntKind.u64.wrap (IntKind.u64.wrap (IntKind.u64.wrap (q * 6364136223846793005)) + 1442695040888963407) / 1099511627776)
  generalize bits BinOp.and IntKind.u64 (IntKind.u64.wrap (IntKind.u64.wrap (IntKind.u64.wrap (q * 6364136223846793005)) + 1442695040888963407) / 1099511627776) 255 = y at *
  unfold wrap64
  omega

/-- The bytes that the cursor reads. -/
abbrev bytV (n : Nat) (g : Nat → Int) : V := .seq 1 n fun i => .val (.int .u8 (g i))

theorem moved_world {b : Nat} {cur : Array Value} {e : TypeId} {w w' : World} {m m' : Nat} {p' q' : Int} (hb : w.heap[b]? = some (.cells cur e (0, 0))) (hw : w' = (((w.drewN m).setCell ⟨b, 1, none⟩ (.int .i64 p')).setCell ⟨b, 2, none⟩ (.int .u64 q')).drewN m') :
    RebB b w { w with heap := w'.heap } ∧ Below w'.heap.size { w with heap := w'.heap } w' ∧ w'.heap[b]? = some (.cells ((cur.setIfInBounds 1 (.int .i64 p')).setIfInBounds 2 (.int .u64 q')) e (0, 0)) ∧ w'.heap.size = w.heap.size := by
  have hd : ∀ (v : World) (k : Nat), (v.drewN k).heap = v.heap := fun v k => by cases k <;> rfl
  have h1 : (w.drewN m).heap[b]? = some (.cells cur e (0, 0)) := by rw [hd]; exact hb
  have h2 : ((w.drewN m).setCell ⟨b, 1, none⟩ (.int .i64 p')).heap[b]? = some (.cells (cur.setIfInBounds 1 (.int .i64 p')) e (0, 0)) := setCell_at h1
  have h3 : (((w.drewN m).setCell ⟨b, 1, none⟩ (.int .i64 p')).setCell ⟨b, 2, none⟩ (.int .u64 q')).heap[b]? = some (.cells ((cur.setIfInBounds 1 (.int .i64 p')).setIfInBounds 2 (.int .u64 q')) e (0, 0)) := setCell_at h2
  have hH : w'.heap = (((w.drewN m).setCell ⟨b, 1, none⟩ (.int .i64 p')).setCell ⟨b, 2, none⟩ (.int .u64 q')).heap := by rw [hw, hd]
  have hS : w'.heap.size = w.heap.size := by rw [hH, setCell_size, setCell_size, hd]
  have hso : ∀ (v : World) (x : Addr) (y : Value), (v.setCell x y).os = v.os ∧ (v.setCell x y).tape = v.tape ∧ (v.setCell x y).output = v.output := fun v x y => ⟨rfl, rfl, rfl⟩
  have hdo : ∀ (v : World) (k : Nat), (v.drewN k).os = v.os ∧ (v.drewN k).tape = v.tape ∧ (v.drewN k).output = v.output := fun v k => ⟨rfl, rfl, rfl⟩
  refine ⟨⟨rfl, rfl, rfl, hS, fun j hj => ?_⟩, ⟨?_, ?_, ?_, Nat.le_refl _, fun _ _ => rfl⟩, ?_, hS⟩
  · show w'.heap[j]? = _
    rw [hH, Below.heap_setCell _ _ _ _ hj, Below.heap_setCell _ _ _ _ hj, hd]
  · rw [hw]; simp only [hdo, hso]
  · rw [hw]; simp only [hdo, hso]
  · rw [hw]; simp only [hdo, hso]
  · rw [hH]; exact h3

/-- Some number below 256. -/
theorem next_fn (b k n : Nat) (Z : Nat → Prop) (g : Nat → Int) (hk : k ≤ 1099511627776) (hn : n ≤ 1099511627776) (hg : ∀ i, i < n → 0 ≤ g i ∧ g i < 256) :
    FnC Tryd.prog 65 b k (k + 1) Z (bytV n g) [] (fun r => ∃ x : Int, (0 ≤ x ∧ x < 256) ∧ r = .one (.pv (vi x))) := by
  refine ⟨Tryd.call65, fun w u us hu hus => ?_⟩
  match us, hus with
  | [], _ =>
    obtain ⟨rfl, _, hz, cur, cv, p, q, e, hc, ⟨h0, h1, h2⟩, hp, hq, hr⟩ := hu
    obtain ⟨A, c, rfl, hcap, hcells⟩ := hr
    have fin : ∀ e' w', (∃ x q' : Int, (0 ≤ x ∧ x < 256) ∧ (0 ≤ q' ∧ q' < 18446744073709551616) ∧ e' = Ending.returned (.int .i64 x) ∧ ∃ m m', w' = (((w.drewN m).setCell ⟨b, 1, none⟩ (.int .i64 (p + 1))).setCell ⟨b, 2, none⟩ (.int .u64 q')).drewN m') →
        ∃ w1 r x φ, RebB b w w1 ∧ Rd w1 (fun _ => True) (.cur b (k + 1) Z (bytV n g)) (.pointer (some ⟨b, 0, none⟩)) ∧ (∃ x : Int, (0 ≤ x ∧ x < 256) ∧ r = Res.one (.pv (vi x))) ∧ NewL (fun Z => ∀ j, Z j → w.heap.size ≤ j) r.list ∧ e' = .returned x ∧ Heap w1 (fun _ => True) (bring r.list []).2 φ w' ∧ RdSlot w' (Stab w1 (fun _ => True) (bring r.list []).2 φ) φ (r.slot (bring r.list []).1) x := by
      rintro e' w' ⟨x, q', hx, hq', rfl, m, m', hw⟩
      obtain ⟨hR, hB, hblk, hsz⟩ := moved_world hc hw
      have c1 : 1 < cur.size := (Array.getElem?_eq_some_iff.1 h1).1
      have c2 : 2 < cur.size := (Array.getElem?_eq_some_iff.1 h2).1
      have hcur : Rd { w with heap := w'.heap } (fun _ => True) (.cur b (k + 1) Z (bytV n g)) (.pointer (some ⟨b, 0, none⟩)) := by
        refine ⟨rfl, trivial, fun j hj => ⟨trivial, ?_, (hz j hj).2.2⟩, _, _, p + 1, q', e, hblk, ⟨?_, ?_, ?_⟩, ⟨by omega, by omega⟩, hq', Rd.mono (S := Z) (fun j hj _ => ⟨hj, hR.oth j (hz j hj).2.2⟩) (bytV n g) (.slice A n c) ⟨A, c, rfl, hcap, hcells⟩⟩
        · show j < w'.heap.size
          rw [hsz]; exact (hz j hj).2.1
        · rw [Array.getElem?_setIfInBounds_ne (by decide), Array.getElem?_setIfInBounds_ne (by decide)]; exact h0
        · rw [Array.getElem?_setIfInBounds_ne (by decide)]; simp [c1]
        · simp [c2]
      exact ⟨_, .one (.pv (vi x)), .int .i64 x, [], hR, hcur, ⟨x, hx, rfl⟩, ⟨trivial, trivial⟩, rfl, ⟨rfl, hB, fun id blk hi => by simp [bring, Res.list] at hi, fun i j bi bj b z z' hi => by simp [bring, Res.list] at hi⟩, rfl⟩
    by_cases hpn : p < n
    · obtain ⟨b', off, rfl, hS, hcl⟩ := hcells (by omega)
      obtain ⟨y, hy, hy2⟩ := hcl p.toNat (by omega)
      have hy2 : y = .int .u8 (g p.toNat) := hy2
      subst hy2
      exact (next_in b cur e ⟨b', off, none⟩ n c (g p.toNat) p q w hc h0 h1 h2 ⟨hp.1, by omega⟩ hq hn hpn (by rw [add_none]; exact hy) (hg _ (by omega))).mono fin
    · exact (next_out b cur e A n c p q w hc h0 h1 h2 ⟨hp.1, by omega⟩ hq hn hpn).mono fin

open Go.RowKit Go.Proofs
set_option linter.unusedSimpArgs false
set_option linter.unusedVariables false
set_option maxRecDepth 20000

/-- Some integer of which p holds. -/
def someI (p : Int → Prop) : Res → Prop := fun r => ∃ x : Int, p x ∧ r = .one (.pv (vi x))
theorem someI.shape {p : Int → Prop} (r : Res) (h : someI p r) : r.shape 1 = true := by obtain ⟨x, _, rfl⟩ := h; rfl

def someB : Res → Prop := fun r => ∃ x : Bool, r = .one (.pv (vb x))
theorem someB.shape (r : Res) (h : someB r) : r.shape 1 = true := by obtain ⟨x, rfl⟩ := h; rfl

theorem retC_int {t N b k' : Nat} {Z : Nat → Prop} {c : V} {p : Int → Prop} {s : ASt} {x : Int} (hl : lookup s.σ t = some (sc (.int .i64 x))) {j : Nat} (hc : lookup s.σ 0 = some (.one (.pv (.cur b j Z c)))) (hj : j ≤ k') (hp : p x) : retC [t] N (someI p) b k' Z c .ret s := by
  refine ⟨⟨j, hc, hj⟩, _, ⟨x, hp, rfl⟩, ⟨trivial, trivial⟩, ?_⟩
  unfold retOk
  simp only [getL, hl, Option.map_some, Res.list, fitsL, fits, VE, srcs, ND, and_true]
theorem retC_bool {t N b k' : Nat} {Z : Nat → Prop} {c : V} {s : ASt} {x : Bool} (hl : lookup s.σ t = some (sc (.bool x))) {j : Nat} (hc : lookup s.σ 0 = some (.one (.pv (.cur b j Z c)))) (hj : j ≤ k') : retC [t] N someB b k' Z c .ret s := by
  refine ⟨⟨j, hc, hj⟩, _, ⟨x, rfl⟩, ⟨trivial, trivial⟩, ?_⟩
  unfold retOk
  simp only [getL, hl, Option.map_some, Res.list, fitsL, fits, VE, srcs, ND, and_true]

/-- The bytes are bytes, and no more than 2^40. -/
structure BytOk (m : Nat) (g : Nat → Int) : Prop where
  len : m ≤ 1099511627776
  byte : ∀ i, i < m → 0 ≤ g i ∧ g i < 256

section
variable {b m : Nat} {Z : Nat → Prop} {g : Nat → Int}

theorem next2_fn (k : Nat) (hk : k ≤ 549755813888) (hb : BytOk m g) : FnC Tryd.prog 65 b k (k + 1) Z (bytV m g) [] (someI fun x => 0 ≤ x ∧ x < 256) := next_fn b k m Z g (by omega) hb.len hb.byte

theorem pick_fn (k : Nat) (n : Int) (hk : k ≤ 549755813880) (hb : BytOk m g) : FnC Tryd.prog 40 b k (k + 2) Z (bytV m g) [vi n] (someI fun x => 0 ≤ x ∧ (x < n ∨ x = 0)) := by
  refine FnC.of_body Tryd.call40 Tryd.func40 rfl Tryd.ntmps40 (ts := [4]) rfl (by simp) (someI.shape) (fun N cx hcx hbN => ?_)
  repeat' (first | ((with_reducible show evNx _ _ _ _ _ _); first | (with_reducible refine nx_done ?_) | (refine nx_one rfl ?_) | (refine nx_alt rfl ?_ ?_) | (with_reducible refine nx_st ?_)) | ((with_reducible show evSx _ _ _ _ _ _); first | (with_reducible refine sx_done ?_) | (with_reducible refine sx_st ?_) | (with_reducible refine sx_op ?_)) | ((with_reducible show evTake _ _ _ _ _); with_reducible refine take_nil ?_) | ((with_reducible show evSy _ _ _ _ _ _ _); first | (with_reducible refine sy_done ?_) | (refine sy_last rfl ?_) | (refine sy_one (by decide) rfl ?_) | (refine sy_alt (by decide) rfl ?_ ?_) | (with_reducible refine sy_st ?_)) | ((with_reducible show StK _ _ _); first | fail) | (with_reducible first | refine then_normal ?_ | refine then_ret ?_ | refine then_exit ?_ | refine block_normal ?_ | refine block_ret ?_) | ((with_reducible show blockQ _ _ _ _); first | refine block_exit ?_ | refine block_exit_ne rfl ?_) | ((with_reducible show AWP _ _ _ _ _); first | (refine AWP.region_sx (id := 3) [.op, .op, .op] ?_) | (refine AWP.region_sx (id := 5) [.op, .op, .op, .op, .op, .op] ?_) | (with_reducible first | refine AWP.seq ?_ | refine AWP.block ?_ | refine AWP.region ?_ | refine AWP.ret ?_ | refine AWP.exit ?_ | refine AWP.skip ?_) | refine AWP.drawn rfl (by kernel_rfl) ?_ | refine AWP.cond rfl ?_ ?_) | with_reducible refine ev_nil ?_ | ((first | ((with_reducible show evNx _ _ _ _ _ _); refine nx_take rfl ?_; intro K hK) | ((with_reducible show Ax _ _ _ _ _); first | ((first | refine ax_callC (f := 65) ?_); refine callC_go (x := _) (xs := _) rfl rfl rfl (by first | exact .inl (by rw [hcx]; exact rfl) | exact .inr (by assumption)) (by (try simp only [okS, okSl, okH, eq_self, true_and, and_true, and_self]); repeat' (first | exact trivial | exact rfl | exact disj_cut | exact disj_lt (by assumption) | assumption | omega | refine And.intro ?_ ?_ | (intro i hi; first | exact trivial | (split <;> first | exact trivial | exact disj_lt (by assumption) | exact disj_cut) | (repeat' split) <;> exact trivial))) (by (try simp only [okS, okSl, okH, eq_self, true_and, and_true, and_self]); repeat' (first | exact trivial | exact rfl | exact disj_cut | exact disj_lt (by assumption) | assumption | omega | refine And.intro ?_ ?_ | (intro i hi; first | exact trivial | (split <;> first | exact trivial | exact disj_lt (by assumption) | exact disj_cut) | (repeat' split) <;> exact trivial))) (fun K1 hK1 => by simp only [argsC, opd, lookup, Nat.zero_add, Nat.reduceEqDiff, ↓reduceIte, List.getElem?_cons_zero, List.getElem?_cons_succ, List.reverse_cons, List.reverse_nil, List.nil_append, List.cons_append]; repeat' (first | exact hK1 | exact trivial | exact disj_cut | assumption | omega | refine And.intro ?_ ?_)) ?_; first | (refine ⟨_, _, next2_fn _ (by omega) hb, ?_⟩; rintro _ ⟨x, hx, rfl⟩ hnewZ; clear hnewZ)) | (refine ax_op rfl ?_; intro K hK)) | ((with_reducible show evTake _ _ _ _ _); refine take_step rfl ?_; intro K hK) | ((with_reducible show evSy _ _ _ _ _ _ _); refine sy_take rfl ?_; intro K hK) | ((with_reducible show AxB _ _ _ _ _); first | (refine axb_op rfl rfl ?_; intro K hK)) | ((with_reducible show evOps _ _ _ _ _ _); (first | refine ev_step rfl ?_ | refine ev_undef rfl rfl rfl ?_); intro K hK) | ((with_reducible show EvOpen _ _ _ _ _ _ _); refine ev_open ?_; intro K hK) | ((with_reducible show SkOpen _ _ _ _ _ _ _); refine sk_open ?_; intro K hK) | ((with_reducible show callK _ _ _ _ _ _ _ _); first  | fail)); simp only [evOp, evQ, binK, withS, opd, kput, putS, upd, lookup, bringIn, bring, Res.list, Res.slot, slotsOf, InK_i64, swpS, swSl, oldC, List.map_cons, List.map_nil, Nat.reduceEqDiff, Nat.reduceLT, Nat.zero_add, ↓reduceIte, eq_self, true_and]) | refine ev_guard rfl rfl rfl ?_ ?_ | ((with_reducible show retQ _ _ _ _); simp only [eq_self]) | (with_reducible refine hK _ ?_; clear hK K) | (with_reducible refine And.intro ?_ ?_) | (with_reducible intro hc; try simp only [decide_eq_true_eq, decide_eq_false_iff_not, Int.not_lt, Int.not_le, gt_iff_lt] at hc) | omega)
  all_goals first
    | (refine retC_int rfl rfl (by omega) ?_; exact ⟨by omega, .inr rfl⟩)
    | (refine retC_int rfl rfl (by omega) ?_; exact ⟨Int.emod_nonneg _ (by omega), .inl (Int.emod_lt_of_pos _ (by omega))⟩)
    | trace_state

theorem one_fn (k : Nat) (n : Int) (hk : k ≤ 549755813880) (hb : BytOk m g) : FnC Tryd.prog 64 b k (k + 2) Z (bytV m g) [vi n] someB := by
  refine FnC.of_body Tryd.call64 Tryd.func64 rfl Tryd.ntmps64 (ts := [4]) rfl (by simp) (someB.shape) (fun N cx hcx hbN => ?_)
  repeat' (first | ((with_reducible show evNx _ _ _ _ _ _); first | (with_reducible refine nx_done ?_) | (refine nx_one rfl ?_) | (refine nx_alt rfl ?_ ?_) | (with_reducible refine nx_st ?_)) | ((with_reducible show evSx _ _ _ _ _ _); first | (with_reducible refine sx_done ?_) | (with_reducible refine sx_st ?_) | (with_reducible refine sx_op ?_)) | ((with_reducible show evTake _ _ _ _ _); with_reducible refine take_nil ?_) | ((with_reducible show evSy _ _ _ _ _ _ _); first | (with_reducible refine sy_done ?_) | (refine sy_last rfl ?_) | (refine sy_one (by decide) rfl ?_) | (refine sy_alt (by decide) rfl ?_ ?_) | (with_reducible refine sy_st ?_)) | ((with_reducible show StK _ _ _); first | fail) | (with_reducible first | refine then_normal ?_ | refine then_ret ?_ | refine then_exit ?_ | refine block_normal ?_ | refine block_ret ?_) | ((with_reducible show blockQ _ _ _ _); first | refine block_exit ?_ | refine block_exit_ne rfl ?_) | ((with_reducible show AWP _ _ _ _ _); first | (refine AWP.region_sx (id := 1) [.op, .op, .op, .op, .op] ?_) | (with_reducible first | refine AWP.seq ?_ | refine AWP.block ?_ | refine AWP.region ?_ | refine AWP.ret ?_ | refine AWP.exit ?_ | refine AWP.skip ?_) | refine AWP.drawn rfl (by kernel_rfl) ?_ | refine AWP.cond rfl ?_ ?_) | with_reducible refine ev_nil ?_ | ((first | ((with_reducible show evNx _ _ _ _ _ _); refine nx_take rfl ?_; intro K hK) | ((with_reducible show Ax _ _ _ _ _); first | ((first | refine ax_callC (f := 40) ?_); refine callC_go (x := _) (xs := _) rfl rfl rfl (by first | exact .inl (by rw [hcx]; exact rfl) | exact .inr (by assumption)) (by (try simp only [okS, okSl, okH, eq_self, true_and, and_true, and_self]); repeat' (first | exact trivial | exact rfl | exact disj_cut | exact disj_lt (by assumption) | assumption | omega | refine And.intro ?_ ?_ | (intro i hi; first | exact trivial | (split <;> first | exact trivial | exact disj_lt (by assumption) | exact disj_cut) | (repeat' split) <;> exact trivial))) (by (try simp only [okS, okSl, okH, eq_self, true_and, and_true, and_self]); repeat' (first | exact trivial | exact rfl | exact disj_cut | exact disj_lt (by assumption) | assumption | omega | refine And.intro ?_ ?_ | (intro i hi; first | exact trivial | (split <;> first | exact trivial | exact disj_lt (by assumption) | exact disj_cut) | (repeat' split) <;> exact trivial))) (fun K1 hK1 => by simp only [argsC, opd, lookup, Nat.zero_add, Nat.reduceEqDiff, ↓reduceIte, List.getElem?_cons_zero, List.getElem?_cons_succ, List.reverse_cons, List.reverse_nil, List.nil_append, List.cons_append]; repeat' (first | exact hK1 | exact trivial | exact disj_cut | assumption | omega | refine And.intro ?_ ?_)) ?_; first | (refine ⟨_, _, pick_fn _ _ (by omega) hb, ?_⟩; rintro _ ⟨x, hx, rfl⟩ hnewZ; clear hnewZ)) | (refine ax_op rfl ?_; intro K hK)) | ((with_reducible show evTake _ _ _ _ _); refine take_step rfl ?_; intro K hK) | ((with_reducible show evSy _ _ _ _ _ _ _); refine sy_take rfl ?_; intro K hK) | ((with_reducible show AxB _ _ _ _ _); first | (refine axb_op rfl rfl ?_; intro K hK)) | ((with_reducible show evOps _ _ _ _ _ _); (first | refine ev_step rfl ?_ | refine ev_undef rfl rfl rfl ?_); intro K hK) | ((with_reducible show EvOpen _ _ _ _ _ _ _); refine ev_open ?_; intro K hK) | ((with_reducible show SkOpen _ _ _ _ _ _ _); refine sk_open ?_; intro K hK) | ((with_reducible show callK _ _ _ _ _ _ _ _); first  | fail)); simp only [evOp, evQ, binK, withS, opd, kput, putS, upd, lookup, bringIn, bring, Res.list, Res.slot, slotsOf, swpS, swSl, oldC, List.map_cons, List.map_nil, Nat.reduceEqDiff, Nat.reduceLT, Nat.zero_add, ↓reduceIte, eq_self, true_and]) | refine ev_guard rfl rfl rfl ?_ ?_ | ((with_reducible show retQ _ _ _ _); simp only [eq_self]) | (with_reducible refine hK _ ?_; clear hK K) | (with_reducible refine And.intro ?_ ?_) | (with_reducible intro hc; try simp only [eq_self] at hc) | omega)
  all_goals first
    | exact retC_bool rfl rfl (by omega)
    | trace_state

/-- One of a list's numbers. -/
theorem among_fn (k n : Nat) (f : Nat → V) (l : Nat → Int) (p : Int → Prop) (hk : k ≤ 549755813880) (hn : 1 ≤ n ∧ n ≤ 200) (hb : BytOk m g) (hf : ∀ i, i < n → f i = vi (l i)) (hp : ∀ i, i < n → p (l i)) : FnC Tryd.prog 22 b k (k + 2) Z (bytV m g) [.seq 1 n f] (someI p) := by
  refine FnC.of_body Tryd.call22 Tryd.func22 rfl Tryd.ntmps22 (ts := [4]) rfl (by simp) (someI.shape) (fun N cx hcx hbN => ?_)
  repeat' (first | ((with_reducible show evNx _ _ _ _ _ _); first | (with_reducible refine nx_done ?_) | (refine nx_one rfl ?_) | (refine nx_alt rfl ?_ ?_) | (with_reducible refine nx_st ?_)) | ((with_reducible show evSx _ _ _ _ _ _); first | (with_reducible refine sx_done ?_) | (with_reducible refine sx_st ?_) | (with_reducible refine sx_op ?_)) | ((with_reducible show evTake _ _ _ _ _); with_reducible refine take_nil ?_) | ((with_reducible show evSy _ _ _ _ _ _ _); first | (with_reducible refine sy_done ?_) | (refine sy_last rfl ?_) | (refine sy_one (by decide) rfl ?_) | (refine sy_alt (by decide) rfl ?_ ?_) | (with_reducible refine sy_st ?_)) | ((with_reducible show StK _ _ _); first | fail) | (with_reducible first | refine then_normal ?_ | refine then_ret ?_ | refine then_exit ?_ | refine block_normal ?_ | refine block_ret ?_) | ((with_reducible show blockQ _ _ _ _); first | refine block_exit ?_ | refine block_exit_ne rfl ?_) | ((with_reducible show AWP _ _ _ _ _); first | (refine AWP.region_sx (id := 1) [.op, .op, .op, .op, .op, .op, .op, .op] ?_) | (with_reducible first | refine AWP.seq ?_ | refine AWP.block ?_ | refine AWP.region ?_ | refine AWP.ret ?_ | refine AWP.exit ?_ | refine AWP.skip ?_) | refine AWP.drawn rfl (by kernel_rfl) ?_ | refine AWP.cond rfl ?_ ?_) | with_reducible refine ev_nil ?_ | ((first | ((with_reducible show evNx _ _ _ _ _ _); refine nx_take rfl ?_; intro K hK) | ((with_reducible show Ax _ _ _ _ _); first | ((first | refine ax_callC (f := 40) ?_); refine callC_go (x := _) (xs := _) rfl rfl rfl (by first | exact .inl (by rw [hcx]; exact rfl) | exact .inr (by assumption)) (by (try simp only [okS, okSl, okH, eq_self, true_and, and_true, and_self]); repeat' (first | exact trivial | exact rfl | exact disj_cut | exact disj_lt (by assumption) | assumption | omega | refine And.intro ?_ ?_ | (intro i hi; first | exact trivial | (split <;> first | exact trivial | exact disj_lt (by assumption) | exact disj_cut) | (repeat' split) <;> exact trivial))) (by (try simp only [okS, okSl, okH, eq_self, true_and, and_true, and_self]); repeat' (first | exact trivial | exact rfl | exact disj_cut | exact disj_lt (by assumption) | assumption | omega | refine And.intro ?_ ?_ | (intro i hi; first | exact trivial | (split <;> first | exact trivial | exact disj_lt (by assumption) | exact disj_cut) | (repeat' split) <;> exact trivial))) (fun K1 hK1 => by simp only [argsC, opd, lookup, Nat.zero_add, Nat.reduceEqDiff, ↓reduceIte, List.getElem?_cons_zero, List.getElem?_cons_succ, List.reverse_cons, List.reverse_nil, List.nil_append, List.cons_append]; repeat' (first | exact hK1 | exact trivial | exact disj_cut | assumption | omega | refine And.intro ?_ ?_)) ?_; first | (refine ⟨_, _, pick_fn _ _ (by omega) hb, ?_⟩; rintro _ ⟨x, hx, rfl⟩ hnewZ; clear hnewZ)) | (refine ax_op rfl ?_; intro K hK)) | ((with_reducible show evTake _ _ _ _ _); refine take_step rfl ?_; intro K hK) | ((with_reducible show evSy _ _ _ _ _ _ _); refine sy_take rfl ?_; intro K hK) | ((with_reducible show AxB _ _ _ _ _); first | (refine axb_op rfl rfl ?_; intro K hK)) | ((with_reducible show evOps _ _ _ _ _ _); (first | refine ev_step rfl ?_ | refine ev_undef rfl rfl rfl ?_); intro K hK) | ((with_reducible show EvOpen _ _ _ _ _ _ _); refine ev_open ?_; intro K hK) | ((with_reducible show SkOpen _ _ _ _ _ _ _); refine sk_open ?_; intro K hK) | ((with_reducible show callK _ _ _ _ _ _ _ _); first  | fail)); simp only [evOp, evQ, evB, withS, opd, kput, putS, upd, lookup, bringIn, bring, Res.list, Res.slot, slotsOf, sz_ints, c_int, swpS, swSl, oldC, List.map_cons, List.map_nil, Nat.reduceEqDiff, Nat.reduceLT, Nat.mul_one, Nat.add_zero, Nat.zero_add, ↓reduceIte, eq_self, true_and, Option.isSome_some]) | refine ev_guard rfl rfl rfl ?_ ?_ | ((with_reducible show retQ _ _ _ _); simp only [eq_self]) | (with_reducible refine hK _ ?_; clear hK K) | (with_reducible refine And.intro ?_ ?_) | (with_reducible intro hc; try simp only [eq_self] at hc) | omega)
  all_goals first
    | (refine retC_int (x := l x.toNat) ?_ rfl (by omega) (hp _ (by omega))
       show some (Slot.one (SV.pv (oldZ _ (f x.toNat)))) = _
       rw [hf _ (by omega)]; rfl)
    | trace_state

theorem among3_fn (k : Nat) (f : Nat → V) (a0 a1 a2 : Int) (p : Int → Prop) (hk : k ≤ 549755813880) (hb : BytOk m g) (h0 : f 0 = vi a0) (h1 : f 1 = vi a1) (h2 : f 2 = vi a2) (hp : p a0 ∧ p a1 ∧ p a2) : FnC Tryd.prog 22 b k (k + 2) Z (bytV m g) [.seq 1 3 f] (someI p) :=
  among_fn k 3 f (fun i => [a0, a1, a2].getD i 0) p hk (by omega) hb (fun i hi => by
    match i, hi with
    | 0, _ => exact h0
    | 1, _ => exact h1
    | 2, _ => exact h2) fun i hi => by
    match i, hi with
    | 0, _ => exact hp.1
    | 1, _ => exact hp.2.1
    | 2, _ => exact hp.2.2

theorem among4_fn (k : Nat) (f : Nat → V) (a0 a1 a2 a3 : Int) (p : Int → Prop) (hk : k ≤ 549755813880) (hb : BytOk m g) (h0 : f 0 = vi a0) (h1 : f 1 = vi a1) (h2 : f 2 = vi a2) (h3 : f 3 = vi a3) (hp : p a0 ∧ p a1 ∧ p a2 ∧ p a3) : FnC Tryd.prog 22 b k (k + 2) Z (bytV m g) [.seq 1 4 f] (someI p) :=
  among_fn k 4 f (fun i => [a0, a1, a2, a3].getD i 0) p hk (by omega) hb (fun i hi => by
    match i, hi with
    | 0, _ => exact h0
    | 1, _ => exact h1
    | 2, _ => exact h2
    | 3, _ => exact h3) fun i hi => by
    match i, hi with
    | 0, _ => exact hp.1
    | 1, _ => exact hp.2.1
    | 2, _ => exact hp.2.2.1
    | 3, _ => exact hp.2.2.2

theorem among5_fn (k : Nat) (f : Nat → V) (a0 a1 a2 a3 a4 : Int) (p : Int → Prop) (hk : k ≤ 549755813880) (hb : BytOk m g) (h0 : f 0 = vi a0) (h1 : f 1 = vi a1) (h2 : f 2 = vi a2) (h3 : f 3 = vi a3) (h4 : f 4 = vi a4) (hp : p a0 ∧ p a1 ∧ p a2 ∧ p a3 ∧ p a4) : FnC Tryd.prog 22 b k (k + 2) Z (bytV m g) [.seq 1 5 f] (someI p) :=
  among_fn k 5 f (fun i => [a0, a1, a2, a3, a4].getD i 0) p hk (by omega) hb (fun i hi => by
    match i, hi with
    | 0, _ => exact h0
    | 1, _ => exact h1
    | 2, _ => exact h2
    | 3, _ => exact h3
    | 4, _ => exact h4) fun i hi => by
    match i, hi with
    | 0, _ => exact hp.1
    | 1, _ => exact hp.2.1
    | 2, _ => exact hp.2.2.1
    | 3, _ => exact hp.2.2.2.1
    | 4, _ => exact hp.2.2.2.2

theorem among6_fn (k : Nat) (f : Nat → V) (a0 a1 a2 a3 a4 a5 : Int) (p : Int → Prop) (hk : k ≤ 549755813880) (hb : BytOk m g) (h0 : f 0 = vi a0) (h1 : f 1 = vi a1) (h2 : f 2 = vi a2) (h3 : f 3 = vi a3) (h4 : f 4 = vi a4) (h5 : f 5 = vi a5) (hp : p a0 ∧ p a1 ∧ p a2 ∧ p a3 ∧ p a4 ∧ p a5) : FnC Tryd.prog 22 b k (k + 2) Z (bytV m g) [.seq 1 6 f] (someI p) :=
  among_fn k 6 f (fun i => [a0, a1, a2, a3, a4, a5].getD i 0) p hk (by omega) hb (fun i hi => by
    match i, hi with
    | 0, _ => exact h0
    | 1, _ => exact h1
    | 2, _ => exact h2
    | 3, _ => exact h3
    | 4, _ => exact h4
    | 5, _ => exact h5) fun i hi => by
    match i, hi with
    | 0, _ => exact hp.1
    | 1, _ => exact hp.2.1
    | 2, _ => exact hp.2.2.1
    | 3, _ => exact hp.2.2.2.1
    | 4, _ => exact hp.2.2.2.2.1
    | 5, _ => exact hp.2.2.2.2.2

theorem among7_fn (k : Nat) (f : Nat → V) (a0 a1 a2 a3 a4 a5 a6 : Int) (p : Int → Prop) (hk : k ≤ 549755813880) (hb : BytOk m g) (h0 : f 0 = vi a0) (h1 : f 1 = vi a1) (h2 : f 2 = vi a2) (h3 : f 3 = vi a3) (h4 : f 4 = vi a4) (h5 : f 5 = vi a5) (h6 : f 6 = vi a6) (hp : p a0 ∧ p a1 ∧ p a2 ∧ p a3 ∧ p a4 ∧ p a5 ∧ p a6) : FnC Tryd.prog 22 b k (k + 2) Z (bytV m g) [.seq 1 7 f] (someI p) :=
  among_fn k 7 f (fun i => [a0, a1, a2, a3, a4, a5, a6].getD i 0) p hk (by omega) hb (fun i hi => by
    match i, hi with
    | 0, _ => exact h0
    | 1, _ => exact h1
    | 2, _ => exact h2
    | 3, _ => exact h3
    | 4, _ => exact h4
    | 5, _ => exact h5
    | 6, _ => exact h6) fun i hi => by
    match i, hi with
    | 0, _ => exact hp.1
    | 1, _ => exact hp.2.1
    | 2, _ => exact hp.2.2.1
    | 3, _ => exact hp.2.2.2.1
    | 4, _ => exact hp.2.2.2.2.1
    | 5, _ => exact hp.2.2.2.2.2.1
    | 6, _ => exact hp.2.2.2.2.2.2

theorem small_fn (k : Nat) (hk : k ≤ 549755813880) (hb : BytOk m g) : FnC Tryd.prog 48 b k (k + 2) Z (bytV m g) [] (someI fun x => -4 ≤ x ∧ x ≤ 8) := by
  refine FnC.of_body Tryd.call48 Tryd.func48 rfl Tryd.ntmps48 (ts := [2]) rfl (by simp) (someI.shape) (fun N cx hcx hbN => ?_)
  repeat' (first | ((with_reducible show evNx _ _ _ _ _ _); first | (with_reducible refine nx_done ?_) | (refine nx_one rfl ?_) | (refine nx_alt rfl ?_ ?_) | (with_reducible refine nx_st ?_)) | ((with_reducible show evSx _ _ _ _ _ _); first | (with_reducible refine sx_done ?_) | (with_reducible refine sx_st ?_) | (with_reducible refine sx_op ?_)) | ((with_reducible show evTake _ _ _ _ _); with_reducible refine take_nil ?_) | ((with_reducible show evSy _ _ _ _ _ _ _); first | (with_reducible refine sy_done ?_) | (refine sy_last rfl ?_) | (refine sy_one (by decide) rfl ?_) | (refine sy_alt (by decide) rfl ?_ ?_) | (with_reducible refine sy_st ?_)) | ((with_reducible show StK _ _ _); first | fail) | (with_reducible first | refine then_normal ?_ | refine then_ret ?_ | refine then_exit ?_ | refine block_normal ?_ | refine block_ret ?_) | ((with_reducible show blockQ _ _ _ _); first | refine block_exit ?_ | refine block_exit_ne rfl ?_) | ((with_reducible show AWP _ _ _ _ _); first | (refine AWP.region_sx (id := 1) [.op, .op, .op, .op] ?_) | (with_reducible first | refine AWP.seq ?_ | refine AWP.block ?_ | refine AWP.region ?_ | refine AWP.ret ?_ | refine AWP.exit ?_ | refine AWP.skip ?_) | refine AWP.drawn rfl (by kernel_rfl) ?_ | refine AWP.cond rfl ?_ ?_) | with_reducible refine ev_nil ?_ | ((first | ((with_reducible show evNx _ _ _ _ _ _); refine nx_take rfl ?_; intro K hK) | ((with_reducible show Ax _ _ _ _ _); first | ((first | refine ax_callC (f := 40) ?_); refine callC_go (x := _) (xs := _) rfl rfl rfl (by first | exact .inl (by rw [hcx]; exact rfl) | exact .inr (by assumption)) (by (try simp only [okS, okSl, okH, eq_self, true_and, and_true, and_self]); repeat' (first | exact trivial | exact rfl | exact disj_cut | exact disj_lt (by assumption) | assumption | omega | refine And.intro ?_ ?_ | (intro i hi; first | exact trivial | (split <;> first | exact trivial | exact disj_lt (by assumption) | exact disj_cut) | (repeat' split) <;> exact trivial))) (by (try simp only [okS, okSl, okH, eq_self, true_and, and_true, and_self]); repeat' (first | exact trivial | exact rfl | exact disj_cut | exact disj_lt (by assumption) | assumption | omega | refine And.intro ?_ ?_ | (intro i hi; first | exact trivial | (split <;> first | exact trivial | exact disj_lt (by assumption) | exact disj_cut) | (repeat' split) <;> exact trivial))) (fun K1 hK1 => by simp only [argsC, opd, lookup, Nat.zero_add, Nat.reduceEqDiff, ↓reduceIte, List.getElem?_cons_zero, List.getElem?_cons_succ, List.reverse_cons, List.reverse_nil, List.nil_append, List.cons_append]; repeat' (first | exact hK1 | exact trivial | exact disj_cut | assumption | omega | refine And.intro ?_ ?_)) ?_; first | (refine ⟨_, _, pick_fn _ _ (by omega) hb, ?_⟩; rintro _ ⟨x, hx, rfl⟩ hnewZ; clear hnewZ)) | (refine ax_op rfl ?_; intro K hK)) | ((with_reducible show evTake _ _ _ _ _); refine take_step rfl ?_; intro K hK) | ((with_reducible show evSy _ _ _ _ _ _ _); refine sy_take rfl ?_; intro K hK) | ((with_reducible show AxB _ _ _ _ _); first | (refine axb_op rfl rfl ?_; intro K hK)) | ((with_reducible show evOps _ _ _ _ _ _); (first | refine ev_step rfl ?_ | refine ev_undef rfl rfl rfl ?_); intro K hK) | ((with_reducible show EvOpen _ _ _ _ _ _ _); refine ev_open ?_; intro K hK) | ((with_reducible show SkOpen _ _ _ _ _ _ _); refine sk_open ?_; intro K hK) | ((with_reducible show callK _ _ _ _ _ _ _ _); first  | fail)); simp only [evOp, evQ, binK, withS, opd, kput, putS, upd, lookup, bringIn, bring, Res.list, Res.slot, slotsOf, InK_i64, swpS, swSl, List.map_nil, Nat.reduceEqDiff, Nat.reduceLT, Nat.zero_add, ↓reduceIte, eq_self, true_and]) | refine ev_guard rfl rfl rfl ?_ ?_ | ((with_reducible show retQ _ _ _ _); simp only [eq_self]) | (with_reducible refine hK _ ?_; clear hK K) | (with_reducible refine And.intro ?_ ?_) | (with_reducible intro hc; try simp only [eq_self] at hc) | omega)
  all_goals first
    | (refine retC_int rfl rfl (by omega) ?_; omega)
    | trace_state

/-- A number of some size. -/
abbrev big64 (x : Int) : Prop := -9223372036854775808 ≤ x ∧ x ≤ 9223372036854775807

end

end Go.Proofs.YteapdildbfimnaaDoor
namespace Go.Proofs.YteapdildbfimnaaDoor
open Go.RowKit Go.Proofs
set_option linter.unusedSimpArgs false
set_option linter.unusedVariables false
set_option maxRecDepth 20000

/-- Some list of which p holds. -/
def someL (p : List Int → Prop) : Res → Prop := fun r => ∃ l : List Int, p l ∧ r = .one (.fr 1 l.length (bints l))
theorem someL.shape {p : List Int → Prop} (r : Res) (h : someL p r) : r.shape 1 = true := by obtain ⟨x, _, rfl⟩ := h; rfl
/-- No longer than q, of machine words. -/
def LP (q : Nat) (l : List Int) : Prop := l.length ≤ q ∧ ∀ i, big64 (l.getD i 0)
theorem LP.len {q : Nat} {l : List Int} (h : LP q l) (hq : q ≤ 1099511627776) : l.length ≤ 1099511627776 := Nat.le_trans h.1 hq
theorem LP.nil (q : Nat) : LP q [] := ⟨Nat.zero_le _, fun i => by simp [big64]⟩
theorem LP.snoc {q : Nat} {l : List Int} {x : Int} (h : LP q l) (hx : big64 x) (hl : l.length < q) : LP q (l ++ [x]) := by
  refine ⟨by simp; omega, fun i => ?_⟩
  rcases Nat.lt_trichotomy i l.length with h1 | h1 | h1
  · have := h.2 i; simpa [List.getD, List.getElem?_append_left h1] using this
  · subst h1; simpa [List.getD] using hx
  · have e : (l ++ [x]).getD i 0 = 0 := by rw [List.getD, List.getElem?_eq_none (by simp; omega)]; rfl
    rw [e]; simp [big64]
theorem LP.set {q : Nat} {l : List Int} {x : Int} {j : Nat} (h : LP q l) (hx : big64 x) : LP q (l.set j x) := by
  refine ⟨by simp; exact h.1, fun i => ?_⟩
  by_cases e : i = j
  · subst e
    by_cases hi : i < l.length
    · simpa [List.getD, hi] using hx
    · have e : (l.set i x).getD i 0 = 0 := by rw [List.getD, List.getElem?_eq_none (by simp; omega)]; rfl
      rw [e]; simp [big64]
  · have := h.2 i; simpa [List.getD, List.getElem?_set_ne (fun h => e h.symm)] using this
theorem LP.mono {q q' : Nat} {l : List Int} (h : LP q l) (hq : q ≤ q') : LP q' l := ⟨Nat.le_trans h.1 hq, h.2⟩
/-- The ways through an if meet again. -/
theorem AWP.condX [Cx] {P : Program} {N t : Nat} {x1 x2 y : Code} {Q Q' : Exit → ASt → Prop} {s : ASt} {ι : Type} (inv : ι → ASt) (G : ι → Prop) (h : AWP N P (.cond (.tmp t) x1 x2) (thenQ (fun s' => ∃ i, G i ∧ ∃ m, EntR m s' (inv i)) Q') s) (h' : Later (∀ i, G i → AWP N P y Q (inv i))) : AWP N P (.cond (.tmp t) x1 x2) (thenQ (AWP N P y Q) Q') s :=
  fun w0 S0 a w hN sim => wp_mono (h w0 S0 a w hN sim) fun e a' w' ⟨s', hq, sim'⟩ => by
    cases e with
    | normal => obtain ⟨i, hG, m, hq⟩ := hq; obtain ⟨w1, hR, sim'⟩ := sim'; exact ⟨inv i, h' i hG, w1, hR, EntR.sim hq sim'⟩
    | _ => exact ⟨s', hq, sim'⟩

theorem AWP.mono [Cx] {P : Program} {N : Nat} {c : Code} {Q Q' : Exit → ASt → Prop} {s : ASt} (h : AWP N P c Q s) (hQ : ∀ e s', Q e s' → Q' e s') : AWP N P c Q' s :=
  fun w0 S0 a w hN sim => wp_mono (h w0 S0 a w hN sim) fun e a' w' ⟨s', hq, sim'⟩ => ⟨s', hQ e s' hq, sim'⟩
section
variable {b m : Nat} {Z : Nat → Prop} {g : Nat → Int}

end
end Go.Proofs.YteapdildbfimnaaDoor
namespace Go.Proofs.YteapdildbfimnaaDoor
open Go.RowKit Go.Proofs
set_option linter.unusedSimpArgs false
set_option linter.unusedVariables false

theorem l1Least_fn (a b : Int) : Fn Tryd.prog 69 [vi a, vi b] (.one (.pv (vi (if a < b then a else b)))) := by
  refine Fn.of_body Tryd.call69 Tryd.func69 rfl Tryd.ntmps69 (ts := [4]) rfl (by simp) rfl (fun N => ?_)
  repeat' (first | (with_reducible first | refine then_normal ?_ | refine then_ret ?_ | refine then_exit ?_ | refine block_normal ?_ | refine block_ret ?_) | ((with_reducible show blockQ _ _ _ _); first | refine block_exit ?_ | refine block_exit_ne rfl ?_) | ((with_reducible show AWP _ _ _ _ _); first | (with_reducible first | refine AWP.seq ?_ | refine AWP.block ?_ | refine AWP.region ?_ | refine AWP.ret ?_ | refine AWP.exit ?_ | refine AWP.skip ?_) | refine AWP.drawn rfl (by kernel_rfl) ?_ | refine AWP.cond rfl ?_ ?_) | with_reducible refine ev_nil ?_ | ((first | ((with_reducible show evOps _ _ _ _ _ _); (first | refine ev_step rfl ?_ | refine ev_undef rfl rfl rfl ?_); intro K hK) | ((with_reducible show EvOpen _ _ _ _ _ _ _); refine ev_open ?_; intro K hK) | ((with_reducible show SkOpen _ _ _ _ _ _ _); refine sk_open ?_; intro K hK) | ((with_reducible show callK _ _ _ _ _ _ _ _); first | fail)); simp only [evOp, evQ, binK, withS, opd, kput, putS, upd, lookup, slotsOf, Nat.reduceEqDiff, Nat.reduceLT, Nat.zero_add, ↓reduceIte, eq_self, true_and]) | refine ev_guard rfl rfl rfl ?_ ?_ | ((with_reducible show retQ _ _ _ _); simp only [retQ, retOk, getL, lookup, Option.map_some, fitsL, fits, ND, srcs, Res.list, VE, Value.int.injEq, Nat.reduceEqDiff, ↓reduceIte, and_true, true_and]) | (with_reducible refine hK _ ?_; clear hK K) | (with_reducible refine And.intro ?_ ?_) | (with_reducible intro hc; try simp only [decide_eq_true_eq, decide_eq_false_iff_not, Int.not_lt] at hc) | omega)
  all_goals first | (rw [if_pos ‹_›]; done) | (rw [if_neg (by omega)]; done)

end Go.Proofs.YteapdildbfimnaaDoor
namespace Go.Proofs.YteapdildbfimnaaDoor
open Go.RowKit Go.Proofs
set_option linter.unusedSimpArgs false
set_option linter.unusedVariables false

/-- The world behind k rounds of marking block b from m on. -/
def Marked (b : Nat) (cur : Array Value) (e : TypeId) (w : World) (k : Nat) (m : Int) (wr : World) : Prop :=
  AllBut b w wr ∧ ∃ cur' : Array Value, wr.heap[b]? = some (.cells cur' e (0, 0)) ∧ cur'.size = cur.size ∧ ∀ i, i < k → cur'[i]? = some (.int .i64 (m + i))

theorem Marked.cell {b : Nat} {cur : Array Value} {e : TypeId} {w wr : World} {k : Nat} {m : Int} (h : Marked b cur e w k m wr) (hk : k < cur.size) : (∃ x, wr.cell? ⟨b, k, none⟩ = some x) ∧ wr.frozen? ⟨b, k, none⟩ = false := by
  obtain ⟨_, cur', h1, h2, _⟩ := h
  exact ⟨⟨cur'[k], cell_of_blk h1 (Array.getElem?_eq_getElem (by omega))⟩, by simp [World.frozen?, h1]⟩

end Go.Proofs.YteapdildbfimnaaDoor
namespace Go.Proofs.YteapdildbfimnaaDoor
open Go.RowKit Go.Proofs
set_option linter.unusedSimpArgs false
set_option linter.unusedVariables false

end Go.Proofs.YteapdildbfimnaaDoor
namespace Go.Proofs.YteapdildbfimnaaDoor
open Go.RowKit Go.Proofs
theorem z_cur : zeroOf Tryd.prog 45 = some [.slice none 0 0, .int .i64 0, .int .u64 0] := by kernel_rfl
theorem pl_cur : placesOf Tryd.prog 45 = some [(0, 1), (1, 1), (2, 1)] := by kernel_rfl
theorem c_cur : cellsIn Tryd.prog 45 = some (some 3) := by kernel_rfl
theorem fc_0 : fieldIn Tryd.prog 45 0 = some (0, none) := by kernel_rfl
set_option linter.unusedSimpArgs false
set_option linter.unusedVariables false
set_option maxRecDepth 20000

theorem sm7 {x y z : Int} (h : -4 ≤ x ∧ x ≤ 8) (h' : -4 ≤ y ∧ y ≤ 8) (h2 : big64 z) : big64 0 ∧ big64 1 ∧ big64 (-1) ∧ big64 2 ∧ big64 x ∧ big64 y ∧ big64 z := by unfold big64 at *; omega

/-- Two lists of which p holds. -/
def some2L (p : List Int → Prop) : Res → Prop := fun r => ∃ l h : List Int, (p l ∧ p h) ∧ r = .many [.fr 1 l.length (bints l), .fr 1 h.length (bints h)]
theorem some2L.shape {p : List Int → Prop} (r : Res) (h : some2L p r) : r.shape 2 = true := by obtain ⟨x, y, _, rfl⟩ := h; rfl
section
variable {b m : Nat} {Z : Nat → Prop} {g : Nat → Int}

theorem place_fn (k : Nat) (hk : k ≤ 549755811000) (hb : BytOk m g) : FnC Tryd.prog 47 b k (k + 10) Z (bytV m g) [] (someI big64) := by
  refine FnC.of_body Tryd.call47 Tryd.func47 rfl Tryd.ntmps47 (ts := [2]) rfl (by simp) (someI.shape) (fun N cx hcx hbN => ?_)
  repeat' (first | ((with_reducible show evNx _ _ _ _ _ _); first | (with_reducible refine nx_done ?_) | (refine nx_one rfl ?_) | (refine nx_alt rfl ?_ ?_) | (with_reducible refine nx_st ?_)) | ((with_reducible show evSx _ _ _ _ _ _); first | (with_reducible refine sx_done ?_) | (with_reducible refine sx_st ?_) | (with_reducible refine sx_op ?_)) | ((with_reducible show evTake _ _ _ _ _); with_reducible refine take_nil ?_) | ((with_reducible show evSy _ _ _ _ _ _ _); first | (with_reducible refine sy_done ?_) | (refine sy_last rfl ?_) | (refine sy_one (by decide) rfl ?_) | (refine sy_alt (by decide) rfl ?_ ?_) | (with_reducible refine sy_st ?_)) | ((with_reducible show StK _ _ _); first | fail) | (with_reducible first | refine then_normal ?_ | refine then_ret ?_ | refine then_exit ?_ | refine block_normal ?_ | refine block_ret ?_) | ((with_reducible show blockQ _ _ _ _); first | refine block_exit ?_ | refine block_exit_ne rfl ?_) | ((with_reducible show AWP _ _ _ _ _); first | (refine AWP.region_sx (id := 1) [.op, .op, .op, .op, .op, .op, .op, .op, .op, .op, .op] ?_) | (with_reducible first | refine AWP.seq ?_ | refine AWP.block ?_ | refine AWP.region ?_ | refine AWP.ret ?_ | refine AWP.exit ?_ | refine AWP.skip ?_) | refine AWP.drawn rfl (by kernel_rfl) ?_ | refine AWP.cond rfl ?_ ?_) | with_reducible refine ev_nil ?_ | ((first | ((with_reducible show evNx _ _ _ _ _ _); refine nx_take rfl ?_; intro K hK) | ((with_reducible show Ax _ _ _ _ _); first | ((first | refine ax_callC (f := 48) ?_ | refine ax_callC (f := 22) ?_); refine callC_go (x := _) (xs := _) rfl rfl rfl (by first | exact .inl (by rw [hcx]; exact rfl) | exact .inr (by assumption)) (by (try simp only [okS, okSl, okH, eq_self, true_and, and_true, and_self]); repeat' (first | exact trivial | exact rfl | exact disj_cut | exact disj_lt (by assumption) | assumption | omega | refine And.intro ?_ ?_ | (intro i hi; first | exact trivial | (split <;> first | exact trivial | exact disj_lt (by assumption) | exact disj_cut) | (repeat' split) <;> exact trivial))) (by (try simp only [okS, okSl, okH, eq_self, true_and, and_true, and_self]); repeat' (first | exact trivial | exact rfl | exact disj_cut | exact disj_lt (by assumption) | assumption | omega | refine And.intro ?_ ?_ | (intro i hi; first | exact trivial | (split <;> first | exact trivial | exact disj_lt (by assumption) | exact disj_cut) | (repeat' split) <;> exact trivial))) (fun K1 hK1 => by simp only [argsC, opd, lookup, Nat.zero_add, Nat.reduceEqDiff, ↓reduceIte, List.getElem?_cons_zero, List.getElem?_cons_succ, List.reverse_cons, List.reverse_nil, List.nil_append, List.cons_append]; repeat' (first | exact hK1 | exact trivial | exact disj_cut | assumption | omega | refine And.intro ?_ ?_)) ?_; first | (refine ⟨_, _, small_fn _ (by omega) hb, ?_⟩; rintro _ ⟨x, hx, rfl⟩ hnewZ; clear hnewZ) | (refine ⟨_, _, among6_fn _ _ _ _ _ _ _ _ big64 (by omega) hb rfl rfl rfl rfl rfl rfl (by decide), ?_⟩; rintro _ ⟨z, hz, rfl⟩ hnewZ; clear hnewZ) | (refine ⟨_, _, among7_fn _ _ _ _ _ _ _ _ _ big64 (by omega) hb rfl rfl rfl rfl rfl rfl rfl (sm7 (by assumption) (by assumption) (by assumption)), ?_⟩; rintro _ ⟨y, hy, rfl⟩ hnewZ; clear hnewZ)) | (refine ax_op rfl ?_; intro K hK)) | ((with_reducible show evTake _ _ _ _ _); refine take_step rfl ?_; intro K hK) | ((with_reducible show evSy _ _ _ _ _ _ _); refine sy_take rfl ?_; intro K hK) | ((with_reducible show AxB _ _ _ _ _); first | (refine axb_op rfl rfl ?_; intro K hK)) | ((with_reducible show evOps _ _ _ _ _ _); (first | refine ev_step rfl ?_ | refine ev_undef rfl rfl rfl ?_); intro K hK) | ((with_reducible show EvOpen _ _ _ _ _ _ _); refine ev_open ?_; intro K hK) | ((with_reducible show SkOpen _ _ _ _ _ _ _); refine sk_open ?_; intro K hK) | ((with_reducible show callK _ _ _ _ _ _ _ _); first  | fail)); simp only [evOp, evQ, withS, opd, kput, putS, upd, lookup, bringIn, bring, Res.list, Res.slot, slotsOf, frz, newBlk, partsK, buildSliceK, plSlice, V.one, Value.oneCell', ei_ints, ea_ints, swpS, swSl, List.map_nil, List.nil_append, List.cons_append, List.length_cons, List.length_nil, Nat.reduceEqDiff, Nat.reduceLT, Nat.reduceLeDiff, Nat.mul_one, Nat.zero_add, Nat.mod_one, List.getD_cons_zero, ↓reduceIte, eq_self, true_and, Bool.false_eq_true]) | refine ev_guard rfl rfl rfl ?_ ?_ | ((with_reducible show retQ _ _ _ _); simp only [eq_self]) | (with_reducible refine hK _ ?_; clear hK K) | (with_reducible refine And.intro ?_ ?_) | (with_reducible intro hc; try simp only [eq_self] at hc) | omega)
  all_goals first
    | ((repeat' split) <;> rfl)
    | exact retC_int rfl rfl (by omega) (by assumption)
    | trace_state

end

open Go.RowKit Go.Proofs
set_option linter.unusedSimpArgs false
set_option linter.unusedVariables false
set_option maxRecDepth 20000

theorem AWP.letCur_rg [Cx] {P : Program} {N id : Nat} {ops : Array Oper} {d : Bool} {Q : Exit → ASt → Prop} {s : ASt} (t : Nat) {i : Nat} {blk : Blk} {Z : Nat → Prop} {c : V} (ht : lookup s.σ t = some (.one (.ptr i 0))) (hb : s.h[i]? = some (some blk)) (hn : Nat.ble 3 blk.n = true) (h0 : blk.f 0 = .old Z c) (h1 : blk.f 1 = .val (.int .i64 0)) (h2 : blk.f 2 = .val (.int .u64 0)) (hZ : ∀ j, Z j → j < N)
    (h : ∀ b, N ≤ b → AWP N P (.region id ops d) Q ⟨upd s.σ t (.one (.pv (.cur b 0 Z c))), s.h.set i none, s.nt⟩) : AWP N P (.region id ops d) Q s :=
  AWP.letCur t ⟨i, blk, Z, c, ht, hb, Nat.le_of_ble_eq_true hn, h0, h1, h2, hZ, fun b hb _ => h b hb⟩

/-- Three lists of which p holds. -/
def some3L (p : List Int → Prop) : Res → Prop := fun r => ∃ l h q : List Int, (p l ∧ p h ∧ p q) ∧ r = .many [.fr 1 l.length (bints l), .fr 1 h.length (bints h), .fr 1 q.length (bints q)]
theorem some3L.shape {p : List Int → Prop} (r : Res) (h : some3L p r) : r.shape 3 = true := by obtain ⟨x, y, z, _, rfl⟩ := h; rfl
/-- Two lists of which p holds, and an integer. -/
def some2I (p : List Int → Prop) : Res → Prop := fun r => ∃ (l h : List Int) (x : Int), (p l ∧ p h ∧ big64 x) ∧ r = .many [.fr 1 l.length (bints l), .fr 1 h.length (bints h), .pv (vi x)]
theorem some2I.shape {p : List Int → Prop} (r : Res) (h : some2I p r) : r.shape 3 = true := by obtain ⟨x, y, z, _, rfl⟩ := h; rfl

section
variable {m : Nat} {g : Nat → Int}
end

end Go.Proofs.YteapdildbfimnaaDoor
namespace Go.Proofs.YteapdildbfimnaaDoor
open Go.ChangeShapes Go.WideShapes Go.ChangeAt Go.RowKit
set_option linter.unusedSimpArgs false
set_option linter.unusedVariables false

theorem wf_byte {n : Int} (h : (Lit.int .u8 n).wf = true) : 0 ≤ n ∧ n < 256 := by
  simp [Lit.wf, IntKind.wrap, IntKind.bits, IntKind.signed, IntKind.min, IntKind.max] at h
  omega

theorem rd_bytes {H : Type} {enc : TypeId × Value → H} {P : Program} {w : World} {base : Nat} {held : Bool} {t e : TypeId} {fuel : Nat} {a : Option Addr} {len cap : Nat} {x : DataW H × List MemPlace} (ht : P.underlying t = some (.slice e)) (he : P.underlying e = some (.int .u8)) (hc : P.cellsOf e = 1)
    (h : DataW.trod enc P w base (fun _ => true) held fuel t (Value.slice a len cap).cells.toList = some x) :
    ∃ (m : Nat) (g : Nat → Int), Rd w (fun _ => True) (bytV m g) (.slice a len cap) ∧ m ≤ 9223372036854775807 ∧ ∀ i, i < m → 0 ≤ g i ∧ g i < 256 := by
  have hM : maxLen ≤ 9223372036854775807 := by decide
  rcases open_ints ht he hc h with ⟨hcs, _⟩ | ⟨x, l, c, zs, hcs, _, hl, hm, hz, _, hcell, hwz⟩
  · simp [Value.cells] at hcs
    obtain ⟨rfl, rfl, rfl⟩ := hcs
    exact ⟨0, fun _ => 0, ⟨none, 0, rfl, Nat.le_refl _, fun h => by simp at h⟩, by omega, fun i hi => by omega⟩
  · simp [Value.cells] at hcs
    obtain ⟨rfl, rfl, rfl⟩ := hcs
    have hz : zs.length = cap := by simpa using hz
    refine ⟨len, fun i => zs.getD i 0, ⟨some x, cap, rfl, hl, fun hp => ?_⟩, by omega, fun i hi => ?_⟩
    · rw [Nat.mul_one] at hp
      have h0 := hcell 0 (by omega)
      have hs : x.spot = none := spot_of_cell (by rw [← add_zero_addr x]; exact h0)
      obtain ⟨b, off, spot⟩ := x
      have hs : spot = none := hs
      subst hs
      refine ⟨b, off, rfl, trivial, fun i hi => ⟨_, by rw [← add_none]; exact hcell i (by omega), ?_⟩⟩
      rfl
    · have hi' : i < zs.length := by omega
      have e : zs.getD i 0 = zs[i] := by simp [List.getD, hi']
      show 0 ≤ zs.getD i 0 ∧ zs.getD i 0 < 256
      rw [e]
      exact wf_byte (hwz _ (List.getElem_mem hi'))

theorem rd_bytesZ {H : Type} {enc : TypeId × Value → H} {P : Program} {w : World} {base : Nat} {held : Bool} {t e : TypeId} {fuel : Nat} {a : Option Addr} {len cap : Nat} {x : DataW H × List MemPlace} (ht : P.underlying t = some (.slice e)) (he : P.underlying e = some (.int .u8)) (hc : P.cellsOf e = 1)
    (h : DataW.trod enc P w base (fun _ => true) held fuel t (Value.slice a len cap).cells.toList = some x) :
    ∃ (m : Nat) (g : Nat → Int), Rd w (fun _ => True) (bytV m g) (.slice a len cap) ∧ m ≤ 9223372036854775807 ∧ (∀ i, i < m → 0 ≤ g i ∧ g i < 256) ∧ (m = 0 ∨ ∃ el sp : List (DataW H), x.1 = .slice el sp ∧ el.length = m) := by
  obtain ⟨m, g, h1, h2, h3⟩ := rd_bytes ht he hc h
  refine ⟨m, g, h1, h2, h3, ?_⟩
  obtain ⟨A, c, e1, hle, h4⟩ := h1
  injection e1 with e1 e2 e3
  subst e2
  rcases open_ints ht he hc h with ⟨hcs, hx⟩ | ⟨x', l, c', zs, hcs, _, hl, hm, hz, hx, hcell, hwz⟩
  · simp [Value.cells] at hcs
    exact .inl hcs.2.1
  · simp [Value.cells] at hcs
    obtain ⟨_, rfl, rfl⟩ := hcs
    have hz : zs.length = cap := by simpa using hz
    refine .inr ⟨_, _, by rw [hx], ?_⟩
    simp [lits]
    omega

/-- What waits for the next stage of a walk. -/
def HoldR (p : Prop) : Prop := p
theorem AWP.holdR [Cx] {P : Program} {N : Nat} {id : Nat} {ops : Array Oper} {d : Bool} {Q : Exit → ASt → Prop} {s : ASt} (h : HoldR (AWP N P (.region id ops d) Q s)) : AWP N P (.region id ops d) Q s := h
end Go.Proofs.YteapdildbfimnaaDoor
namespace Go.Proofs.YteapdildbfimnaaDoor
open Go.RowKit Go.Proofs
set_option linter.unusedSimpArgs false
set_option linter.unusedVariables false

/-- A function that hands its argument, read as v, back as it came with true, or nil with false. -/
structure FnPass (P : Program) (f : FuncId) (v : V) (ok : Bool) : Prop where
  entry : ∀ (args : Array Value) (w : World), (callFunc f args).run P w = .ok (.enter f args) w
  runs : ∀ (w : World) (u : Value), Gl w → Rd w (fun _ => True) v u → Calls P f #[u] w fun e w' => e = .returned (.tuple #[if ok = true then u else .slice none 0 0, .bool ok]) ∧ Below w.heap.size w w'

end Go.Proofs.YteapdildbfimnaaDoor
namespace Go.Proofs.YteapdildbfimnaaDoor
open Go.RowKit Go.Proofs
set_option linter.unusedSimpArgs false
set_option linter.unusedVariables false

theorem poFiniteP_fn (n : Int) : Fn Tryd.prog 53 [vi n] (.one (.pv (vb (finB n)))) := by
  refine Fn.of_body Tryd.call53 Tryd.func53 rfl Tryd.ntmps53 (ts := [2]) rfl (by simp) rfl (fun N => ?_)
  repeat' (first | (with_reducible first | refine then_normal ?_ | refine then_ret ?_ | refine then_exit ?_ | refine block_normal ?_ | refine block_ret ?_) | ((with_reducible show blockQ _ _ _ _); first | refine block_exit ?_ | refine block_exit_ne rfl ?_) | ((with_reducible show AWP _ _ _ _ _); first | (with_reducible first | refine AWP.seq ?_ | refine AWP.block ?_ | refine AWP.region ?_ | refine AWP.ret ?_ | refine AWP.exit ?_ | refine AWP.skip ?_) | refine AWP.drawn rfl (by kernel_rfl) ?_ | refine AWP.cond rfl ?_ ?_) | with_reducible refine ev_nil ?_ | ((first | ((with_reducible show evOps _ _ _ _ _ _); (first | refine ev_step rfl ?_ | refine ev_undef rfl rfl rfl ?_); intro K hK) | ((with_reducible show EvOpen _ _ _ _ _ _ _); refine ev_open ?_; intro K hK) | ((with_reducible show SkOpen _ _ _ _ _ _ _); refine sk_open ?_; intro K hK) | ((with_reducible show callK _ _ _ _ _ _ _ _); first  | (refine call_scalar (l1In_fn n (-1000000) 1000000) (Nat.le_of_ble_eq_true rfl) rfl ?_))); simp only [evOp, evQ, withS, opd, kput, putS, upd, lookup, argsK, bringIn, bring, Res.list, Res.slot, slotsOf, List.reverse_cons, List.reverse_nil, List.nil_append, List.cons_append, Nat.reduceEqDiff, Nat.reduceLT, ↓reduceIte, eq_self, true_and]) | refine ev_guard rfl rfl rfl ?_ ?_ | ((with_reducible show retQ _ _ _ _); simp only [retQ, retOk, getL, lookup, Option.map_some, fitsL, fits, ND, srcs, Res.list, VE, Value.bool.injEq, Nat.reduceEqDiff, ↓reduceIte, and_true]) | (with_reducible refine hK _ ?_; clear hK K) | (with_reducible refine And.intro ?_ ?_) | (with_reducible intro hc; try simp only [eq_self] at hc) | omega)
  all_goals rfl

theorem three {i : Nat} (h : i < 3) : i = 0 ∨ i = 1 ∨ i = 2 := by omega

theorem compareTerms_fn (a b : T3) (ha : termB a = true) (hb : termB b = true) : Fn Tryd.prog 50 [term a, term b] (.one (.pv (vi (cmpI a b)))) := by
  have h1 := termB_iff.1 ha
  have h2 := termB_iff.1 hb
  refine Fn.of_body Tryd.call50 Tryd.func50 rfl Tryd.ntmps50 (ts := [4]) rfl (by simp) rfl (fun N => ?_)
  repeat' (first | (with_reducible first | refine then_normal ?_ | refine then_ret ?_ | refine then_exit ?_ | refine block_normal ?_ | refine block_ret ?_) | ((with_reducible show blockQ _ _ _ _); first | refine block_exit ?_ | refine block_exit_ne rfl ?_) | ((with_reducible show AWP _ _ _ _ _); first | (with_reducible first | refine AWP.seq ?_ | refine AWP.block ?_ | refine AWP.region ?_ | refine AWP.ret ?_ | refine AWP.exit ?_ | refine AWP.skip ?_) | refine AWP.drawn rfl (by kernel_rfl) ?_ | refine AWP.cond rfl ?_ ?_) | with_reducible refine ev_nil ?_ | ((first | ((with_reducible show evOps _ _ _ _ _ _); (first | refine ev_step rfl ?_ | refine ev_undef rfl rfl rfl ?_); intro K hK) | ((with_reducible show EvOpen _ _ _ _ _ _ _); refine ev_open ?_; intro K hK) | ((with_reducible show SkOpen _ _ _ _ _ _ _); refine sk_open ?_; intro K hK) | ((with_reducible show callK _ _ _ _ _ _ _ _); first | fail)); simp only [evOp, evQ, binK, withS, opd, kput, putS, upd, lookup, loadOwn, slotsOf, InK_i64, frz, newBlk, boxV, c_int, fi0, fi1, t3_0, t3_1, List.getElem?_cons_zero, List.getElem?_cons_succ, List.nil_append, List.cons_append, List.length_cons, List.length_nil, Nat.reduceEqDiff, Nat.reduceLT, Nat.add_zero, Nat.zero_add, ↓reduceIte, eq_self, true_and]) | refine ev_guard rfl rfl rfl ?_ ?_ | ((with_reducible show retQ _ _ _ _); simp only [retQ, retOk, getL, lookup, Option.map_some, fitsL, fits, ND, srcs, Res.list, VE, Value.int.injEq, Nat.reduceEqDiff, ↓reduceIte, and_true, true_and]) | (with_reducible refine hK _ ?_; clear hK K) | (with_reducible refine And.intro ?_ ?_) | (with_reducible intro hc; try simp only [bne_iff_ne, bne_eq_false_iff_eq, ne_eq] at hc) | omega)
  all_goals first
    | (unfold cmpI; rw [if_neg ‹_›]; done)
    | (unfold cmpI; rw [if_pos ‹_›]; done)
    | trace_state

theorem plTerm_fn (a : T3) : Fn Tryd.prog 51 [term a] (.one (.pv (vb (termB a)))) := by
  refine Fn.of_body Tryd.call51 Tryd.func51 rfl Tryd.ntmps51 (ts := [2]) rfl (by simp) rfl (fun N => ?_)
  repeat' (first | (with_reducible first | refine then_normal ?_ | refine then_ret ?_ | refine then_exit ?_ | refine block_normal ?_ | refine block_ret ?_) | ((with_reducible show blockQ _ _ _ _); first | refine block_exit ?_ | refine block_exit_ne rfl ?_) | ((with_reducible show AWP _ _ _ _ _); first | (with_reducible first | refine AWP.seq ?_ | refine AWP.block ?_ | refine AWP.region ?_ | refine AWP.ret ?_ | refine AWP.exit ?_ | refine AWP.skip ?_) | refine AWP.drawn rfl (by kernel_rfl) ?_ | refine AWP.cond rfl ?_ ?_) | with_reducible refine ev_nil ?_ | ((first | ((with_reducible show evOps _ _ _ _ _ _); (first | refine ev_step rfl ?_ | refine ev_undef rfl rfl rfl ?_); intro K hK) | ((with_reducible show EvOpen _ _ _ _ _ _ _); refine ev_open ?_; intro K hK) | ((with_reducible show SkOpen _ _ _ _ _ _ _); refine sk_open ?_; intro K hK) | ((with_reducible show callK _ _ _ _ _ _ _ _); first  | (refine call_scalar (l1In_fn _ _ _) (Nat.le_of_ble_eq_true rfl) rfl ?_) | (refine call_scalar (poFiniteP_fn _) (Nat.le_of_ble_eq_true rfl) rfl ?_))); simp only [evOp, evQ, binK, withS, opd, kput, putS, upd, lookup, skipOp, argsK, loadOwn, bringIn, bring, Res.list, Res.slot, slotsOf, InK_i64, frz, newBlk, boxV, c_int, fi0, fi1, fi2, t3_0, t3_1, t3_2, List.getElem?_cons_zero, List.reverse_cons, List.reverse_nil, List.nil_append, List.cons_append, List.length_nil, Nat.reduceEqDiff, Nat.reduceLT, Nat.add_zero, Nat.zero_add, ↓reduceIte, eq_self, true_and, and_true, Bool.not_true, Bool.true_eq_false, Bool.false_eq_true, false_implies, forall_const]) | refine ev_guard rfl rfl rfl ?_ ?_ | ((with_reducible show retQ _ _ _ _); simp only [retQ, retOk, getL, lookup, Option.map_some, fitsL, fits, ND, srcs, Res.list, VE, Value.bool.injEq, Nat.reduceEqDiff, ↓reduceIte, and_true]) | (with_reducible refine hK _ ?_; clear hK K) | (with_reducible refine And.intro ?_ ?_) | (with_reducible intro hc; try simp only [Bool.not_true, reduceCtorEq, inB_true, inB_false, Bool.true_eq_false] at hc) | omega)
  all_goals first
    | exact (termB_no (by omega)).symm
    | (unfold termB; rw [decide_eq_true (show 0 ≤ a.1 by omega), decide_eq_true (show 0 ≤ a.2.1 by omega), decide_eq_true (show a.1 + a.2.1 ≤ 6 by omega)]; rfl)
    | trace_state

theorem plBefore_fn (a b : T3) : Fn Tryd.prog 52 [term a, term b] (.one (.pv (vb (befB a b)))) := by
  refine Fn.of_body Tryd.call52 Tryd.func52 rfl Tryd.ntmps52 (ts := [4]) rfl (by simp) rfl (fun N => ?_)
  repeat' (first | (with_reducible first | refine then_normal ?_ | refine then_ret ?_ | refine then_exit ?_ | refine block_normal ?_ | refine block_ret ?_) | ((with_reducible show blockQ _ _ _ _); first | refine block_exit ?_ | refine block_exit_ne rfl ?_) | ((with_reducible show AWP _ _ _ _ _); first | (with_reducible first | refine AWP.seq ?_ | refine AWP.block ?_ | refine AWP.region ?_ | refine AWP.ret ?_ | refine AWP.exit ?_ | refine AWP.skip ?_) | refine AWP.drawn rfl (by kernel_rfl) ?_ | refine AWP.cond rfl ?_ ?_) | with_reducible refine ev_nil ?_ | ((first | ((with_reducible show evOps _ _ _ _ _ _); (first | refine ev_step rfl ?_ | refine ev_undef rfl rfl rfl ?_); intro K hK) | ((with_reducible show EvOpen _ _ _ _ _ _ _); refine ev_open ?_; intro K hK) | ((with_reducible show SkOpen _ _ _ _ _ _ _); refine sk_open ?_; intro K hK) | ((with_reducible show callK _ _ _ _ _ _ _ _); first | fail)); simp only [evOp, evQ, binK, withS, opd, kput, putS, upd, lookup, skipOp, loadOwn, slotsOf, frz, newBlk, boxV, c_int, fi0, fi1, t3_0, t3_1, List.getElem?_cons_zero, List.getElem?_cons_succ, List.nil_append, List.cons_append, List.length_cons, List.length_nil, Nat.reduceEqDiff, Nat.reduceLT, Nat.add_zero, Nat.zero_add, ↓reduceIte, eq_self, true_and, and_true, Bool.not_true, Bool.not_false, Bool.true_eq_false, Bool.false_eq_true, false_implies, forall_const]) | refine ev_guard rfl rfl rfl ?_ ?_ | ((with_reducible show retQ _ _ _ _); simp only [retQ, retOk, getL, lookup, Option.map_some, fitsL, fits, ND, srcs, Res.list, VE, Value.bool.injEq, Nat.reduceEqDiff, ↓reduceIte, and_true]) | (with_reducible refine hK _ ?_; clear hK K) | (with_reducible refine And.intro ?_ ?_) | (with_reducible intro hc; try simp only [decide_eq_true_eq, decide_eq_false_iff_not, beq_iff_eq, beq_eq_false_iff_ne, Bool.not_true, Bool.not_false, Int.not_lt, ne_eq, reduceCtorEq, Bool.true_eq_false] at hc) | omega)
  all_goals first
    | exact (befB_no (by omega)).symm
    | exact (befB_iff.2 (by omega)).symm
    | (unfold befB; rw [decide_eq_false (show ¬ a.1 < b.1 by omega), decide_eq_true (show a.1 = b.1 by omega)]; rfl)
    | trace_state

theorem pred_nat {k : Nat} (h : ¬ k = 0) : ((k : Int) - 1).toNat = k - 1 := by omega

theorem compareAt_fn (l : List T3) (k : Nat) {z : Nat → V} (hk : ¬ k = 0) (h1 : termB (tAt l (k - 1)) = true) (h2 : termB (tAt l k) = true) :
    Fn Tryd.prog 50 [.agg 3 fun j => vi (tf l (((k : Int) - 1).toNat * 3 + j)), .agg 3 fun i => if i < 3 then vi (tf l (k * 3 + i)) else z i] (.one (.pv (vi (cmpI (tAt l (k - 1)) (tAt l k))))) :=
  (compareTerms_fn _ _ h1 h2).of_ve ⟨ve_agg3 fun i hi => by rw [pred_nat hk, tf_t3 _ _ hi], ve_agg3 fun i hi => by rw [if_pos hi, tf_t3 _ _ hi], trivial⟩

theorem plBeforeAt_fn (l : List T3) (k : Nat) {z : Nat → V} (hk : ¬ k = 0) :
    Fn Tryd.prog 52 [.agg 3 fun j => vi (tf l (((k : Int) - 1).toNat * 3 + j)), .agg 3 fun i => if i < 3 then vi (tf l (k * 3 + i)) else z i] (.one (.pv (vb (befB (tAt l (k - 1)) (tAt l k))))) :=
  (plBefore_fn _ _).of_ve ⟨ve_agg3 fun i hi => by rw [pred_nat hk, tf_t3 _ _ hi], ve_agg3 fun i hi => by rw [if_pos hi, tf_t3 _ _ hi], trivial⟩

theorem plTermAt_fn (l : List T3) (k : Nat) {z : Nat → V} : Fn Tryd.prog 51 [.agg 3 fun i => if i < 3 then vi (tf l (k * 3 + i)) else z i] (.one (.pv (vb (termB (tAt l k))))) :=
  (plTerm_fn _).of_ve ⟨ve_agg3 fun i hi => by rw [if_pos hi, tf_t3 _ _ hi], trivial⟩

theorem isPlane_fn (l : List T3) (hl : l.length ≤ 1099511627776) : Fn Tryd.prog 24 [terms l] (.one (.pv (vb (planeB l)))) := by
  refine Fn.of_body Tryd.call24 Tryd.func24 rfl Tryd.ntmps24 (ts := [2]) rfl (by simp) rfl (fun N => ?_)
  repeat' (first | (with_reducible first | refine then_normal ?_ | refine then_ret ?_ | refine then_exit ?_ | refine block_normal ?_ | refine block_ret ?_) | ((with_reducible show blockQ _ _ _ _); first | refine block_exit ?_ | refine block_exit_ne rfl ?_) | ((with_reducible show AWP _ _ _ _ _); first | (with_reducible first | refine AWP.seq ?_ | refine AWP.block ?_ | refine AWP.region ?_ | refine AWP.ret ?_ | refine AWP.exit ?_ | refine AWP.skip ?_) | refine AWP.drawn rfl (by kernel_rfl) ?_ | refine AWP.cond rfl ?_ ?_) | with_reducible refine ev_nil ?_ | ((first | ((with_reducible show evOps _ _ _ _ _ _); (first | refine ev_step rfl ?_ | refine ev_undef rfl rfl rfl ?_); intro K hK) | ((with_reducible show EvOpen _ _ _ _ _ _ _); refine ev_open ?_; intro K hK) | ((with_reducible show SkOpen _ _ _ _ _ _ _); refine sk_open ?_; intro K hK) | ((with_reducible show callK _ _ _ _ _ _ _ _); first  | (refine call_scalar (within_fn _ _ _) (Nat.le_of_ble_eq_true rfl) rfl ?_))); simp only [evOp, evQ, evB, withS, opd, kput, putS, upd, lookup, argsK, bringIn, bring, Res.list, Res.slot, slotsOf, sz_terms, List.reverse_cons, List.reverse_nil, List.nil_append, List.cons_append, Nat.reduceEqDiff, Nat.reduceLT, ↓reduceIte, eq_self, true_and, Option.isSome_some]) | refine ev_guard rfl rfl rfl ?_ ?_ | ((with_reducible show retQ _ _ _ _); simp only [retQ, retOk, getL, lookup, Option.map_some, fitsL, fits, ND, srcs, Res.list, VE, Value.bool.injEq, Nat.reduceEqDiff, ↓reduceIte, and_true]) | (with_reducible refine hK _ ?_; clear hK K) | (with_reducible refine And.intro ?_ ?_) | (with_reducible intro hc; try simp only [Bool.not_eq_true', Bool.not_eq_false', inB_true, inB_false] at hc) | omega)
  any_goals exact (planeB_in ‹_›).symm
  refine AWP.loop_entR [] (fun k : Nat => ⟨[(0, .one (.pv (terms l))), (9, .one (.pv (terms l))), (10, sc (.int .i64 l.length)), (11, sc (.int .i64 k))], [], 61⟩)
    (fun k => k ≤ l.length ∧ ∀ j, j < k → plkB l j = true) (fun k => l.length - k) 0 ⟨by omega, by simp⟩ (by simp [EntR, EntSR, EntHR, SlR, VE, VE.rfl', lookup, BE, upd, sc]) ?_
  rintro k ⟨hk, hall⟩
  repeat' (first | (with_reducible first | refine then_normal ?_ | refine then_ret ?_ | refine then_exit ?_ | refine block_normal ?_ | refine block_ret ?_) | ((with_reducible show blockQ _ _ _ _); first | refine block_exit ?_ | refine block_exit_ne rfl ?_) | ((with_reducible show AWP _ _ _ _ _); first | (with_reducible first | refine AWP.seq ?_ | refine AWP.block ?_ | refine AWP.region ?_ | refine AWP.ret ?_ | refine AWP.exit ?_ | refine AWP.skip ?_) | refine AWP.drawn rfl (by kernel_rfl) ?_ | refine AWP.cond rfl ?_ ?_) | with_reducible refine ev_nil ?_ | ((first | ((with_reducible show evOps _ _ _ _ _ _); (first | refine ev_step rfl ?_ | refine ev_undef rfl rfl rfl ?_); intro K hK) | ((with_reducible show EvOpen _ _ _ _ _ _ _); refine ev_open ?_; intro K hK) | ((with_reducible show SkOpen _ _ _ _ _ _ _); refine sk_open ?_; intro K hK) | ((with_reducible show callK _ _ _ _ _ _ _ _); first  | (refine call_scalar (isFinite_fn _) (Nat.le_of_ble_eq_true rfl) rfl ?_) | (refine call_scalar (compareAt_fn l k (by omega) (plkB_is (hall (k - 1) (by omega))) (termB_iff.2 (by omega))) (Nat.le_of_ble_eq_true rfl) rfl ?_))); simp only [evOp, evQ, binK, withS, opd, kput, putS, upd, lookup, skipOp, argsK, loadOwn, bringIn, bring, Res.list, Res.slot, InK_i64, storeK, frz, storeV, setBlk, newBlk, allocK, V.one, Value.oneCell', List.set_cons_zero, c_int, sz_terms, c_term, fi0, fi1, fi2, z_term, tf_0, tf_1, tf_2, Nat.zero_le, List.getElem?_cons_zero, List.reverse_cons, List.reverse_nil, List.nil_append, List.cons_append, List.length_cons, List.length_nil, Nat.reduceEqDiff, Nat.reduceAdd, Nat.reduceLT, Nat.reduceLeDiff, Nat.add_zero, Nat.zero_add, Nat.sub_zero, ↓reduceIte, eq_self, true_and, and_true, Bool.not_true, Bool.not_false, Bool.true_eq_false, Bool.false_eq_true, false_implies, forall_const, implies_true, Int.toNat_natCast]) | refine ev_guard rfl rfl rfl ?_ ?_ | ((with_reducible show retQ _ _ _ _); simp only [retQ, retOk, getL, lookup, Option.map_some, fitsL, fits, ND, srcs, Res.list, VE, Value.bool.injEq, Nat.reduceEqDiff, ↓reduceIte, and_true]) | (with_reducible refine hK _ ?_; clear hK K) | (with_reducible refine And.intro ?_ ?_) | (with_reducible intro hc; try simp only [decide_eq_true_eq, decide_eq_false_iff_not, Bool.not_eq_true', Bool.not_eq_false', Bool.not_true, Bool.not_false, Int.not_lt, Int.not_le, gt_iff_lt, ge_iff_le, reduceCtorEq, finB_true, finB_false, Bool.true_eq_false] at hc) | omega)
  all_goals first
    | exact (planeB_no (show k < l.length by omega) (plkB_term (termB_no (by omega)))).symm
    | exact (planeB_no (show k < l.length by omega) (plkB_nobef (by omega) (cmpI_ge ‹_›))).symm
    | exact ⟨k + 1, ⟨by omega, upto_succ hall (plkB_zero (termB_iff.2 (by omega)) (by omega))⟩, by omega, [], rfl, by decide, by simp [EntSR, SlR, VE, VE.rfl', lookup, sc], trivial⟩
    | exact ⟨k + 1, ⟨by omega, upto_succ hall (plkB_bef (termB_iff.2 (by omega)) (cmpI_lt ‹_›))⟩, by omega, [], rfl, by decide, by simp [EntSR, SlR, VE, VE.rfl', lookup, sc], trivial⟩
    | (rw [planeB_is fun j hj => hall j (by omega), inB_true.2 ‹1 ≤ (l.length : Int) ∧ (l.length : Int) ≤ 12›]; done)
    | trace_state

theorem plGood_fn (l : List T3) (hl : l.length ≤ 1099511627776) : Fn Tryd.prog 27 [terms l] (.one (.pv (vb (planeB l)))) := by
  refine Fn.of_body Tryd.call27 Tryd.func27 rfl Tryd.ntmps27 (ts := [2]) rfl (by simp) rfl (fun N => ?_)
  repeat' (first | (with_reducible first | refine then_normal ?_ | refine then_ret ?_ | refine then_exit ?_ | refine block_normal ?_ | refine block_ret ?_) | ((with_reducible show blockQ _ _ _ _); first | refine block_exit ?_ | refine block_exit_ne rfl ?_) | ((with_reducible show AWP _ _ _ _ _); first | (with_reducible first | refine AWP.seq ?_ | refine AWP.block ?_ | refine AWP.region ?_ | refine AWP.ret ?_ | refine AWP.exit ?_ | refine AWP.skip ?_) | refine AWP.drawn rfl (by kernel_rfl) ?_ | refine AWP.cond rfl ?_ ?_) | with_reducible refine ev_nil ?_ | ((first | ((with_reducible show evOps _ _ _ _ _ _); (first | refine ev_step rfl ?_ | refine ev_undef rfl rfl rfl ?_); intro K hK) | ((with_reducible show EvOpen _ _ _ _ _ _ _); refine ev_open ?_; intro K hK) | ((with_reducible show SkOpen _ _ _ _ _ _ _); refine sk_open ?_; intro K hK) | ((with_reducible show callK _ _ _ _ _ _ _ _); first | fail)); simp only [evOp, evQ, evB, withS, opd, kput, putS, upd, lookup, slotsOf, sz_terms, Nat.reduceEqDiff, Nat.reduceLT, ↓reduceIte, eq_self, true_and, Option.isSome_some]) | refine ev_guard rfl rfl rfl ?_ ?_ | ((with_reducible show retQ _ _ _ _); simp only [eq_self]) | (with_reducible refine hK _ ?_; clear hK K) | (with_reducible refine And.intro ?_ ?_) | (with_reducible intro hc; try simp only [eq_self] at hc) | omega)
  refine AWP.loop_entR [] (fun k : Nat => ⟨[(0, .one (.pv (terms l))), (5, .one (.pv (terms l))), (6, sc (.int .i64 l.length)), (7, sc (.int .i64 k))], [], 33⟩)
    (fun k => k ≤ l.length ∧ ∀ j, j < k → plkB l j = true) (fun k => l.length - k) 0 ⟨by omega, by simp⟩ (by simp [EntR, EntSR, EntHR, SlR, VE, VE.rfl', lookup, BE, upd, sc]) ?_
  rintro k ⟨hk, hall⟩
  repeat' (first | (with_reducible first | refine then_normal ?_ | refine then_ret ?_ | refine then_exit ?_ | refine block_normal ?_ | refine block_ret ?_) | ((with_reducible show blockQ _ _ _ _); first | refine block_exit ?_ | refine block_exit_ne rfl ?_) | ((with_reducible show AWP _ _ _ _ _); first | (with_reducible first | refine AWP.seq ?_ | refine AWP.block ?_ | refine AWP.region ?_ | refine AWP.ret ?_ | refine AWP.exit ?_ | refine AWP.skip ?_) | refine AWP.drawn rfl (by kernel_rfl) ?_ | refine AWP.cond rfl ?_ ?_) | with_reducible refine ev_nil ?_ | ((first | ((with_reducible show evOps _ _ _ _ _ _); (first | refine ev_step rfl ?_ | refine ev_undef rfl rfl rfl ?_); intro K hK) | ((with_reducible show EvOpen _ _ _ _ _ _ _); refine ev_open ?_; intro K hK) | ((with_reducible show SkOpen _ _ _ _ _ _ _); refine sk_open ?_; intro K hK) | ((with_reducible show callK _ _ _ _ _ _ _ _); first  | (refine call_scalar (plTermAt_fn l k) (Nat.le_of_ble_eq_true rfl) rfl ?_) | (refine call_scalar (plBeforeAt_fn l k (by omega)) (Nat.le_of_ble_eq_true rfl) rfl ?_) | (refine call_scalar (l1In_fn _ _ _) (Nat.le_of_ble_eq_true rfl) rfl ?_))); simp only [evOp, evQ, evB, binK, withS, opd, kput, putS, upd, lookup, skipOp, argsK, loadOwn, bringIn, bring, Res.list, Res.slot, InK_i64, storeK, frz, storeV, setBlk, newBlk, allocK, V.one, Value.oneCell', List.set_cons_zero, sz_terms, c_term, z_term, Nat.zero_le, List.getElem?_cons_zero, List.reverse_cons, List.reverse_nil, List.nil_append, List.cons_append, List.length_cons, List.length_nil, Nat.reduceEqDiff, Nat.reduceAdd, Nat.reduceLT, Nat.reduceLeDiff, Nat.zero_add, Nat.sub_zero, ↓reduceIte, eq_self, true_and, and_true, Bool.not_true, Bool.not_false, Bool.true_eq_false, Bool.false_eq_true, false_implies, forall_const, implies_true, Int.toNat_natCast, Option.isSome_some]) | refine ev_guard rfl rfl rfl ?_ ?_ | ((with_reducible show retQ _ _ _ _); simp only [retQ, retOk, getL, lookup, Option.map_some, fitsL, fits, ND, srcs, Res.list, VE, Value.bool.injEq, Nat.reduceEqDiff, ↓reduceIte, and_true]) | (with_reducible refine hK _ ?_; clear hK K) | (with_reducible refine And.intro ?_ ?_) | (with_reducible intro hc; try simp only [decide_eq_true_eq, decide_eq_false_iff_not, Bool.not_eq_true', Bool.not_eq_false', Bool.not_true, Bool.not_false, Int.not_lt, gt_iff_lt, reduceCtorEq, Bool.true_eq_false] at hc) | omega)
  all_goals first
    | exact (planeB_no (show k < l.length by omega) (plkB_term ‹_›)).symm
    | exact (planeB_no (show k < l.length by omega) (plkB_nobef (by omega) ‹_›)).symm
    | exact ⟨k + 1, ⟨by omega, upto_succ hall (plkB_zero ‹_› (by omega))⟩, by omega, [], rfl, by decide, by simp [EntSR, SlR, VE, VE.rfl', lookup, sc], trivial⟩
    | exact ⟨k + 1, ⟨by omega, upto_succ hall (plkB_bef ‹termB (tAt l k) = true› ‹befB _ _ = true›)⟩, by omega, [], rfl, by decide, by simp [EntSR, SlR, VE, VE.rfl', lookup, sc], trivial⟩
    | (rw [planeB_is fun j hj => hall j (by omega)]; done)
    | trace_state

end Go.Proofs.YteapdildbfimnaaDoor
namespace Go.Proofs.YteapdildbfimnaaDoor
set_option linter.unusedSimpArgs false
set_option linter.unusedVariables false
open Go.RowKit

def valT (t : T3) (x y : Int) : Int := t.2.2 + t.1 * x + t.2.1 * y
theorem mul6 {k x : Int} (hk : 0 ≤ k ∧ k ≤ 6) (hx : -1000000 ≤ x ∧ x ≤ 1000000) : -(k * 1000000) ≤ k * x ∧ k * x ≤ k * 1000000 := by
  have : k = 0 ∨ k = 1 ∨ k = 2 ∨ k = 3 ∨ k = 4 ∨ k = 5 ∨ k = 6 := by omega
  rcases this with rfl | rfl | rfl | rfl | rfl | rfl | rfl <;> omega
theorem valT_parts {t : T3} {x y : Int} (h : termB t = true) (hx : -1000000 ≤ x ∧ x ≤ 1000000) (hy : -1000000 ≤ y ∧ y ≤ 1000000) :
    -6000000 ≤ t.1 * x ∧ t.1 * x ≤ 6000000 ∧ -6000000 ≤ t.2.1 * y ∧ t.2.1 * y ≤ 6000000 ∧ -1000000 ≤ t.2.2 ∧ t.2.2 ≤ 1000000 := by
  have h1 := termB_iff.1 h
  have h2 := mul6 (k := t.1) (x := x) (by omega) hx
  have h3 := mul6 (k := t.2.1) (x := y) (by omega) hy
  omega
theorem valT_bnd {t : T3} {x y : Int} (h : termB t = true) (hx : -1000000 ≤ x ∧ x ≤ 1000000) (hy : -1000000 ≤ y ∧ y ≤ 1000000) : -13000000 ≤ valT t x y ∧ valT t x y ≤ 13000000 := by
  have := valT_parts h hx hy
  unfold valT; omega

def placesL (g : Nat → Int) (v : Int) : Nat → List Int
  | 0 => []
  | n + 1 => if g n = v then placesL g v n ++ [(n : Int)] else placesL g v n
theorem placesL_yes {g : Nat → Int} {v : Int} {n : Nat} (h : g n = v) : placesL g v (n + 1) = placesL g v n ++ [(n : Int)] := by show (if g n = v then _ else _) = _; rw [if_pos h]
theorem placesL_no {g : Nat → Int} {v : Int} {n : Nat} (h : ¬ g n = v) : placesL g v (n + 1) = placesL g v n := by show (if g n = v then _ else _) = _; rw [if_neg h]
theorem placesL_len (g : Nat → Int) (v : Int) : ∀ n, (placesL g v n).length ≤ n
  | 0 => by simp [placesL]
  | n + 1 => by
    have := placesL_len g v n
    by_cases h : g n = v
    · rw [placesL_yes h]; simp; omega
    · rw [placesL_no h]; omega
theorem placesL_mem (g : Nat → Int) (v : Int) : ∀ n (z : Int), z ∈ placesL g v n → 0 ≤ z ∧ z < n
  | 0, z, h => by simp [placesL] at h
  | n + 1, z, h => by
    by_cases h1 : g n = v
    · rw [placesL_yes h1] at h
      rcases List.mem_append.1 h with h2 | h2
      · have := placesL_mem g v n z h2; omega
      · simp at h2; omega
    · rw [placesL_no h1] at h
      have := placesL_mem g v n z h; omega
theorem placesL_first {g : Nat → Int} {v : Int} {n : Nat} (h : 1 ≤ (placesL g v n).length) : 0 ≤ (placesL g v n).getD 0 0 ∧ (placesL g v n).getD 0 0 < n := by
  refine placesL_mem g v n _ ?_
  have e : (placesL g v n).getD 0 0 = (placesL g v n)[0]'(by omega) := by simp [List.getD, show 0 < (placesL g v n).length by omega]
  rw [e]; exact List.getElem_mem _
theorem placesL_ne (g : Nat → Int) (v : Int) : ∀ n i, i < n → g i = v → 1 ≤ (placesL g v n).length
  | 0, i, h, _ => by omega
  | n + 1, i, h, hv => by
    by_cases h1 : g n = v
    · rw [placesL_yes h1]; simp
    · rw [placesL_no h1]
      rcases Nat.lt_or_ge i n with h2 | h2
      · exact placesL_ne g v n i h2 hv
      · rw [show i = n by omega] at hv; exact absurd hv h1

theorem leastN_low (g : Nat → Int) : ∀ n, leastN g n = lowN g 1000000000 n
  | 0 => rfl
  | n + 1 => by rw [leastN_min, leastN_low g n]; rfl
theorem lowN_at (g : Nat → Int) : ∀ n, 1 ≤ n → ∃ i, i < n ∧ g i = lowN g (g 0) n
  | 0, h => by omega
  | 1, _ => ⟨0, by omega, by show g 0 = min (g 0) (g 0); omega⟩
  | n + 2, _ => by
    obtain ⟨i, h1, h2⟩ := lowN_at g (n + 1) (by omega)
    by_cases h : lowN g (g 0) (n + 1) ≤ g (n + 1)
    · exact ⟨i, by omega, by show _ = min (lowN g (g 0) (n + 1)) (g (n + 1)); omega⟩
    · exact ⟨n + 1, by omega, by show _ = min (lowN g (g 0) (n + 1)) (g (n + 1)); omega⟩

abbrev valP (l : List T3) (x y : Int) (i : Nat) : Int := valT (tAt l i) x y
def lowV (l : List T3) (x y : Int) : Int := lowN (valP l x y) (valP l x y 0) l.length
def goodP (l : List T3) (x y : Int) : Bool := planeB l && finB x && finB y
theorem goodP_parts {l : List T3} {x y : Int} (h : goodP l x y = true) : planeB l = true ∧ (-1000000 ≤ x ∧ x ≤ 1000000) ∧ (-1000000 ≤ y ∧ y ≤ 1000000) := by
  unfold goodP at h
  simp only [Bool.and_eq_true] at h
  exact ⟨h.1.1, finB_true.1 h.1.2, finB_true.1 h.2⟩
theorem goodP_mk {l : List T3} {x y : Int} (h : planeB l = true) (hx : -1000000 ≤ x ∧ x ≤ 1000000) (hy : -1000000 ≤ y ∧ y ≤ 1000000) : goodP l x y = true := by unfold goodP; rw [h, finB_true.2 hx, finB_true.2 hy]; rfl
theorem goodP_no1 {l : List T3} {x y : Int} (h : planeB l = false) : goodP l x y = false := by unfold goodP; rw [h]; rfl
theorem goodP_no2 {l : List T3} {x y : Int} (h : finB x = false) : goodP l x y = false := by unfold goodP; rw [h, Bool.and_false]; rfl
theorem goodP_no3 {l : List T3} {x y : Int} (h : finB y = false) : goodP l x y = false := by unfold goodP; rw [h, Bool.and_false]
theorem goodP_no23 {l : List T3} {x y : Int} (h : (finB x && finB y) = false) : goodP l x y = false := by
  unfold goodP; rw [Bool.and_assoc, h, Bool.and_false]
theorem goodP_yes23 {l : List T3} {x y : Int} (h1 : planeB l = true) (h : (finB x && finB y) = true) : goodP l x y = true := by
  unfold goodP; rw [Bool.and_assoc, h, h1]; rfl
theorem lowV_bnd {l : List T3} {x y : Int} (h : goodP l x y = true) : lowV l x y ≤ 13000000 ∧ leastN (valP l x y) l.length = lowV l x y := by
  obtain ⟨h1, h2, h3⟩ := goodP_parts h
  have h4 := planeB_parts h1
  have h5 := valT_bnd (h4.2 0 (by omega)) h2 h3
  have h6 := lowN_le (valP l x y) (valP l x y 0) l.length
  refine ⟨by unfold lowV; show _ ≤ _; have : valP l x y 0 ≤ 13000000 := h5.2; omega, ?_⟩
  rw [leastN_low]
  exact lowN_first _ _ h4.1.1 (by show valT _ _ _ ≤ _; omega)
def askP (l : List T3) (x y : Int) : Bool := goodP l x y && finB (lowV l x y)
theorem askP_no {l : List T3} {x y : Int} (h : goodP l x y = false) : askP l x y = false := by unfold askP; rw [h]; rfl
theorem askP_is {l : List T3} {x y : Int} (h : goodP l x y = true) : askP l x y = finB (lowV l x y) := by unfold askP; rw [h]; rfl
theorem askP_good {l : List T3} {x y : Int} (h : askP l x y = true) : goodP l x y = true := by unfold askP at h; simp only [Bool.and_eq_true] at h; exact h.1
theorem low_num {l : List T3} {x y : Int} (h : goodP l x y = true) : numB (lowV l x y) = askP l x y := by
  rw [askP_is h]
  have := (lowV_bnd h).1
  unfold numB; rw [beq_eq_false_iff_ne.2 (by omega)]; simp
/-- The indices of the least terms. -/
def plcP (l : List T3) (x y : Int) : List Int := placesL (valP l x y) (lowV l x y) l.length
theorem plcP_ne {l : List T3} {x y : Int} (h : goodP l x y = true) : 1 ≤ (plcP l x y).length := by
  have h1 := (planeB_parts (goodP_parts h).1).1
  obtain ⟨i, hi, hv⟩ := lowN_at (valP l x y) l.length h1.1
  exact placesL_ne _ _ _ i hi hv
theorem plcP_first {l : List T3} {x y : Int} (h : goodP l x y = true) : 0 ≤ (plcP l x y).getD 0 0 ∧ (plcP l x y).getD 0 0 < 12 := by
  have h1 := (planeB_parts (goodP_parts h).1).1
  have := placesL_first (g := valP l x y) (v := lowV l x y) (n := l.length) (plcP_ne h)
  unfold plcP; omega
def letP (l : List T3) (x y : Int) : Int := if 1 < (plcP l x y).length then 42 else 97 + (plcP l x y).getD 0 0
theorem letP_star {l : List T3} {x y : Int} (h : 1 < ((plcP l x y).length : Int)) : letP l x y = 42 := by unfold letP; rw [if_pos (by omega)]
theorem letP_one {l : List T3} {x y : Int} (h : ((plcP l x y).length : Int) ≤ 1) : letP l x y = 97 + (plcP l x y).getD 0 0 := by unfold letP; rw [if_neg (by omega)]
def letS (l : List T3) (x y : Int) : ByteArray := strOfNums [letP l x y]

end Go.Proofs.YteapdildbfimnaaDoor
