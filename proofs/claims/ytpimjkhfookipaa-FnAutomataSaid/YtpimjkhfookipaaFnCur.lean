/- The cursor's own functions. No conditions but that it has not been moved 2^40 times. -/
import Derived.Test.YtpimjkhfookipaaEngQ
import Derived.Test.YtpimjkhfookipaaFnA
import Derived.WalkKit
import Derived.Lib.Walk
import Derived.Deep.QuietTactic
import Derived.BigQuiet
namespace Go.Proofs.Ytpimjkhfookipaa
open Go.RowKit Go.Proofs
set_option linter.unusedSimpArgs false
set_option linter.unusedVariables false

theorem u64_wrap (n : Int) : 0 ≤ IntKind.u64.wrap n ∧ IntKind.u64.wrap n < 18446744073709551616 := by
  simp [IntKind.wrap, IntKind.bits, IntKind.signed]; omega

theorem and255 (x : Int) : 0 ≤ bits .and .u64 x 255 ∧ bits .and .u64 x 255 < 256 := by
  have h1 : (BitVec.ofInt IntKind.u64.bits x &&& BitVec.ofInt IntKind.u64.bits 255).toNat ≤ 255 := by
    rw [BitVec.toNat_and]
    exact Nat.le_trans Nat.and_le_right (by decide)
  unfold bits
  show 0 ≤ IntKind.u64.wrap _ ∧ IntKind.u64.wrap _ < 256
  generalize (BitVec.ofInt IntKind.u64.bits x &&& BitVec.ofInt IntKind.u64.bits 255).toNat = m at h1
  simp [IntKind.wrap, IntKind.bits, IntKind.signed]
  omega

theorem next_in (b : Nat) (cur : Array Value) (e : TypeId) (A : Addr) (n cap : Nat) (g p q : Int) (w : World) (hb : w.heap[b]? = some (.cells cur e (0, 0))) (h0 : cur[0]? = some (.slice (some A) n cap)) (h1 : cur[1]? = some (.int .i64 p)) (h2 : cur[2]? = some (.int .u64 q))
    (hp : 0 ≤ p ∧ p ≤ 1099511627776) (hq : 0 ≤ q ∧ q < 18446744073709551616) (hn : n ≤ 1099511627776) (hnp : p < n) (hg : w.cell? (A.add p.toNat) = some (.int .u8 g)) (hg2 : 0 ≤ g ∧ g < 256) :
    Calls Try.prog 214 #[.pointer (some ⟨b, 0, none⟩)] w fun e' w' => ∃ x q' : Int, (0 ≤ x ∧ x < 256) ∧ (0 ≤ q' ∧ q' < 18446744073709551616) ∧ e' = .returned (.int .i64 x) ∧ ∃ m m', w' = (((w.drewN m).setCell ⟨b, 1, none⟩ (.int .i64 (p + 1))).setCell ⟨b, 2, none⟩ (.int .u64 q')).drewN m' := by
  have c0 : w.cell? ⟨b, 0, none⟩ = some (.slice (some A) n cap) := cell_of_blk hb h0
  have c1 : w.cell? ⟨b, 1, none⟩ = some (.int .i64 p) := cell_of_blk hb h1
  have c2 : w.cell? ⟨b, 2, none⟩ = some (.int .u64 q) := cell_of_blk hb h2
  go_enter Try.func214, Try.ntmps214
  go_wp2
  have hlt : decide (p < (n : Int)) = true := decide_eq_true hnp
  have hle : decide (p + 1 ≤ (n : Int)) = true := decide_eq_true (by omega)
  have f1 : w.frozen? ⟨b, 1, none⟩ = false := by simp [World.frozen?, hb]
  have f2 : w.frozen? ⟨b, 2, none⟩ = false := by simp [World.frozen?, hb]
  have hp0 : 0 ≤ p := hp.1
  go_quiet (fail)
  go_wp2
  go_quiet (fail)
  go_wp2
  go_quiet (fail)
  go_wp2
  go_ret
  exact ⟨g, _, hg2, u64_wrap _, rfl, _, _, rfl⟩

theorem next_out (b : Nat) (cur : Array Value) (e : TypeId) (B : Option Addr) (n cap : Nat) (p q : Int) (w : World) (hb : w.heap[b]? = some (.cells cur e (0, 0))) (h0 : cur[0]? = some (.slice B n cap)) (h1 : cur[1]? = some (.int .i64 p)) (h2 : cur[2]? = some (.int .u64 q))
    (hp : 0 ≤ p ∧ p ≤ 1099511627776) (hq : 0 ≤ q ∧ q < 18446744073709551616) (hn : n ≤ 1099511627776) (hnp : ¬ p < n) :
    Calls Try.prog 214 #[.pointer (some ⟨b, 0, none⟩)] w fun e' w' => ∃ x q' : Int, (0 ≤ x ∧ x < 256) ∧ (0 ≤ q' ∧ q' < 18446744073709551616) ∧ e' = .returned (.int .i64 x) ∧ ∃ m m', w' = (((w.drewN m).setCell ⟨b, 1, none⟩ (.int .i64 (p + 1))).setCell ⟨b, 2, none⟩ (.int .u64 q')).drewN m' := by
  have c0 : w.cell? ⟨b, 0, none⟩ = some (.slice B n cap) := cell_of_blk hb h0
  have c1 : w.cell? ⟨b, 1, none⟩ = some (.int .i64 p) := cell_of_blk hb h1
  have c2 : w.cell? ⟨b, 2, none⟩ = some (.int .u64 q) := cell_of_blk hb h2
  go_enter Try.func214, Try.ntmps214
  go_wp2
  have hlt : decide (p < (n : Int)) = false := decide_eq_false (by omega)
  have hle : decide (p + 1 ≤ (n : Int)) = false := decide_eq_false (by omega)
  have f1 : w.frozen? ⟨b, 1, none⟩ = false := by simp [World.frozen?, hb]
  have f2 : w.frozen? ⟨b, 2, none⟩ = false := by simp [World.frozen?, hb]
  have hp0 : 0 ≤ p := hp.1
  go_quiet (fail)
  go_wp2
  go_quiet (fail)
  go_wp2
  go_ret
  refine ⟨_, _, ?_, u64_wrap _, rfl, _, _, rfl⟩
  have := and255 (IntKind.u64.wrap (IntKind.u64.wrap (IntKind.u64.wrap (q * 6364136223846793005)) + 1442695040888963407) / 1099511627776)
  generalize bits BinOp.and IntKind.u64 (IntKind.u64.wrap (IntKind.u64.wrap (IntKind.u64.wrap (q * 6364136223846793005)) + 1442695040888963407) / 1099511627776) 255 = y at *
  unfold wrap64
  omega

/-- The bytes that the cursor reads. -/
abbrev bytV (n : Nat) (g : Nat → Int) : V := .seq 1 n fun i => .val (.int .u8 (g i))

theorem moved_world {b : Nat} {cur : Array Value} {e : TypeId} {w w' : World} {m m' : Nat} {p' q' : Int} (hb : w.heap[b]? = some (.cells cur e (0, 0))) (hw : w' = (((w.drewN m).setCell ⟨b, 1, none⟩ (.int .i64 p')).setCell ⟨b, 2, none⟩ (.int .u64 q')).drewN m') :
    RebB b w { w with heap := w'.heap } ∧ Below w'.heap.size { w with heap := w'.heap } w' ∧ w'.heap[b]? = some (.cells ((cur.setIfInBounds 1 (.int .i64 p')).setIfInBounds 2 (.int .u64 q')) e (0, 0)) ∧ w'.heap.size = w.heap.size := by
  have hd : ∀ (v : World) (k : Nat), (v.drewN k).heap = v.heap := fun v k => by cases k <;> rfl
  have h1 : (w.drewN m).heap[b]? = some (.cells cur e (0, 0)) := by rw [hd]; exact hb
  have h2 : ((w.drewN m).setCell ⟨b, 1, none⟩ (.int .i64 p')).heap[b]? = some (.cells (cur.setIfInBounds 1 (.int .i64 p')) e (0, 0)) := setCell_at h1
  have h3 : (((w.drewN m).setCell ⟨b, 1, none⟩ (.int .i64 p')).setCell ⟨b, 2, none⟩ (.int .u64 q')).heap[b]? = some (.cells ((cur.setIfInBounds 1 (.int .i64 p')).setIfInBounds 2 (.int .u64 q')) e (0, 0)) := setCell_at h2
  have hH : w'.heap = (((w.drewN m).setCell ⟨b, 1, none⟩ (.int .i64 p')).setCell ⟨b, 2, none⟩ (.int .u64 q')).heap := by rw [hw, hd]
  have hS : w'.heap.size = w.heap.size := by rw [hH, setCell_size, setCell_size, hd]
  have hso : ∀ (v : World) (x : Addr) (y : Value), (v.setCell x y).os = v.os ∧ (v.setCell x y).tape = v.tape ∧ (v.setCell x y).output = v.output := fun v x y => ⟨rfl, rfl, rfl⟩
  have hdo : ∀ (v : World) (k : Nat), (v.drewN k).os = v.os ∧ (v.drewN k).tape = v.tape ∧ (v.drewN k).output = v.output := fun v k => ⟨rfl, rfl, rfl⟩
  refine ⟨⟨rfl, rfl, rfl, hS, fun j hj => ?_⟩, ⟨?_, ?_, ?_, Nat.le_refl _, fun _ _ => rfl⟩, ?_, hS⟩
  · show w'.heap[j]? = _
    rw [hH, Below.heap_setCell _ _ _ _ hj, Below.heap_setCell _ _ _ _ hj, hd]
  · rw [hw]; simp only [hdo, hso]
  · rw [hw]; simp only [hdo, hso]
  · rw [hw]; simp only [hdo, hso]
  · rw [hH]; exact h3

/-- Some number below 256. -/
theorem next_fn (b k n : Nat) (Z : Nat → Prop) (g : Nat → Int) (hk : k ≤ 1099511627776) (hn : n ≤ 1099511627776) (hg : ∀ i, i < n → 0 ≤ g i ∧ g i < 256) :
    FnC Try.prog 214 b k (k + 1) Z (bytV n g) [] (fun r => ∃ x : Int, (0 ≤ x ∧ x < 256) ∧ r = .one (.pv (vi x))) := by
  refine ⟨Try.call214, fun w u us hu hus => ?_⟩
  match us, hus with
  | [], _ =>
    obtain ⟨rfl, _, hz, cur, cv, p, q, e, hc, ⟨h0, h1, h2⟩, hp, hq, hr⟩ := hu
    obtain ⟨A, c, rfl, hcap, hcells⟩ := hr
    have fin : ∀ e' w', (∃ x q' : Int, (0 ≤ x ∧ x < 256) ∧ (0 ≤ q' ∧ q' < 18446744073709551616) ∧ e' = Ending.returned (.int .i64 x) ∧ ∃ m m', w' = (((w.drewN m).setCell ⟨b, 1, none⟩ (.int .i64 (p + 1))).setCell ⟨b, 2, none⟩ (.int .u64 q')).drewN m') →
        ∃ w1 r x φ, RebB b w w1 ∧ Rd w1 (fun _ => True) (.cur b (k + 1) Z (bytV n g)) (.pointer (some ⟨b, 0, none⟩)) ∧ (∃ x : Int, (0 ≤ x ∧ x < 256) ∧ r = Res.one (.pv (vi x))) ∧ NewL (fun Z => ∀ j, Z j → w.heap.size ≤ j) r.list ∧ e' = .returned x ∧ Heap w1 (fun _ => True) (bring r.list []).2 φ w' ∧ RdSlot w' (Stab w1 (fun _ => True) (bring r.list []).2 φ) φ (r.slot (bring r.list []).1) x := by
      rintro e' w' ⟨x, q', hx, hq', rfl, m, m', hw⟩
      obtain ⟨hR, hB, hblk, hsz⟩ := moved_world hc hw
      have c1 : 1 < cur.size := (Array.getElem?_eq_some_iff.1 h1).1
      have c2 : 2 < cur.size := (Array.getElem?_eq_some_iff.1 h2).1
      have hcur : Rd { w with heap := w'.heap } (fun _ => True) (.cur b (k + 1) Z (bytV n g)) (.pointer (some ⟨b, 0, none⟩)) := by
        refine ⟨rfl, trivial, fun j hj => ⟨trivial, ?_, (hz j hj).2.2⟩, _, _, p + 1, q', e, hblk, ⟨?_, ?_, ?_⟩, ⟨by omega, by omega⟩, hq', Rd.mono (S := Z) (fun j hj _ => ⟨hj, hR.oth j (hz j hj).2.2⟩) (bytV n g) (.slice A n c) ⟨A, c, rfl, hcap, hcells⟩⟩
        · show j < w'.heap.size
          rw [hsz]; exact (hz j hj).2.1
        · rw [Array.getElem?_setIfInBounds_ne (by decide), Array.getElem?_setIfInBounds_ne (by decide)]; exact h0
        · rw [Array.getElem?_setIfInBounds_ne (by decide)]; simp [c1]
        · simp [c2]
      exact ⟨_, .one (.pv (vi x)), .int .i64 x, [], hR, hcur, ⟨x, hx, rfl⟩, ⟨trivial, trivial⟩, rfl, ⟨rfl, hB, fun id blk hi => by simp [bring, Res.list] at hi, fun i j bi bj b z z' hi => by simp [bring, Res.list] at hi⟩, rfl⟩
    by_cases hpn : p < n
    · obtain ⟨b', off, rfl, hS, hcl⟩ := hcells (by omega)
      obtain ⟨y, hy, hy2⟩ := hcl p.toNat (by omega)
      have hy2 : y = .int .u8 (g p.toNat) := hy2
      subst hy2
      exact (next_in b cur e ⟨b', off, none⟩ n c (g p.toNat) p q w hc h0 h1 h2 ⟨hp.1, by omega⟩ hq hn hpn (by rw [add_none]; exact hy) (hg _ (by omega))).mono fin
    · exact (next_out b cur e A n c p q w hc h0 h1 h2 ⟨hp.1, by omega⟩ hq hn hpn).mono fin
end Go.Proofs.Ytpimjkhfookipaa
