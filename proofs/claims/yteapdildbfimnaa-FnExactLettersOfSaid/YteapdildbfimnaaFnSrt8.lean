/- Sorting bytes in place: the choice of a pivot, continued. Conditions: no more than 2^40 bytes. -/
import Derived.Test.YteapdildbfimnaaFnSrt7
namespace Go.Proofs.Yteapdildbfimnaa
open Go.RowKit Go.Proofs
set_option linter.unusedSimpArgs false
set_option linter.unusedVariables false
set_option maxRecDepth 20000

set_option maxHeartbeats 1000000 in
theorem medianAdjacent_sg {b0 off n c0 pb n2 : Nat} {e2 : TypeId} {d : Nat → Int} {W0 w : World} (h : Sg b0 off n pb n2 e2 d W0 w) {M : Nat → Prop} (hM : ∀ k, M k → k < n) (a : Nat) (h1 : 1 ≤ a) (ha : a ≤ 1099511627776) (k1 : M (a - 1)) (k2 : M a) (k3 : M (a + 1)) :
    Calls Try.prog 166 #[.slice (some ⟨b0, off, none⟩) n c0, .int .i64 a, .pointer (some ⟨pb, 0, none⟩)] w fun e w' => ∃ r : Nat, M r ∧ e = .returned (.int .i64 r) ∧ Sg b0 off n pb n2 e2 d W0 w' := by
  go_enter Try.func166, Try.ntmps166
  go_wp2_with (go_at_call 167; rw [show (a : Int) - 1 = ((a - 1 : Nat) : Int) by omega, show (a : Int) + 1 = ((a + 1 : Nat) : Int) by omega]; refine (median_sg (by assumption) hM _ _ _ k1 k2 k3).mono ?_; rintro e w' ⟨r, hr, rfl, hsg⟩)
  go_ret
  exact ⟨_, by assumption, rfl, by assumption⟩
theorem Sg.start {w : World} {bk c n : Nat} {cur : Array Value} {e : TypeId} {d : Nat → Int} (hw : Gb w bk e cur) (hc : ∀ i, i < n → ∃ x, cur[i]? = some x ∧ vuF d i = .val x) :
    Sg bk 0 n w.heap.size 1 3 d (w.alloc (Obj.cells #[Value.int IntKind.i64 0] 3)) (w.alloc (Obj.cells #[Value.int IntKind.i64 0] 3)) := by
  have hl : bk < w.heap.size := hw.lt
  refine ⟨⟨rfl, rfl, rfl, Nat.le_refl _, fun _ _ _ => rfl⟩, by omega, by show bk < (w.heap.push _).size; rw [Array.size_push]; omega, fun i hi => ?_, ⟨#[.int .i64 0], 0, by show (w.heap.push _)[w.heap.size]? = _; rw [Array.getElem?_push_size], rfl, rfl⟩⟩
  obtain ⟨x, h1, h2⟩ := hc i hi
  have h2 : vu (d i) = .val x := h2
  injection h2 with h2
  rw [Nat.zero_add, h2]
  refine (hw.congr ?_).cell h1
  show (w.heap.push _)[bk]? = _
  rw [Array.getElem?_push_lt hl]
  simp [hl]
theorem Sg.done {w w' : World} {bk n : Nat} {cur : Array Value} {e : TypeId} {d : Nat → Int} (hw : Gb w bk e cur)
    (h : Sg bk 0 n w.heap.size 1 3 d (w.alloc (Obj.cells #[Value.int IntKind.i64 0] 3)) w') : AllBut bk w w' ∧ Gb w' bk e cur := by
  have hl : bk < w.heap.size := hw.lt
  have key : ∀ k, k < w.heap.size → w'.heap[k]? = w.heap[k]? := fun k hk => by
    rw [h.ab.oth k (by show k < (w.heap.push _).size; rw [Array.size_push]; omega) (by omega)]
    show (w.heap.push _)[k]? = _
    rw [Array.getElem?_push_lt hk]
    simp [hk]
  exact ⟨⟨h.ab.os, h.ab.tape, h.ab.output, by have h9 : (w.heap.push _).size ≤ w'.heap.size := h.ab.size; rw [Array.size_push] at h9; omega, fun k hk _ => key k hk⟩, hw.congr (key bk hl)⟩
theorem Sg.cell {b0 off n pb n2 : Nat} {e2 : TypeId} {d : Nat → Int} {W0 w : World} (h : Sg b0 off n pb n2 e2 d W0 w) : ∃ x, w.cell? ⟨pb, 0, none⟩ = some (.int .i64 x) := by
  obtain ⟨cur, x, h1, h2, h3⟩ := h.sw
  exact ⟨x, cell_of_blk (w := w) h1 h3⟩
def InAB (a b : Nat) (k : Nat) : Prop := a ≤ k ∧ k < b
set_option maxHeartbeats 4000000 in
theorem choosePivot_m (n : Nat) (d : Nat → Int) (a b : Nat) (hab : a < b) (hbn : b ≤ n) (hn : n ≤ 1099511627776) : FnM Try.prog 132 n (vuF d) [.int .i64 a, .int .i64 b] (fun D' v => D' = vuF d ∧ ∃ p h : Nat, a ≤ p ∧ p < b ∧ v = .tuple #[.int .i64 p, .int .i64 h]) := by
  refine ⟨Try.call132, fun w bk c cur e hw hnc hcm hsz hc => ?_⟩
  have hsg0 := Sg.start (c := c) hw hc
  have hM : ∀ k, InAB a b k → k < n := fun k hk => by unfold InAB at hk; omega
  obtain ⟨p1, hp1⟩ : ∃ p1, p1 = a + (b - a) / 4 := ⟨_, rfl⟩
  obtain ⟨p2, hp2⟩ : ∃ p2, p2 = a + (b - a) / 4 * 2 := ⟨_, rfl⟩
  obtain ⟨p3, hp3⟩ : ∃ p3, p3 = a + (b - a) / 4 * 3 := ⟨_, rfl⟩
  go_enter Try.func132, Try.ntmps132
  rcases Nat.lt_or_ge (b - a) 8 with h8 | h8
  · go_wp2
    refine ⟨rfl, _, run_results (ts := [6, 7]) rfl _ _, ?_⟩
    obtain ⟨hA, hB⟩ := Sg.done hw hsg0
    exact ⟨_, _, ⟨rfl, p2, 1, by omega, by omega, by rw [show ((p2 : Nat) : Int) = (a : Int) + ((b : Int) - a) / 4 * 2 by omega]; rfl⟩, rfl, hA, cur, hB, rfl, hc⟩
  · have m1 : InAB a b p1 := by unfold InAB; omega
    have m2 : InAB a b p2 := by unfold InAB; omega
    have m3 : InAB a b p3 := by unfold InAB; omega
    rcases Nat.lt_or_ge (b - a) 50 with h50 | h50
    · go_wp2_with (go_at_call 167; rw [show (a : Int) + ((b : Int) - a) / 4 * 3 = ((p3 : Nat) : Int) by omega, show (a : Int) + ((b : Int) - a) / 4 * 2 = ((p2 : Nat) : Int) by omega, show (a : Int) + ((b : Int) - a) / 4 = ((p1 : Nat) : Int) by omega]; refine (median_sg hsg0 hM _ _ _ m1 m2 m3).mono ?_; rintro e w' ⟨r, hr, rfl, hsg⟩; obtain ⟨x, hx⟩ := hsg.cell)
      all_goals
        refine ⟨rfl, _, run_results (ts := [6, 7]) rfl _ _, ?_⟩
        obtain ⟨hA, hB⟩ := Sg.done hw hsg
        first
          | exact ⟨_, _, ⟨rfl, r, 0, hr.1, hr.2, rfl⟩, rfl, hA, cur, hB, rfl, hc⟩
          | exact ⟨_, _, ⟨rfl, r, 1, hr.1, hr.2, rfl⟩, rfl, hA, cur, hB, rfl, hc⟩
          | exact ⟨_, _, ⟨rfl, r, 2, hr.1, hr.2, rfl⟩, rfl, hA, cur, hB, rfl, hc⟩
    · have i1 : InAB a b (p1 - 1) := by unfold InAB; omega
      have i2 : InAB a b (p2 - 1) := by unfold InAB; omega
      have i3 : InAB a b (p3 - 1) := by unfold InAB; omega
      have j1 : InAB a b (p1 + 1) := by unfold InAB; omega
      have j2 : InAB a b (p2 + 1) := by unfold InAB; omega
      have j3 : InAB a b (p3 + 1) := by unfold InAB; omega
      have g1 : 1 ≤ p1 ∧ p1 ≤ 1099511627776 := by omega
      have g2 : 1 ≤ p2 ∧ p2 ≤ 1099511627776 := by omega
      have g3 : 1 ≤ p3 ∧ p3 ≤ 1099511627776 := by omega
      go_wp2_with (first
        | (go_at_call 166
           first
            | ((with_reducible show Calls _ _ #[_, .int .i64 (_ + _ / 4 * 3), _] _ _); rw [show (a : Int) + ((b : Int) - a) / 4 * 3 = ((p3 : Nat) : Int) by omega]; refine (medianAdjacent_sg (by assumption) hM _ g3.1 g3.2 i3 m3 j3).mono ?_; rintro e w' ⟨r3, hr3, rfl, hsg3⟩)
            | ((with_reducible show Calls _ _ #[_, .int .i64 (_ + _ / 4 * 2), _] _ _); rw [show (a : Int) + ((b : Int) - a) / 4 * 2 = ((p2 : Nat) : Int) by omega]; refine (medianAdjacent_sg (by assumption) hM _ g2.1 g2.2 i2 m2 j2).mono ?_; rintro e w' ⟨r2, hr2, rfl, hsg2⟩)
            | ((with_reducible show Calls _ _ #[_, .int .i64 (_ + _ / 4), _] _ _); rw [show (a : Int) + ((b : Int) - a) / 4 = ((p1 : Nat) : Int) by omega]; refine (medianAdjacent_sg hsg0 hM _ g1.1 g1.2 i1 m1 j1).mono ?_; rintro e w' ⟨r1, hr1, rfl, hsg1⟩))
        | (go_at_call 167; refine (median_sg hsg3 hM _ _ _ hr1 hr2 hr3).mono ?_; rintro e w' ⟨r, hr, rfl, hsg⟩; obtain ⟨x, hx⟩ := hsg.cell))
      all_goals
        refine ⟨rfl, _, run_results (ts := [6, 7]) rfl _ _, ?_⟩
        obtain ⟨hA, hB⟩ := Sg.done hw hsg
        first
          | exact ⟨_, _, ⟨rfl, r, 0, hr.1, hr.2, rfl⟩, rfl, hA, cur, hB, rfl, hc⟩
          | exact ⟨_, _, ⟨rfl, r, 1, hr.1, hr.2, rfl⟩, rfl, hA, cur, hB, rfl, hc⟩
          | exact ⟨_, _, ⟨rfl, r, 2, hr.1, hr.2, rfl⟩, rfl, hA, cur, hB, rfl, hc⟩
end Go.Proofs.Yteapdildbfimnaa
