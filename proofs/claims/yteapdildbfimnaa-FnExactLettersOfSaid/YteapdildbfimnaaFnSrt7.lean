/- Sorting bytes in place: the choice of a pivot. Conditions: no more than 2^40 bytes. -/
import Derived.Test.YteapdildbfimnaaFnSrt6
import Derived.WalkKit
import Derived.Shelf.RegionOpenPlain
import Derived.Lib.Walk
namespace Go.Proofs.Yteapdildbfimnaa
open Go.RowKit Go.Proofs
set_option linter.unusedSimpArgs false
set_option linter.unusedVariables false
set_option maxRecDepth 20000

theorem isNaN_w (x : Int) (w : World) : Calls Try.prog 168 #[.int .u8 x] w fun e w' => e = .returned (.bool false) ∧ w' = w := by
  go_enter Try.func168, Try.ntmps168
  go_wp2
  go_ret
  exact ⟨rfl, rfl⟩
theorem less_w (x y : Int) (w : World) : Calls Try.prog 135 #[.int .u8 x, .int .u8 y] w fun e w' => e = .returned (.bool (decide (x < y))) ∧ w' = w := by
  go_enter Try.func135, Try.ntmps135
  go_wp2_with (go_at_call 168; refine (isNaN_w _ _).mono ?_; rintro e w' ⟨rfl, rfl⟩)
  all_goals
    go_ret
    exact ⟨rfl, rfl⟩
set_option maxHeartbeats 1000000 in
theorem order2_w (b0 off n c0 pb : Nat) (da db x : Int) (a b : Nat) (W : World) (ha : ∀ q, (W.drewN q).cell? ⟨b0, off + a, none⟩ = some (.int .u8 da)) (hb : ∀ q, (W.drewN q).cell? ⟨b0, off + b, none⟩ = some (.int .u8 db)) (han : (a : Int) < n) (hbn : (b : Int) < n)
    (hx : ∀ q, (W.drewN q).cell? ⟨pb, 0, none⟩ = some (.int .i64 x)) (hf : ∀ q, (W.drewN q).frozen? ⟨pb, 0, none⟩ = false) :
    Calls Try.prog 180 #[.slice (some ⟨b0, off, none⟩) n c0, .int .i64 a, .int .i64 b, .pointer (some ⟨pb, 0, none⟩)] W fun e w' =>
      (e = .returned (.tuple #[.int .i64 b, .int .i64 a]) ∧ ∃ q, w' = (W.drewN q).setCell ⟨pb, 0, none⟩ (.int .i64 (wrap64 (x + 1)))) ∨ (e = .returned (.tuple #[.int .i64 a, .int .i64 b]) ∧ ∃ q, w' = W.drewN q) := by
  go_enter Try.func180, Try.ntmps180
  have mixed : Try.prog.follows .mixedOrders = true := rfl
  go_wp2_with fail
  go_quiet_o (first | (go_at_call 135; refine (less_w _ _ _).mono ?_; rintro e w' ⟨rfl, rfl⟩; exact ⟨rfl, _, rfl⟩))
  by_cases hlt : db < da
  · go_wp2
    exact ⟨rfl, _, run_results (ts := [8, 9]) rfl _ _, .inl ⟨rfl, _, rfl⟩⟩
  · go_wp2
    exact ⟨rfl, _, run_results (ts := [8, 9]) rfl _ _, .inr ⟨rfl, _, rfl⟩⟩

/-- The data stand as in W0, the counter's block holds some number. -/
structure Sg (b0 off n pb n2 : Nat) (e2 : TypeId) (d : Nat → Int) (W0 w : World) : Prop where
  ab : AllBut pb W0 w
  ne : b0 ≠ pb
  lt : b0 < W0.heap.size
  data : ∀ i, i < n → W0.cell? ⟨b0, off + i, none⟩ = some (.int .u8 (d i))
  sw : ∃ (cur : Array Value) (x : Int), w.heap[pb]? = some (.cells cur e2 (0, 0)) ∧ cur.size = n2 ∧ cur[0]? = some (.int .i64 x)
theorem Sg.at {b0 off n pb n2 : Nat} {e2 : TypeId} {d : Nat → Int} {W0 w : World} (h : Sg b0 off n pb n2 e2 d W0 w) {i : Nat} (hi : i < n) : w.cell? ⟨b0, off + i, none⟩ = some (.int .u8 (d i)) := by
  rw [← h.data i hi]
  exact World.cell?_of_block (a := ⟨b0, off + i, none⟩) (h.ab.oth b0 h.lt h.ne)
theorem Sg.set {b0 off n pb n2 : Nat} {e2 : TypeId} {d : Nat → Int} {W0 w : World} (h : Sg b0 off n pb n2 e2 d W0 w) (q : Nat) (y : Int) : Sg b0 off n pb n2 e2 d W0 ((w.drewN q).setCell ⟨pb, 0, none⟩ (.int .i64 y)) := by
  obtain ⟨cur, x, h1, h2, h3⟩ := h.sw
  have hlt : 0 < cur.size := by
    rcases Nat.eq_zero_or_pos cur.size with e | e
    · rw [Array.getElem?_eq_none (by omega)] at h3; cases h3
    · exact e
  have h1' : (w.drewN q).heap[pb]? = some (.cells cur e2 (0, 0)) := h1
  refine ⟨⟨h.ab.os, h.ab.tape, h.ab.output, by rw [setCell_size]; exact h.ab.size, fun j hj hne => ?_⟩, h.ne, h.lt, h.data, cur.setIfInBounds 0 (.int .i64 y), y, setCell_at h1', by simpa using h2, by simp [hlt]⟩
  rw [Below.heap_setCell _ _ _ _ hne]
  exact h.ab.oth j hj hne
theorem Sg.drew {b0 off n pb n2 : Nat} {e2 : TypeId} {d : Nat → Int} {W0 w : World} (h : Sg b0 off n pb n2 e2 d W0 w) (q : Nat) : Sg b0 off n pb n2 e2 d W0 (w.drewN q) := ⟨⟨h.ab.os, h.ab.tape, h.ab.output, h.ab.size, h.ab.oth⟩, h.ne, h.lt, h.data, h.sw⟩
theorem order2_sg {b0 off n c0 pb n2 : Nat} {e2 : TypeId} {d : Nat → Int} {W0 w : World} (h : Sg b0 off n pb n2 e2 d W0 w) {M : Nat → Prop} (hM : ∀ k, M k → k < n) (a b : Nat) (ha : M a) (hb : M b) :
    Calls Try.prog 180 #[.slice (some ⟨b0, off, none⟩) n c0, .int .i64 a, .int .i64 b, .pointer (some ⟨pb, 0, none⟩)] w fun e w' => ∃ r s : Nat, M r ∧ M s ∧ e = .returned (.tuple #[.int .i64 r, .int .i64 s]) ∧ Sg b0 off n pb n2 e2 d W0 w' := by
  obtain ⟨cur, x, h1, h2, h3⟩ := h.sw
  have k1 := hM a ha
  have k2 := hM b hb
  refine (order2_w b0 off n c0 pb (d a) (d b) x a b w (fun q => h.at k1) (fun q => h.at k2) (by omega) (by omega) (fun q => cell_of_blk (w := w) h1 h3) (fun q => by show w.frozen? _ = false; simp [World.frozen?, h1])).mono ?_
  rintro e w' (⟨rfl, q, rfl⟩ | ⟨rfl, q, rfl⟩)
  · exact ⟨b, a, hb, ha, rfl, h.set q _⟩
  · exact ⟨a, b, ha, hb, rfl, h.drew q⟩
set_option maxHeartbeats 1000000 in
theorem median_sg {b0 off n c0 pb n2 : Nat} {e2 : TypeId} {d : Nat → Int} {W0 w : World} (h : Sg b0 off n pb n2 e2 d W0 w) {M : Nat → Prop} (hM : ∀ k, M k → k < n) (a b c : Nat) (ha : M a) (hb : M b) (hc : M c) :
    Calls Try.prog 167 #[.slice (some ⟨b0, off, none⟩) n c0, .int .i64 a, .int .i64 b, .int .i64 c, .pointer (some ⟨pb, 0, none⟩)] w fun e w' => ∃ r : Nat, M r ∧ e = .returned (.int .i64 r) ∧ Sg b0 off n pb n2 e2 d W0 w' := by
  go_enter Try.func167, Try.ntmps167
  go_wp2_with (go_at_call 180; refine (order2_sg (by assumption) hM _ _ (by assumption) (by assumption)).mono ?_; rintro e w' ⟨r, s, hr, hs, rfl, hsg⟩)
  go_ret
  exact ⟨_, by assumption, rfl, by assumption⟩
end Go.Proofs.Yteapdildbfimnaa
