/- The visit of LeastWord: keeps the first word of least cost. No conditions. -/
import Derived.Test.YtpolbgenoicckaaWords
import Derived.Test.YtpolbgenoicckaaFnRun
namespace Go.Proofs.Ytpolbgenoicckaa
open Go.RowKit Go.Proofs
set_option linter.unusedSimpArgs false
set_option linter.unusedVariables false

/-- A store into the first cell of a block. -/
theorem store_cur {P : Program} {W : World} {b : Nat} {cur : Array Value} {t : TypeId} {x : Value} (v : Value) (hv : v.oneCell' = true) (h : W.heap[b]? = some (.cells cur t (0, 0))) (hx : cur[0]? = some x) :
    ∃ W', (store ⟨b, 0, none⟩ v).run P W = .ok () W' ∧ W'.os = W.os ∧ W'.tape = W.tape ∧ W'.output = W.output ∧ W'.heap.size = W.heap.size ∧ (∀ k, k ≠ b → W'.heap[k]? = W.heap[k]?) ∧ W'.heap[b]? = some (.cells (cur.set! 0 v) t (0, 0)) := by
  have hc : W.cell? ⟨b, 0, none⟩ = some x := cell_of_blk h hx
  have hf : W.frozen? ⟨b, 0, none⟩ = false := by unfold World.frozen?; rw [h]; rfl
  have hb : b < W.heap.size := block_lt h
  refine ⟨W.setCell ⟨b, 0, none⟩ v, ?_, rfl, rfl, rfl, setCell_size _ _, fun k hk => ?_, ?_⟩
  · rw [run_store P _ _ _ _ hv, hc]
    simp only [hf, Bool.false_eq_true, if_false]
  · simp [World.setCell, Array.getElem?_modify, Ne.symm hk]
  · rw [setCell_at h]; rfl

/-- What lies in memory while LeastWord's words are visited. -/
structure LwJ (w1 : World) (b7 b8 : Nat) (t7 t8 : TypeId) (z7 z8 : Nat) (y : ByteArray) (m : Int) (W : World) : Prop where
  os : W.os = w1.os
  tape : W.tape = w1.tape
  output : W.output = w1.output
  size : w1.heap.size + 4 ≤ W.heap.size
  oth : ∀ k, k < w1.heap.size → k ≠ b7 → k ≠ b8 → W.heap[k]? = w1.heap[k]?
  c7 : ∃ cur, W.heap[b7]? = some (.cells cur t7 (0, 0)) ∧ cur.size = z7 ∧ cur[0]? = some (.string y)
  c8 : ∃ cur, W.heap[b8]? = some (.cells cur t8 (0, 0)) ∧ cur.size = z8 ∧ cur[0]? = some (.int .i64 m)

set_option maxHeartbeats 1000000 in
set_option maxRecDepth 100000 in
theorem least1_run (a e : List Int) (s : List (List (List Int))) (x : List UInt8) (h : autB a e s = true) (hw : wordB s.length (mkB x) = true)
    (w1 W : World) (S : Nat → Prop) (b2 b7 b8 : Nat) (t7 t8 : TypeId) (z7 z8 : Nat) (y : ByteArray) (m : Int) (x0 x1 x2 : Value) (h2 : b2 < w1.heap.size) (h27 : b2 ≠ b7) (h28 : b2 ≠ b8) (h7 : b7 < w1.heap.size) (h8 : b8 < w1.heap.size) (h78 : b7 ≠ b8)
    (hx0 : w1.cell? ⟨b2, 0, none⟩ = some x0) (hx1 : w1.cell? ⟨b2, 1, none⟩ = some x1) (hx2 : w1.cell? ⟨b2, 2, none⟩ = some x2) (hS : ∀ b, S b → b ≠ b7 ∧ b ≠ b8) (hR : Rd w1 S (autV a e s) (.agg #[x0, x1, x2])) (hJ : LwJ w1 b7 b8 t7 t8 z7 z8 y m W) :
    Calls Try.prog 84 #[.string (mkB x), ptB b2, ptB b8, ptB b7] W fun e' w' => e' = .returned (.tuple #[]) ∧
      LwJ w1 b7 b8 t7 t8 z7 z8 (if costW a e s (mkB x) < m then mkB x else y) (if costW a e s (mkB x) < m then costW a e s (mkB x) else m) w' ∧ Four w1.heap.size W w' := by
  obtain ⟨cur7, hc7, hz7, he7⟩ := hJ.c7
  obtain ⟨cur8, hc8, hz8, he8⟩ := hJ.c8
  have hcell : ∀ i, W.cell? ⟨b2, i, none⟩ = w1.cell? ⟨b2, i, none⟩ := fun i => World.cell?_of_block (w := w1) (a := ⟨b2, i, none⟩) (hJ.oth b2 h2 h27 h28)
  have g0 : W.cell? ⟨b2, 0, none⟩ = some x0 := by rw [hcell]; exact hx0
  have g1 : W.cell? ⟨b2, 1, none⟩ = some x1 := by rw [hcell]; exact hx1
  have g2 : W.cell? ⟨b2, 2, none⟩ = some x2 := by rw [hcell]; exact hx2
  have hcon : Calls Try.prog 72 #[.agg #[x0, x1, x2], .string (mkB x)] W fun e' w' => e' = .returned (.int .i64 (costW a e s (mkB x))) ∧ Below W.heap.size W w' := by
    refine ((cost_fn a e s (mkB x) h hw).runs W S [.agg #[x0, x1, x2], .string (mkB x)] ⟨Rd.mono (fun b hb hlt => ⟨hb, hJ.oth b hlt (hS b hb).1 (hS b hb).2⟩) _ _ hR, rfl, trivial⟩).mono ?_
    rintro e' w' ⟨u, φ, rfl, hh, hr⟩
    have hu : u = .int .i64 (costW a e s (mkB x)) := hr
    exact ⟨by rw [hu], hh.below⟩
  have d7 := block_lt hc7
  have d8 := block_lt hc8
  have A : Aside (LwJ w1 b7 b8 t7 t8 z7 z8 y m W ∧ b7 ≠ b8 ∧ b7 < w1.heap.size ∧ b8 < w1.heap.size ∧ b7 < W.heap.size ∧ b8 < W.heap.size) := ⟨hJ, h78, h7, h8, d7, d8⟩
  have A7 : Aside (W.heap[b7]? = some (.cells cur7 t7 (0, 0)) ∧ cur7.size = z7 ∧ cur7[0]? = some (.string y)) := ⟨hc7, hz7, he7⟩
  have A8 : Aside (W.heap[b8]? = some (.cells cur8 t8 (0, 0)) ∧ cur8.size = z8 ∧ cur8[0]? = some (.int .i64 m)) := ⟨hc8, hz8, he8⟩
  clear hJ h2 h27 h28 h7 h8 h78 hx0 hx1 hx2 hS hR hcell hc7 hz7 he7 hc8 hz8 he8 d7 d8 h hw
  obtain ⟨yy, hyy⟩ : ∃ yy, yy = (if costW a e s (mkB x) < m then mkB x else y) := ⟨_, rfl⟩
  obtain ⟨mm, hmm⟩ : ∃ mm, mm = (if costW a e s (mkB x) < m then costW a e s (mkB x) else m) := ⟨_, rfl⟩
  rw [← hyy, ← hmm]
  have AY : Aside (yy = (if costW a e s (mkB x) < m then mkB x else y) ∧ mm = (if costW a e s (mkB x) < m then costW a e s (mkB x) else m)) := ⟨hyy, hmm⟩
  clear hyy hmm
  go_enter Try.func84, Try.ntmps84
  go_wp2_with fail
  refine hcon.mono ?_
  rintro e' w' ⟨rfl, hbel⟩
  clear hcon g0 g1 g2
  obtain ⟨c, hc⟩ : ∃ c, c = costW a e s (mkB x) := ⟨_, rfl⟩
  rw [← hc]
  have AC : Aside (c = costW a e s (mkB x)) := hc
  clear hc
  have g8 : w'.cell? ⟨b8, 0, none⟩ = some (.int .i64 m) := by
    obtain ⟨_, _, _, _, d7, d8⟩ := A.out
    rw [World.cell?_of_block (w := W) (a := ⟨b8, 0, none⟩) (hbel.block b8 d8)]
    exact cell_of_blk A8.out.1 A8.out.2.2
  have AB : Aside (Below W.heap.size W w') := hbel
  clear hbel
  by_cases hlt : c < m
  · obtain ⟨W2, hst1, o1, o2, o3, o4, o5, o6⟩ : ∃ W2, (store ⟨b7, 0, none⟩ (.string (mkB x))).run Try.prog w' = .ok () W2 ∧ W2.os = w'.os ∧ W2.tape = w'.tape ∧ W2.output = w'.output ∧ W2.heap.size = w'.heap.size ∧ (∀ k, k ≠ b7 → W2.heap[k]? = w'.heap[k]?) ∧ W2.heap[b7]? = some (.cells (cur7.set! 0 (.string (mkB x))) t7 (0, 0)) := by
      obtain ⟨_, _, _, _, d7, d8⟩ := A.out
      exact store_cur (.string (mkB x)) rfl ((AB.out.block b7 d7).trans A7.out.1) A7.out.2.2
    obtain ⟨W3, hst2, q1, q2, q3, q4, q5, q6⟩ : ∃ W3, (store ⟨b8, 0, none⟩ (.int .i64 c)).run Try.prog W2 = .ok () W3 ∧ W3.os = W2.os ∧ W3.tape = W2.tape ∧ W3.output = W2.output ∧ W3.heap.size = W2.heap.size ∧ (∀ k, k ≠ b8 → W3.heap[k]? = W2.heap[k]?) ∧ W3.heap[b8]? = some (.cells (cur8.set! 0 (.int .i64 c)) t8 (0, 0)) := by
      obtain ⟨_, h78, _, _, d7, d8⟩ := A.out
      exact store_cur (.int .i64 c) rfl ((o5 b8 (Ne.symm h78)).trans ((AB.out.block b8 d8).trans A8.out.1)) A8.out.2.2
    have B1 : Aside (W2.os = w'.os ∧ W2.tape = w'.tape ∧ W2.output = w'.output ∧ W2.heap.size = w'.heap.size ∧ (∀ k, k ≠ b7 → W2.heap[k]? = w'.heap[k]?) ∧ W2.heap[b7]? = some (.cells (cur7.set! 0 (.string (mkB x))) t7 (0, 0))) := ⟨o1, o2, o3, o4, o5, o6⟩
    have B2 : Aside (W3.os = W2.os ∧ W3.tape = W2.tape ∧ W3.output = W2.output ∧ W3.heap.size = W2.heap.size ∧ (∀ k, k ≠ b8 → W3.heap[k]? = W2.heap[k]?) ∧ W3.heap[b8]? = some (.cells (cur8.set! 0 (.int .i64 c)) t8 (0, 0))) := ⟨q1, q2, q3, q4, q5, q6⟩
    have BS : Aside ((store ⟨b7, 0, none⟩ (.string (mkB x))).run Try.prog w' = .ok () W2 ∧ (store ⟨b8, 0, none⟩ (.int .i64 c)).run Try.prog W2 = .ok () W3) := ⟨hst1, hst2⟩
    have hf7 : w'.frozen? ⟨b7, 0, none⟩ = false := by
      obtain ⟨_, _, _, _, d7, d8⟩ := A.out
      unfold World.frozen?; rw [(AB.out.block b7 d7).trans A7.out.1]; rfl
    have hc7 : w'.cell? ⟨b7, 0, none⟩ = some (.string y) := by
      obtain ⟨_, _, _, _, d7, d8⟩ := A.out
      exact cell_of_blk ((AB.out.block b7 d7).trans A7.out.1) A7.out.2.2
    have e2 : w'.setCell ⟨b7, 0, none⟩ (.string (mkB x)) = W2 := by
      have := hst1
      rw [run_store _ _ _ _ _ rfl, hc7] at this
      simp only [hf7, Bool.false_eq_true, if_false] at this
      injection this
    have hf8 : W2.frozen? ⟨b8, 0, none⟩ = false := by
      obtain ⟨_, h78, _, _, d7, d8⟩ := A.out
      unfold World.frozen?; rw [(o5 b8 (Ne.symm h78)).trans ((AB.out.block b8 d8).trans A8.out.1)]; rfl
    have hc8 : W2.cell? ⟨b8, 0, none⟩ = some (.int .i64 m) := by
      obtain ⟨_, h78, _, _, d7, d8⟩ := A.out
      exact cell_of_blk ((o5 b8 (Ne.symm h78)).trans ((AB.out.block b8 d8).trans A8.out.1)) A8.out.2.2
    have e3 : W2.setCell ⟨b8, 0, none⟩ (.int .i64 c) = W3 := by
      have := hst2
      rw [run_store _ _ _ _ _ rfl, hc8] at this
      simp only [hf8, Bool.false_eq_true, if_false] at this
      injection this
    rw [← e2] at hf8 hc8
    clear hst1 hst2 o1 o2 o3 o4 o5 o6 q1 q2 q3 q4 q5 q6
    have EE : Aside (w'.setCell ⟨b7, 0, none⟩ (.string (mkB x)) = W2 ∧ W2.setCell ⟨b8, 0, none⟩ (.int .i64 c) = W3) := ⟨e2, e3⟩
    clear e2 e3
    go_wp2
    rw [EE.out.1, EE.out.2]
    go_end0
    have hcc := AC.out
    obtain ⟨hyy, hmm⟩ := AY.out
    rw [← hcc, if_pos hlt] at hyy hmm
    subst hyy hmm
    obtain ⟨o1, o2, o3, o4, o5, o6⟩ := B1.out
    obtain ⟨q1, q2, q3, q4, q5, q6⟩ := B2.out
    obtain ⟨hJ, h78, h7, h8, d7, d8⟩ := A.out
    have hbel := AB.out
    refine ⟨rfl, ⟨by rw [q1, o1, hbel.os, hJ.os], by rw [q2, o2, hbel.tape, hJ.tape], by rw [q3, o3, hbel.output, hJ.output], ?_, fun k hk e7 e8 => ?_, ?_, ?_⟩, fun b hb1 hb2 => ?_⟩
    · have := hJ.size; have := hbel.size; omega
    · rw [q5 k e8, o5 k e7, hbel.block k (by have := hJ.size; omega), hJ.oth k hk e7 e8]
    · refine ⟨_, (q5 b7 h78).trans o6, by simp [A7.out.2.1], ?_⟩
      have : 0 < cur7.size := by
        have h0 := A7.out.2.2
        rcases Nat.eq_zero_or_pos cur7.size with h1 | h1
        · rw [Array.getElem?_eq_none (by omega)] at h0; cases h0
        · exact h1
      simp [this]
    · refine ⟨_, q6, by simp [A8.out.2.1], ?_⟩
      have : 0 < cur8.size := by
        have h0 := A8.out.2.2
        rcases Nat.eq_zero_or_pos cur8.size with h1 | h1
        · rw [Array.getElem?_eq_none (by omega)] at h0; cases h0
        · exact h1
      simp [this]
    · rw [q5 b (by omega), o5 b (by omega), hbel.block b (by have := hJ.size; omega)]
  · go_wp2
    go_end0
    have hcc := AC.out
    obtain ⟨hyy, hmm⟩ := AY.out
    rw [← hcc, if_neg (by omega)] at hyy hmm
    subst hyy hmm
    obtain ⟨hJ, h78, h7, h8, d7, d8⟩ := A.out
    have hbel := AB.out
    refine ⟨rfl, ⟨by rw [hbel.os, hJ.os], by rw [hbel.tape, hJ.tape], by rw [hbel.output, hJ.output], ?_, fun k hk e7 e8 => ?_, ?_, ?_⟩, fun b hb1 hb2 => ?_⟩
    · have := hJ.size; have := hbel.size; omega
    · rw [hbel.block k (by have := hJ.size; omega), hJ.oth k hk e7 e8]
    · exact ⟨_, (hbel.block b7 d7).trans A7.out.1, A7.out.2⟩
    · exact ⟨_, (hbel.block b8 d8).trans A8.out.1, A8.out.2⟩
    · rw [hbel.block b (by have := hJ.size; omega)]
end Go.Proofs.Ytpolbgenoicckaa
