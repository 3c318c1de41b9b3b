/- The visit of CheapWords: keeps the first words within a cost. No conditions. -/
import Derived.Test.YtpolbgenoicckaaLeast2
import Derived.Lib.QuietBelow
import Derived.BigQuiet
namespace Go.Proofs.Ytpolbgenoicckaa
open Go.RowKit Go.Proofs Go.Sort
set_option linter.unusedSimpArgs false
set_option linter.unusedVariables false

abbrev strL (xs : List (List UInt8)) : List Value := xs.map fun x => .string (mkB x)

/-- What lies in memory while CheapWords' words are visited. -/
structure CwJ (w1 : World) (nl : Prop) (B b1 b8 : Nat) (t8 : TypeId) (z8 : Nat) (xs : List (List UInt8)) (W : World) : Prop where
  os : W.os = w1.os
  tape : W.tape = w1.tape
  output : W.output = w1.output
  size : w1.heap.size + 4 ≤ W.heap.size
  oth : ∀ k, k < w1.heap.size → k ≠ b8 → k ≠ b1 → W.heap[k]? = w1.heap[k]?
  row : ∃ A cap cur8, W.heap[b8]? = some (.cells cur8 t8 (0, 0)) ∧ cur8.size = z8 ∧ cur8[0]? = some (.slice A xs.length cap) ∧
    W.ownsRow B 9 1 (.slice A xs.length cap) xs.length (strL xs) ∧ (A = none → nl) ∧ ∀ k, (Value.slice A xs.length cap).ownBlock = some k → k = b1 ∨ w1.heap.size + 4 ≤ k

theorem CwJ.after {w1 W W' : World} {nl : Prop} {B b1 b8 : Nat} {t8 : TypeId} {z8 : Nat} {xs : List (List UInt8)} (h : CwJ w1 nl B b1 b8 t8 z8 xs W) (hb : Below W.heap.size W W') : CwJ w1 nl B b1 b8 t8 z8 xs W' ∧ Four w1.heap.size W W' := by
  have hs := h.size
  have hs2 := hb.size
  obtain ⟨A, cap, cur8, q1, q2, q3, ⟨q4, q5⟩, q6, q7⟩ := h.row
  refine ⟨⟨by rw [hb.os, h.os], by rw [hb.tape, h.tape], by rw [hb.output, h.output], by omega, fun k hk e1 e2 => by rw [hb.block k (by omega)]; exact h.oth k hk e1 e2, A, cap, cur8, (hb.block b8 (block_lt q1)).trans q1, q2, q3, ⟨q4, ?_⟩, q6, q7⟩, fun b h1 h2 => hb.block b (by omega)⟩
  rcases q5 with q | ⟨g2, cap2, cur2, r1, r2, r3, r4⟩
  · exact .inl q
  · exact .inr ⟨g2, cap2, cur2, r1, r2, (hb.block g2 (block_lt r3)).trans r3, r4⟩

def cheapStep (a e : List Int) (s : List (List (List Int))) (lim : Int) (l : List (List UInt8)) (x : List UInt8) : List (List UInt8) :=
  if l.length < 20 ∧ costW a e s (mkB x) ≤ lim then l ++ [x] else l

set_option maxHeartbeats 4000000 in
set_option maxRecDepth 1000000 in
theorem cheap1_run (a e : List Int) (s : List (List (List Int))) (lim : Int) (x : List UInt8) (h : autB a e s = true) (hw : wordB s.length (mkB x) = true)
    (w1 W : World) (S : Nat → Prop) (nl : Prop) (B b1 b8 b3 b5 : Nat) (t8 : TypeId) (z8 : Nat) (xs : List (List UInt8)) (x0 x1 x2 : Value) (h3 : b3 < w1.heap.size ∧ b3 ≠ b8 ∧ b3 ≠ b1) (h5 : b5 < w1.heap.size ∧ b5 ≠ b8 ∧ b5 ≠ b1) (h8 : b8 < w1.heap.size) (h1 : b1 < w1.heap.size ∨ w1.heap.size + 4 ≤ b1) (h18 : b8 ≠ b1) (hB : B ≤ w1.heap.size)
    (hx0 : w1.cell? ⟨b3, 0, none⟩ = some x0) (hx1 : w1.cell? ⟨b3, 1, none⟩ = some x1) (hx2 : w1.cell? ⟨b3, 2, none⟩ = some x2) (hx5 : w1.cell? ⟨b5, 0, none⟩ = some (.int .i64 lim)) (hS : ∀ b, S b → b ≠ b8 ∧ b ≠ b1) (hR : Rd w1 S (autV a e s) (.agg #[x0, x1, x2])) (hJ : CwJ w1 nl B b1 b8 t8 z8 xs W) :
    Calls Try.prog 102 #[.string (mkB x), ptB b8, ptB b3, ptB b5] W fun e' w' => e' = .returned (.tuple #[]) ∧
      CwJ w1 nl B b1 b8 t8 z8 (cheapStep a e s lim xs x) w' ∧ Four w1.heap.size W w' := by
  obtain ⟨A, cap, cur8, hc8, hz8, he8, hrow, hnl, hg⟩ := hJ.row
  have hcell : ∀ b i, b < w1.heap.size → b ≠ b8 → b ≠ b1 → W.cell? ⟨b, i, none⟩ = w1.cell? ⟨b, i, none⟩ := fun b i q1 q2 q3 => World.cell?_of_block (w := w1) (a := ⟨b, i, none⟩) (hJ.oth b q1 q2 q3)
  have g0 : W.cell? ⟨b3, 0, none⟩ = some x0 := by rw [hcell _ _ h3.1 h3.2.1 h3.2.2]; exact hx0
  have g1 : W.cell? ⟨b3, 1, none⟩ = some x1 := by rw [hcell _ _ h3.1 h3.2.1 h3.2.2]; exact hx1
  have g2 : W.cell? ⟨b3, 2, none⟩ = some x2 := by rw [hcell _ _ h3.1 h3.2.1 h3.2.2]; exact hx2
  have g5 : W.cell? ⟨b5, 0, none⟩ = some (.int .i64 lim) := by rw [hcell _ _ h5.1 h5.2.1 h5.2.2]; exact hx5
  have g8 : W.cell? ⟨b8, 0, none⟩ = some (.slice A xs.length cap) := cell_of_blk hc8 he8
  have k0 := cell_regrown g0
  have k1 := cell_regrown g1
  have k2 := cell_regrown g2
  have k5 := cell_regrown g5
  have k8 := cell_regrown g8
  obtain ⟨c, hc⟩ : ∃ c, c = costW a e s (mkB x) := ⟨_, rfl⟩
  have hcon : ∀ V, Below W.heap.size W V → Calls Try.prog 72 #[.agg #[x0, x1, x2], .string (mkB x)] V fun e' w' => e' = .returned (.int .i64 c) ∧ Below V.heap.size V w' := fun V hV => by
    rw [hc]
    refine ((cost_fn a e s (mkB x) h hw).runs V S [.agg #[x0, x1, x2], .string (mkB x)] ⟨Rd.mono (fun b hb hlt => ⟨hb, ?_⟩) _ _ hR, rfl, trivial⟩).mono ?_
    · rw [hV.block b (by have := hJ.size; omega)]; exact hJ.oth b hlt (hS b hb).1 (hS b hb).2
    · rintro e' w' ⟨u, φ, rfl, hh, hr⟩
      have hu : u = .int .i64 (costW a e s (mkB x)) := hr
      exact ⟨by rw [hu], hh.below⟩
  have cE : ∀ d os, Calls Try.prog 72 #[.agg #[x0, x1, x2], .string (mkB x)] (grow (redrawn W d) os) fun e w'' => e = .returned (.int .i64 c) ∧ ∃ p : Regrown, w'' = grow (redrawn W p.d) p.os := fun d os => Calls.regrown_of (hcon _ (below_regrown W d os))
  obtain ⟨ys, hys⟩ : ∃ ys, ys = cheapStep a e s lim xs x := ⟨_, rfl⟩
  have d8 := block_lt hc8
  have AA : Aside (CwJ w1 nl B b1 b8 t8 z8 xs W ∧ b8 ≠ b1 ∧ b8 < w1.heap.size ∧ (b1 < w1.heap.size ∨ w1.heap.size + 4 ≤ b1) ∧ B ≤ w1.heap.size ∧ b8 < W.heap.size ∧ ys = cheapStep a e s lim xs x ∧ c = costW a e s (mkB x)) := ⟨hJ, h18, h8, h1, hB, d8, hys, hc⟩
  have A8 : Aside (W.heap[b8]? = some (.cells cur8 t8 (0, 0)) ∧ cur8.size = z8 ∧ cur8[0]? = some (.slice A xs.length cap) ∧ W.ownsRow B 9 1 (.slice A xs.length cap) xs.length (strL xs) ∧ (A = none → nl) ∧ (∀ k, (Value.slice A xs.length cap).ownBlock = some k → k = b1 ∨ w1.heap.size + 4 ≤ k)) := ⟨hc8, hz8, he8, hrow, hnl, hg⟩
  rw [← hys]
  have mixed : Try.prog.follows .mixedOrders = true := by kernel_rfl
  clear hJ h3 h5 h8 h1 h18 hB hx0 hx1 hx2 hx5 hS hR hcell hc8 hz8 he8 hrow hnl hg d8 h hw hys hc hcon g0 g1 g2 g5 g8
  by_cases h20 : (xs.length : Int) < 20
  · by_cases hlim : c ≤ lim
    · go_enter Try.func102, Try.ntmps102
      go_wp2
      refine wp_region_quiet_below (by assumption) (by kernel_rfl) ?_
      repeat (quiet_step (exact cE _ _))
      refine wpQuiet_nil ?_
      intro _ hw'
      obtain ⟨⟨dq, osq⟩, hw''⟩ := hw'
      subst hw''
      have m8 := k8 dq osq
      have hbel := below_regrown W dq osq
      clear cE k0 k1 k2 k5 k8
      generalize grow (redrawn W dq) osq = W' at m8 hbel ⊢
      have AB : Aside (Below W.heap.size W W' ∧ W'.ownsRow B 9 1 (.slice A xs.length cap) xs.length (strL xs)) := ⟨hbel, by
        obtain ⟨_, _, _, ⟨q1, q2⟩, _⟩ := A8.out
        refine ⟨q1, ?_⟩
        rcases q2 with q2 | ⟨g', cap', cur, e1, e2, e3, e4⟩
        · exact .inl q2
        · exact .inr ⟨g', cap', cur, e1, e2, (hbel.block g' (block_lt e3)).trans e3, e4⟩⟩
      clear hbel
      go_wp2_with (first
        | (at_builtin; refine wpList_append_own_at _ rfl _ _ 22 rfl B 9 Try.t9 (.string ⟨#[]⟩) 1 16 Try.underlying22 (by kernel_rfl) rfl rfl rfl rfl (by decide) _ xs.length (strL xs) rfl ((AB.out.2).alloc _) ⟨W'.heap.size, 0, none⟩ 1 1 [.string (mkB x)] rfl rfl (cell_one_new _ _ _) ?c2 ?c3 ?c4 ?c5 ?_)
        | fail)
      case c2 => intro u hu; simp at hu; subst hu; rfl
      case c3 => unfold maxLen; omega
      case c4 => omega
      case c5 =>
        obtain ⟨hJ, _, _, d1, hB, _⟩ := AA.out
        have h1 := hJ.size
        have h2 := AB.out.1.size
        simp; omega
      intro v' w2 hown' hgrow _ hat
      obtain ⟨g', cap', hv'⟩ : ∃ g' cap', v' = .slice (some ⟨g', 0, none⟩) (xs.length + 1) cap' := by
        rcases hown'.2 with ⟨_, h0⟩ | ⟨g', cap', _, h0, _⟩
        · omega
        · exact ⟨g', cap', h0⟩
      subst hv'
      have hc8 : w2.heap[b8]? = some (.cells cur8 t8 (0, 0)) := by
        obtain ⟨hJ, h18, q8, _, _, d8, _⟩ := AA.out
        obtain ⟨hc8, _, _, _, _, hg⟩ := A8.out
        have := AB.out.1.size
        rw [hgrow.block b8 (by simp; omega) (fun e => by
          have := hg b8 e.symm
          omega), heap_alloc_old _ _ (by omega), AB.out.1.block b8 d8]
        exact hc8
      obtain ⟨W3, hst, o1, o2, o3, o4, o5, o6⟩ := store_cur (P := Try.prog) (.slice (some ⟨g', 0, none⟩) (xs.length + 1) cap') rfl hc8 A8.out.2.2.1
      have B1 : Aside (W3.os = w2.os ∧ W3.tape = w2.tape ∧ W3.output = w2.output ∧ W3.heap.size = w2.heap.size ∧ (∀ k, k ≠ b8 → W3.heap[k]? = w2.heap[k]?) ∧ W3.heap[b8]? = some (.cells (cur8.set! 0 (.slice (some ⟨g', 0, none⟩) (xs.length + 1) cap')) t8 (0, 0))) := ⟨o1, o2, o3, o4, o5, o6⟩
      have B2 : Aside (w2.ownsRow B 9 1 (.slice (some ⟨g', 0, none⟩) (xs.length + 1) cap') (xs.length + 1) (strL xs ++ [.string (mkB x)]) ∧ (∀ k, k < W'.heap.size → (Value.slice A xs.length cap).ownBlock ≠ some k → w2.heap[k]? = W'.heap[k]?) ∧ ((Value.slice A xs.length cap).ownBlock = some g' ∨ g' = W'.heap.size + 1) ∧ w2.os = W'.os ∧ w2.tape = W'.tape ∧ w2.output = W'.output ∧ W'.heap.size ≤ w2.heap.size) := by
        refine ⟨hown', fun k hk hne => ?_, ?_, hgrow.os, hgrow.tape, hgrow.output, ?_⟩
        · rw [hgrow.block k (by simp; omega) (fun e => hne e.symm), heap_alloc_old _ _ hk]
        · rcases hat with hat | hat
          · exact .inl (by rw [← hat]; rfl)
          · exact .inr (by simpa [Value.ownBlock] using hat)
        · have := hgrow.size; simp at this; omega
      have hf8 : w2.frozen? ⟨b8, 0, none⟩ = false := by unfold World.frozen?; rw [hc8]; rfl
      have hk8 : w2.cell? ⟨b8, 0, none⟩ = some (.slice A xs.length cap) := cell_of_blk hc8 A8.out.2.2.1
      have e3 : w2.setCell ⟨b8, 0, none⟩ (.slice (some ⟨g', 0, none⟩) (xs.length + 1) cap') = W3 := by
        have := hst
        rw [run_store _ _ _ _ _ rfl, hk8] at this
        simp only [hf8, Bool.false_eq_true, if_false] at this
        injection this
      have E3 : Aside (w2.setCell ⟨b8, 0, none⟩ (.slice (some ⟨g', 0, none⟩) (xs.length + 1) cap') = W3) := e3
      clear hown' hgrow hat hc8 hst o1 o2 o3 o4 o5 o6 e3
      go_wp2
      rw [E3.out]
      go_end0
      obtain ⟨hJ, h18, q8, q1, hB, d8, hys, hc⟩ := AA.out
      obtain ⟨hc8, hz8, he8, hrow, hnl, hg⟩ := A8.out
      obtain ⟨o1, o2, o3, o4, o5, o6⟩ := B1.out
      obtain ⟨p1, p2, p3, p4, p5, p6, p7⟩ := B2.out
      obtain ⟨hbel, _⟩ := AB.out
      have hs1 := hJ.size
      have hs2 := hbel.size
      have hgg : g' = b1 ∨ w1.heap.size + 4 ≤ g' := by
        rcases p3 with p3 | p3
        · exact hg g' p3
        · exact .inr (by omega)
      have hnb : ∀ k, k ≠ b1 → k < w1.heap.size + 4 → (Value.slice A xs.length cap).ownBlock ≠ some k := fun k q1 q2 e => by have := hg k e; omega
      have hyx : ys = xs ++ [x] := by rw [hys]; unfold cheapStep; rw [if_pos ⟨by omega, by rw [← hc]; exact hlim⟩]
      refine ⟨rfl, ⟨by rw [o1, p4, hbel.os, hJ.os], by rw [o2, p5, hbel.tape, hJ.tape], by rw [o3, p6, hbel.output, hJ.output], by omega, fun k hk e8 e1 => ?_, ?_⟩, fun b hb1 hb2 => ?_⟩
      · rw [o5 k e8, p2 k (by omega) (hnb k e1 (by omega)), hbel.block k (by omega)]; exact hJ.oth k hk e8 e1
      · have hl : (xs ++ [x]).length = xs.length + 1 := by simp
        have hst : strL (xs ++ [x]) = strL xs ++ [.string (mkB x)] := by simp [strL]
        rw [hyx, hl, hst]
        refine ⟨some ⟨g', 0, none⟩, cap', _, o6, by simp [hz8], ?_, ⟨p1.1, ?_⟩, (fun h => by cases h), fun k hk => by
          have : g' = k := by simpa [Value.ownBlock] using hk
          omega⟩
        · have : 0 < cur8.size := by
            rcases Nat.eq_zero_or_pos cur8.size with h1 | h1
            · rw [Array.getElem?_eq_none (by omega)] at he8; cases he8
            · exact h1
          simp [this]
        · rcases p1.2 with q | ⟨g2, cap2, cur2, r1, r2, r3, r4⟩
          · exact .inl q
          · have : g2 ≠ b8 := by injection r1 with r1; injection r1 with r1; injection r1 with r1; omega
            exact .inr ⟨g2, cap2, cur2, r1, r2, (o5 g2 this).trans r3, r4⟩
      · rw [o5 b (by omega), p2 b (by omega) (hnb b (by omega) (by omega)), hbel.block b (by omega)]
    · go_enter Try.func102, Try.ntmps102
      go_wp2
      refine wp_region_quiet_below (by assumption) (by kernel_rfl) ?_
      repeat (quiet_step (exact cE _ _))
      refine wpQuiet_nil ?_
      intro _ hw'
      obtain ⟨⟨dq, osq⟩, hw''⟩ := hw'
      subst hw''
      have hbel := below_regrown W dq osq
      clear cE k0 k1 k2 k5 k8
      generalize grow (redrawn W dq) osq = W' at hbel ⊢
      have AB : Aside (Below W.heap.size W W') := hbel
      clear hbel
      go_wp2
      go_end0
      obtain ⟨hJ, _, _, _, _, _, hys, hc⟩ := AA.out
      have hyx : ys = xs := by rw [hys]; unfold cheapStep; rw [if_neg (fun h => by have := h.2; omega)]
      rw [hyx]
      exact ⟨rfl, hJ.after AB.out⟩
  · have hd : decide ((xs.length : Int) < 20) = false := by simpa using h20
    go_enter Try.func102, Try.ntmps102
    go_wp2
    refine wp_region_quiet_below (by assumption) (by kernel_rfl) ?_
    repeat (quiet_step (exact cE _ _))
    refine wpQuiet_nil ?_
    intro _ hw'
    obtain ⟨⟨dq, osq⟩, hw''⟩ := hw'
    subst hw''
    have hbel := below_regrown W dq osq
    clear cE k0 k1 k2 k5 k8
    generalize grow (redrawn W dq) osq = W' at hbel ⊢
    have AB : Aside (Below W.heap.size W W') := hbel
    clear hbel
    go_wp2
    go_end0
    obtain ⟨hJ, _, _, _, _, _, hys, hc⟩ := AA.out
    have hyx : ys = xs := by rw [hys]; unfold cheapStep; rw [if_neg (fun h => by have := h.1; omega)]
    rw [hyx]
    exact ⟨rfl, hJ.after AB.out⟩
end Go.Proofs.Ytpolbgenoicckaa
