/- The visit of CheapWords: keeps the first words within a cost. No conditions. -/
import Derived.Test.YtpimjkhfookipaaLeast1
import Derived.Lib.QuietBelow
import Derived.BigQuiet
import Derived.Test.YtpimjkhfookipaaFnLw
namespace Go.Proofs.Ytpimjkhfookipaa
open Go.RowKit Go.Proofs Go.Sort
set_option linter.unusedSimpArgs false
set_option linter.unusedVariables false

abbrev strL (xs : List (List UInt8)) : List Value := xs.map fun x => .string (mkB x)

/-- What lies in memory while CheapWords' words are visited. -/
structure CwJ (w1 : World) (nl : Prop) (B b1 b8 : Nat) (t8 : TypeId) (z8 : Nat) (xs : List (List UInt8)) (W : World) : Prop where
  os : W.os = w1.os
  tape : W.tape = w1.tape
  output : W.output = w1.output
  size : w1.heap.size + 4 ≤ W.heap.size
  oth : ∀ k, k < w1.heap.size → k ≠ b8 → k ≠ b1 → W.heap[k]? = w1.heap[k]?
  row : ∃ A cap cur8, W.heap[b8]? = some (.cells cur8 t8 (0, 0)) ∧ cur8.size = z8 ∧ cur8[0]? = some (.slice A xs.length cap) ∧
    W.ownsRow B 9 1 (.slice A xs.length cap) xs.length (strL xs) ∧ (A = none → nl) ∧ ∀ k, (Value.slice A xs.length cap).ownBlock = some k → k = b1 ∨ w1.heap.size + 4 ≤ k

theorem CwJ.after {w1 W W' : World} {nl : Prop} {B b1 b8 : Nat} {t8 : TypeId} {z8 : Nat} {xs : List (List UInt8)} (h : CwJ w1 nl B b1 b8 t8 z8 xs W) (hb : Below W.heap.size W W') : CwJ w1 nl B b1 b8 t8 z8 xs W' ∧ Four w1.heap.size W W' := by
  have hs := h.size
  have hs2 := hb.size
  obtain ⟨A, cap, cur8, q1, q2, q3, ⟨q4, q5⟩, q6, q7⟩ := h.row
  refine ⟨⟨by rw [hb.os, h.os], by rw [hb.tape, h.tape], by rw [hb.output, h.output], by omega, fun k hk e1 e2 => by rw [hb.block k (by omega)]; exact h.oth k hk e1 e2, A, cap, cur8, (hb.block b8 (block_lt q1)).trans q1, q2, q3, ⟨q4, ?_⟩, q6, q7⟩, fun b h1 h2 => hb.block b (by omega)⟩
  rcases q5 with q | ⟨g2, cap2, cur2, r1, r2, r3, r4⟩
  · exact .inl q
  · exact .inr ⟨g2, cap2, cur2, r1, r2, (hb.block g2 (block_lt r3)).trans r3, r4⟩

def cheapStep (a e : List Int) (s : List (List (List Int))) (lim : Int) (l : List (List UInt8)) (x : List UInt8) : List (List UInt8) :=
  if l.length < 20 ∧ costW a e s (mkB x) ≤ lim then l ++ [x] else l

set_option maxHeartbeats 4000000 in
set_option maxRecDepth 1000000 in
theorem cheap1_run (a e : List Int) (s : List (List (List Int))) (lim : Int) (x : List UInt8) (h : autB a e s = true) (hw : wordB s.length (mkB x) = true)
    (w1 W : World) (S : Nat → Prop) (nl : Prop) (B b1 b8 b3 b5 : Nat) (t8 : TypeId) (z8 : Nat) (xs : List (List UInt8)) (x0 x1 x2 : Value) (h3 : b3 < w1.heap.size ∧ b3 ≠ b8 ∧ b3 ≠ b1) (h5 : b5 < w1.heap.size ∧ b5 ≠ b8 ∧ b5 ≠ b1) (h8 : b8 < w1.heap.size) (h1 : b1 < w1.heap.size ∨ w1.heap.size + 4 ≤ b1) (h18 : b8 ≠ b1) (hB : B ≤ w1.heap.size)
    (hx0 : w1.cell? ⟨b3, 0, none⟩ = some x0) (hx1 : w1.cell? ⟨b3, 1, none⟩ = some x1) (hx2 : w1.cell? ⟨b3, 2, none⟩ = some x2) (hx5 : w1.cell? ⟨b5, 0, none⟩ = some (.int .i64 lim)) (hS : ∀ b, S b → b ≠ b8 ∧ b ≠ b1) (hR : Rd w1 S (autV a e s) (.agg #[x0, x1, x2])) (hJ : CwJ w1 nl B b1 b8 t8 z8 xs W) :
    Calls Try.prog 119 #[.string (mkB x), ptB b8, ptB b3, ptB b5] W fun e' w' => e' = .returned (.tuple #[]) ∧
      CwJ w1 nl B b1 b8 t8 z8 (cheapStep a e s lim xs x) w' ∧ Four w1.heap.size W w' := by
  obtain ⟨A, cap, cur8, hc8, hz8, he8, hrow, hnl, hg⟩ := hJ.row
  have hcell : ∀ b i, b < w1.heap.size → b ≠ b8 → b ≠ b1 → W.cell? ⟨b, i, none⟩ = w1.cell? ⟨b, i, none⟩ := fun b i q1 q2 q3 => World.cell?_of_block (w := w1) (a := ⟨b, i, none⟩) (hJ.oth b q1 q2 q3)
  have g0 : W.cell? ⟨b3, 0, none⟩ = some x0 := by rw [hcell _ _ h3.1 h3.2.1 h3.2.2]; exact hx0
  have g1 : W.cell? ⟨b3, 1, none⟩ = some x1 := by rw [hcell _ _ h3.1 h3.2.1 h3.2.2]; exact hx1
  have g2 : W.cell? ⟨b3, 2, none⟩ = some x2 := by rw [hcell _ _ h3.1 h3.2.1 h3.2.2]; exact hx2
  have g5 : W.cell? ⟨b5, 0, none⟩ = some (.int .i64 lim) := by rw [hcell _ _ h5.1 h5.2.1 h5.2.2]; exact hx5
  have g8 : W.cell? ⟨b8, 0, none⟩ = some (.slice A xs.length cap) := cell_of_blk hc8 he8
  have k0 := cell_regrown g0
  have k1 := cell_regrown g1
  have k2 := cell_regrown g2
  have k5 := cell_regrown g5
  have k8 := cell_regrown g8
  obtain ⟨c, hc⟩ : ∃ c, c = costW a e s (mkB x) := ⟨_, rfl⟩
  have hcon : ∀ V, Below W.heap.size W V → Calls Try.prog 102 #[.agg #[x0, x1, x2], .string (mkB x)] V fun e' w' => e' = .returned (.int .i64 c) ∧ Below V.heap.size V w' := fun V hV => by
    rw [hc]
    refine ((cost_fn a e s (mkB x) h hw).runs V S [.agg #[x0, x1, x2], .string (mkB x)] ⟨Rd.mono (fun b hb hlt => ⟨hb, ?_⟩) _ _ hR, rfl, trivial⟩).mono ?_
    · rw [hV.block b (by have := hJ.size; omega)]; exact hJ.oth b hlt (hS b hb).1 (hS b hb).2
    · rintro e' w' ⟨u, φ, rfl, hh, hr⟩
      have hu : u = .int .i64 (costW a e s (mkB x)) := hr
      exact ⟨by rw [hu], hh.below⟩
  have cE : ∀ d os, Calls Try.prog 102 #[.agg #[x0, x1, x2], .string (mkB x)] (grow (redrawn W d) os) fun e w'' => e = .returned (.int .i64 c) ∧ ∃ p : Regrown, w'' = grow (redrawn W p.d) p.os := fun d os => Calls.regrown_of (hcon _ (below_regrown W d os))
  obtain ⟨ys, hys⟩ : ∃ ys, ys = cheapStep a e s lim xs x := ⟨_, rfl⟩
  have d8 := block_lt hc8
  have AA : Aside (CwJ w1 nl B b1 b8 t8 z8 xs W ∧ b8 ≠ b1 ∧ b8 < w1.heap.size ∧ (b1 < w1.heap.size ∨ w1.heap.size + 4 ≤ b1) ∧ B ≤ w1.heap.size ∧ b8 < W.heap.size ∧ ys = cheapStep a e s lim xs x ∧ c = costW a e s (mkB x)) := ⟨hJ, h18, h8, h1, hB, d8, hys, hc⟩
  have A8 : Aside (W.heap[b8]? = some (.cells cur8 t8 (0, 0)) ∧ cur8.size = z8 ∧ cur8[0]? = some (.slice A xs.length cap) ∧ W.ownsRow B 9 1 (.slice A xs.length cap) xs.length (strL xs) ∧ (A = none → nl) ∧ (∀ k, (Value.slice A xs.length cap).ownBlock = some k → k = b1 ∨ w1.heap.size + 4 ≤ k)) := ⟨hc8, hz8, he8, hrow, hnl, hg⟩
  rw [← hys]
  have mixed : Try.prog.follows .mixedOrders = true := by kernel_rfl
  clear hJ h3 h5 h8 h1 h18 hB hx0 hx1 hx2 hx5 hS hR hcell hc8 hz8 he8 hrow hnl hg d8 h hw hys hc hcon g0 g1 g2 g5 g8
  by_cases h20 : (xs.length : Int) < 20
  · by_cases hlim : c ≤ lim
    · go_enter Try.func119, Try.ntmps119
      go_wp2
      refine wp_region_quiet_below (by assumption) (by kernel_rfl) ?_
      repeat (quiet_step (exact cE _ _))
      refine wpQuiet_nil ?_
      intro _ hw'
      obtain ⟨⟨dq, osq⟩, hw''⟩ := hw'
      subst hw''
      have m8 := k8 dq osq
      have hbel := below_regrown W dq osq
      clear cE k0 k1 k2 k5 k8
      generalize grow (redrawn W dq) osq = W' at m8 hbel ⊢
      have AB : Aside (Below W.heap.size W W' ∧ W'.ownsRow B 9 1 (.slice A xs.length cap) xs.length (strL xs)) := ⟨hbel, by
        obtain ⟨_, _, _, ⟨q1, q2⟩, _⟩ := A8.out
        refine ⟨q1, ?_⟩
        rcases q2 with q2 | ⟨g', cap', cur, e1, e2, e3, e4⟩
        · exact .inl q2
        · exact .inr ⟨g', cap', cur, e1, e2, (hbel.block g' (block_lt e3)).trans e3, e4⟩⟩
      clear hbel
      go_wp2_with (first
        | (at_builtin; refine wpList_append_own_at _ rfl _ _ 22 rfl B 9 Try.t9 (.string ⟨#[]⟩) 1 16 Try.underlying22 (by kernel_rfl) rfl rfl rfl rfl (by decide) _ xs.length (strL xs) rfl ((AB.out.2).alloc _) ⟨W'.heap.size, 0, none⟩ 1 1 [.string (mkB x)] rfl rfl (cell_one_new _ _ _) ?c2 ?c3 ?c4 ?c5 ?_)
        | fail)
      case c2 => intro u hu; simp at hu; subst hu; rfl
      case c3 => unfold maxLen; omega
      case c4 => omega
      case c5 =>
        obtain ⟨hJ, _, _, d1, hB, _⟩ := AA.out
        have h1 := hJ.size
        have h2 := AB.out.1.size
        simp; omega
      intro v' w2 hown' hgrow _ hat
      obtain ⟨g', cap', hv'⟩ : ∃ g' cap', v' = .slice (some ⟨g', 0, none⟩) (xs.length + 1) cap' := by
        rcases hown'.2 with ⟨_, h0⟩ | ⟨g', cap', _, h0, _⟩
        · omega
        · exact ⟨g', cap', h0⟩
      subst hv'
      have hc8 : w2.heap[b8]? = some (.cells cur8 t8 (0, 0)) := by
        obtain ⟨hJ, h18, q8, _, _, d8, _⟩ := AA.out
        obtain ⟨hc8, _, _, _, _, hg⟩ := A8.out
        have := AB.out.1.size
        rw [hgrow.block b8 (by simp; omega) (fun e => by
          have := hg b8 e.symm
          omega), heap_alloc_old _ _ (by omega), AB.out.1.block b8 d8]
        exact hc8
      obtain ⟨W3, hst, o1, o2, o3, o4, o5, o6⟩ := store_cur (P := Try.prog) (.slice (some ⟨g', 0, none⟩) (xs.length + 1) cap') rfl hc8 A8.out.2.2.1
      have B1 : Aside (W3.os = w2.os ∧ W3.tape = w2.tape ∧ W3.output = w2.output ∧ W3.heap.size = w2.heap.size ∧ (∀ k, k ≠ b8 → W3.heap[k]? = w2.heap[k]?) ∧ W3.heap[b8]? = some (.cells (cur8.set! 0 (.slice (some ⟨g', 0, none⟩) (xs.length + 1) cap')) t8 (0, 0))) := ⟨o1, o2, o3, o4, o5, o6⟩
      have B2 : Aside (w2.ownsRow B 9 1 (.slice (some ⟨g', 0, none⟩) (xs.length + 1) cap') (xs.length + 1) (strL xs ++ [.string (mkB x)]) ∧ (∀ k, k < W'.heap.size → (Value.slice A xs.length cap).ownBlock ≠ some k → w2.heap[k]? = W'.heap[k]?) ∧ ((Value.slice A xs.length cap).ownBlock = some g' ∨ g' = W'.heap.size + 1) ∧ w2.os = W'.os ∧ w2.tape = W'.tape ∧ w2.output = W'.output ∧ W'.heap.size ≤ w2.heap.size) := by
        refine ⟨hown', fun k hk hne => ?_, ?_, hgrow.os, hgrow.tape, hgrow.output, ?_⟩
        · rw [hgrow.block k (by simp; omega) (fun e => hne e.symm), heap_alloc_old _ _ hk]
        · rcases hat with hat | hat
          · exact .inl (by rw [← hat]; rfl)
          · exact .inr (by simpa [Value.ownBlock] using hat)
        · have := hgrow.size; simp at this; omega
      have hf8 : w2.frozen? ⟨b8, 0, none⟩ = false := by unfold World.frozen?; rw [hc8]; rfl
      have hk8 : w2.cell? ⟨b8, 0, none⟩ = some (.slice A xs.length cap) := cell_of_blk hc8 A8.out.2.2.1
      have e3 : w2.setCell ⟨b8, 0, none⟩ (.slice (some ⟨g', 0, none⟩) (xs.length + 1) cap') = W3 := by
        have := hst
        rw [run_store _ _ _ _ _ rfl, hk8] at this
        simp only [hf8, Bool.false_eq_true, if_false] at this
        injection this
      have E3 : Aside (w2.setCell ⟨b8, 0, none⟩ (.slice (some ⟨g', 0, none⟩) (xs.length + 1) cap') = W3) := e3
      clear hown' hgrow hat hc8 hst o1 o2 o3 o4 o5 o6 e3
      go_wp2
      rw [E3.out]
      go_end0
      obtain ⟨hJ, h18, q8, q1, hB, d8, hys, hc⟩ := AA.out
      obtain ⟨hc8, hz8, he8, hrow, hnl, hg⟩ := A8.out
      obtain ⟨o1, o2, o3, o4, o5, o6⟩ := B1.out
      obtain ⟨p1, p2, p3, p4, p5, p6, p7⟩ := B2.out
      obtain ⟨hbel, _⟩ := AB.out
      have hs1 := hJ.size
      have hs2 := hbel.size
      have hgg : g' = b1 ∨ w1.heap.size + 4 ≤ g' := by
        rcases p3 with p3 | p3
        · exact hg g' p3
        · exact .inr (by omega)
      have hnb : ∀ k, k ≠ b1 → k < w1.heap.size + 4 → (Value.slice A xs.length cap).ownBlock ≠ some k := fun k q1 q2 e => by have := hg k e; omega
      have hyx : ys = xs ++ [x] := by rw [hys]; unfold cheapStep; rw [if_pos ⟨by omega, by rw [← hc]; exact hlim⟩]
      refine ⟨rfl, ⟨by rw [o1, p4, hbel.os, hJ.os], by rw [o2, p5, hbel.tape, hJ.tape], by rw [o3, p6, hbel.output, hJ.output], by omega, fun k hk e8 e1 => ?_, ?_⟩, fun b hb1 hb2 => ?_⟩
      · rw [o5 k e8, p2 k (by omega) (hnb k e1 (by omega)), hbel.block k (by omega)]; exact hJ.oth k hk e8 e1
      · have hl : (xs ++ [x]).length = xs.length + 1 := by simp
        have hst : strL (xs ++ [x]) = strL xs ++ [.string (mkB x)] := by simp [strL]
        rw [hyx, hl, hst]
        refine ⟨some ⟨g', 0, none⟩, cap', _, o6, by simp [hz8], ?_, ⟨p1.1, ?_⟩, (fun h => by cases h), fun k hk => by
          have : g' = k := by simpa [Value.ownBlock] using hk
          omega⟩
        · have : 0 < cur8.size := by
            rcases Nat.eq_zero_or_pos cur8.size with h1 | h1
            · rw [Array.getElem?_eq_none (by omega)] at he8; cases he8
            · exact h1
          simp [this]
        · rcases p1.2 with q | ⟨g2, cap2, cur2, r1, r2, r3, r4⟩
          · exact .inl q
          · have : g2 ≠ b8 := by injection r1 with r1; injection r1 with r1; injection r1 with r1; omega
            exact .inr ⟨g2, cap2, cur2, r1, r2, (o5 g2 this).trans r3, r4⟩
      · rw [o5 b (by omega), p2 b (by omega) (hnb b (by omega) (by omega)), hbel.block b (by omega)]
    · go_enter Try.func119, Try.ntmps119
      go_wp2
      refine wp_region_quiet_below (by assumption) (by kernel_rfl) ?_
      repeat (quiet_step (exact cE _ _))
      refine wpQuiet_nil ?_
      intro _ hw'
      obtain ⟨⟨dq, osq⟩, hw''⟩ := hw'
      subst hw''
      have hbel := below_regrown W dq osq
      clear cE k0 k1 k2 k5 k8
      generalize grow (redrawn W dq) osq = W' at hbel ⊢
      have AB : Aside (Below W.heap.size W W') := hbel
      clear hbel
      go_wp2
      go_end0
      obtain ⟨hJ, _, _, _, _, _, hys, hc⟩ := AA.out
      have hyx : ys = xs := by rw [hys]; unfold cheapStep; rw [if_neg (fun h => by have := h.2; omega)]
      rw [hyx]
      exact ⟨rfl, hJ.after AB.out⟩
  · have hd : decide ((xs.length : Int) < 20) = false := by simpa using h20
    go_enter Try.func119, Try.ntmps119
    go_wp2
    refine wp_region_quiet_below (by assumption) (by kernel_rfl) ?_
    repeat (quiet_step (exact cE _ _))
    refine wpQuiet_nil ?_
    intro _ hw'
    obtain ⟨⟨dq, osq⟩, hw''⟩ := hw'
    subst hw''
    have hbel := below_regrown W dq osq
    clear cE k0 k1 k2 k5 k8
    generalize grow (redrawn W dq) osq = W' at hbel ⊢
    have AB : Aside (Below W.heap.size W W') := hbel
    clear hbel
    go_wp2
    go_end0
    obtain ⟨hJ, _, _, _, _, _, hys, hc⟩ := AA.out
    have hyx : ys = xs := by rw [hys]; unfold cheapStep; rw [if_neg (fun h => by have := h.1; omega)]
    rw [hyx]
    exact ⟨rfl, hJ.after AB.out⟩

open Go.RowKit Go.Proofs
set_option linter.unusedSimpArgs false
set_option linter.unusedVariables false

/-- The first words within a cost, 20 at most. -/
def cheapL (a e : List Int) (s : List (List (List Int))) (lim : Int) (l : List (List UInt8)) : List (List UInt8) := l.foldl (cheapStep a e s lim) []
theorem cheapL_snoc (a e : List Int) (s : List (List (List Int))) (lim : Int) (l : List (List UInt8)) (x : List UInt8) : cheapL a e s lim (l ++ [x]) = cheapStep a e s lim (cheapL a e s lim l) x := by
  unfold cheapL; rw [List.foldl_append]; rfl

section
variable {P : Program} {w0 : World} {S0 : Nat → Prop} {s : ASt} {φ : List (Option (Nat × Nat))} {a : Act} {w : World}

/-- Behind many appends: the old slice is gone, the new one is there. -/
theorem SimAt.grown_far (sim : SimAt w0 S0 s φ a w) {id sz n m : Nat} {blk : Blk} {u v' : Value} {w' : World} {g : Nat → V} {xs news : List Value}
    (hi : s.h[id]? = some (some blk)) (hu : RdS w (Stab w0 S0 s.h φ) φ (.own id sz 0 n) u)
    (hxs : xs.length = n * sz) (hx : ∀ i, i < n * sz → ∃ x, xs[i]? = some x ∧ Rd w (Stab w0 S0 s.h φ) (blk.f i) x)
    (hnews : ∀ i, i < m * sz → ∃ x, news[i]? = some x ∧ Rd w (Stab w0 S0 s.h φ) (g i) x)
    (hown : w'.ownsRow w0.heap.size blk.elem sz v' (n + m) (xs ++ news)) (hgrow : w.grownBy w' u.ownBlock) (hwhere : v'.ownBlock = u.ownBlock ∨ ∃ k, v'.ownBlock = some k ∧ w.heap.size ≤ k) :
    SimAt w0 S0 { s with h := s.h.set id none ++ [some ⟨blk.elem, (n + m) * sz, fun i => if i < n * sz then blk.f i else g (i - n * sz)⟩] } (φ ++ [placeOf w' v']) a w' ∧
      RdS w' (Stab w0 S0 (s.h.set id none ++ [some ⟨blk.elem, (n + m) * sz, fun i => if i < n * sz then blk.f i else g (i - n * sz)⟩]) (φ ++ [placeOf w' v'])) (φ ++ [placeOf w' v']) (.own s.h.length sz 0 (n + m)) v' := by
  rcases hwhere with hh | ⟨k, hk, hle⟩
  · exact sim.grown hi hu hxs hx hnews hown hgrow (.inl hh)
  · have hkw : k < w'.heap.size := by
      rcases hown.2 with ⟨rfl, _⟩ | ⟨g', _, _, rfl, _, q, _⟩
      · cases hk
      · have : g' = k := by simpa [Value.ownBlock] using hk
        rw [← this]; exact block_lt q
    obtain ⟨wx, hwx⟩ : ∃ wx : World, wx = { w with heap := w.heap ++ w'.heap.extract w.heap.size k } := ⟨_, rfl⟩
    have e1 : wx.heap.size = k := by rw [hwx]; simp; omega
    have e2 : ∀ j, j < w.heap.size → wx.heap[j]? = w.heap[j]? := fun j hj => by rw [hwx]; exact Array.getElem?_append_left hj
    have e3 : ∀ j, w.heap.size ≤ j → j < k → w'.heap[j]? = wx.heap[j]? := fun j h1 h2 => by
      rw [hwx]; show _ = (w.heap ++ w'.heap.extract w.heap.size k)[j]?
      rw [Array.getElem?_append_right h1, Array.getElem?_extract, if_pos (by omega)]; congr 1; omega
    have hb : Below w.heap.size w wx := ⟨by rw [hwx], by rw [hwx], by rw [hwx], by omega, e2⟩
    have hst : ∀ j, Stab w0 S0 s.h φ j → j < w.heap.size → Stab w0 S0 s.h φ j ∧ wx.heap[j]? = w.heap[j]? := fun j h1 h2 => ⟨h1, e2 j h2⟩
    have hs := sim.after hb
    refine hs.grown hi (RdS.mono hst (fun _ _ h => h) _ _ hu) hxs (fun i h => ?_) (fun i h => ?_) hown ⟨by rw [hwx]; exact hgrow.os, by rw [hwx]; exact hgrow.tape, by rw [hwx]; exact hgrow.output, by omega, fun j h1 h2 => ?_⟩ (.inr (by rw [e1]; exact hk))
    · obtain ⟨y, hy, hr⟩ := hx i h; exact ⟨y, hy, Rd.mono hst _ _ hr⟩
    · obtain ⟨y, hy, hr⟩ := hnews i h; exact ⟨y, hy, Rd.mono hst _ _ hr⟩
    · by_cases hj : j < w.heap.size
      · rw [hgrow.block j hj h2, e2 j hj]
      · exact e3 j (by omega) (by omega)
end

/-- What stands behind the visit of all words. -/
def cheapK (s : ASt) (K : ASt → Prop) : Prop :=
  ∃ (i3 i5 i1 i8 : Nat) (T3 T5 T8 : TypeId) (a e : List Int) (S : List (List (List Int))) (n1 n5 n8 : Nat) (f1 f5 f8 : Nat → V) (len : Nat) (lim : Int),
    (lookup s.σ 3 = some (.one (.ptr i3 0)) ∧ lookup s.σ 5 = some (.one (.ptr i5 0)) ∧ lookup s.σ 8 = some (.one (.ptr i8 0)) ∧ lookup s.σ 22 = some (.one (.own i1 1 0 0)) ∧ lookup s.σ 1 = some (sc (.int .i64 len))) ∧
    s.h[i3]? = some (some ⟨T3, 3, autF a e S⟩) ∧ s.h[i5]? = some (some ⟨T5, n5 + 1, f5⟩) ∧ s.h[i1]? = some (some ⟨9, n1, f1⟩) ∧ s.h[i8]? = some (some ⟨T8, n8 + 1, f8⟩) ∧
    f5 0 = vi lim ∧ (i3 ≠ i1 ∧ i3 ≠ i8 ∧ i5 ≠ i1 ∧ i5 ≠ i8 ∧ i1 ≠ i8) ∧ s.nt = 28 ∧ autB a e S = true ∧ len ≤ 6 ∧
    K ⟨upd (upd (del (del (del (del (del s.σ 23) 24) 25) 26) 27) 6 (.one (.own s.h.length 1 0 (0 + (cheapL a e S lim (wordsL S.length len)).length)))) 7 (sc (.bool true)),
      (((s.h.set i8 (some ⟨T8, 0, fun _ => .val undef⟩)).set i1 none ++ [some (⟨9, (0 + (cheapL a e S lim (wordsL S.length len)).length) * 1, fun i => if i < 0 * 1 then f1 i else wdF (cheapL a e S lim (wordsL S.length len)) (i - 0 * 1)⟩ : Blk)]).set i8 (some ⟨T8, 0, fun _ => .val undef⟩)), s.nt⟩

theorem c_strsl : cellsIn Try.prog 22 = some none := by kernel_rfl
theorem c_autl : cellsIn Try.prog 37 = some (some 3) := by kernel_rfl

set_option maxHeartbeats 1000000 in
set_option maxRecDepth 100000 in
theorem AWP.region_cheap [Cx] {N j3 j4 j5 : Nat} {o1 o2 : Oper} {y1 y2 y3 y4 y5 y6 y7 y8 : Nat} {p1 p2 p3 p4 p5 p6 p7 p8 : String} {e1 e2 e3 e4 e5 e6 e7 e8 : Array Edge} {ts : Array TypeId} {Y : Code} {Q : Exit → ASt → Prop} {s : ASt}
    (h : evOps Try.prog false [o1, o2, ⟨none, .store 22 (.tmp 8) (.tmp 22), y1, p1, e1, none⟩] [o1, o2] (fun s' => cheapK s' (fun s'' => AWP N Try.prog Y Q s'')) s) :
    AWP N Try.prog (.seq (.region j3 #[o1, o2, ⟨none, .store 22 (.tmp 8) (.tmp 22), y1, p1, e1, none⟩] false)
      (.seq (.region j4 #[⟨some 23, .load 37 (.tmp 3), y2, p2, e2, none⟩, ⟨some 24, .move (.tmp 1), y3, p3, e3, none⟩, ⟨some 25, .makeFunc (.func 119) #[] #[.tmp 8, .tmp 3, .tmp 5], y4, p4, e4, none⟩, ⟨some 26, .call ⟨.value (.func 112), #[.tmp 23, .tmp 24, .tmp 25], ts⟩, y5, p5, e5, none⟩] false)
        (.seq (.region j5 #[⟨some 27, .load 22 (.tmp 8), y6, p6, e6, none⟩, ⟨some 6, .assign (.tmp 27), y7, p7, e7, none⟩, ⟨some 7, .assign (.const (.bool true)), y8, p8, e8, none⟩] false) Y))) Q s := by
  rintro wb S0 a0 w hNb ⟨w0, hRb, φ0, sim0⟩
  have hN := hRb.size.trans hNb
  refine wp_seq (wp_region_lit (evOps_then (tl := [⟨none, .store 22 (.tmp 8) (.tmp 22), y1, p1, e1, none⟩]) [o1, o2] sim0 h fun s1 a1 wA hK ⟨φ, simA⟩ => ?_))
  clear sim0 h φ0 a0 w
  obtain ⟨i3, i5, i1, i8, T3, T5, T8, a, e, S, n1, n5, n8, f1, f5, f8, len, lim, ⟨l3, l5, l8, l22, l1⟩, h3, h5, h1, h8, hf5, ⟨n31, n38, n51, n58, n18⟩, hnt, haut, hlen, hK⟩ := hK
  obtain ⟨u3, hu3, b3, z3, φ3, rfl⟩ := simA.slots 3 _ l3
  obtain ⟨u5, hu5, b5, z5, φ5, rfl⟩ := simA.slots 5 _ l5
  obtain ⟨u8, hu8, b8, z8, φ8, rfl⟩ := simA.slots 8 _ l8
  obtain ⟨v0, hv0, hr0⟩ := simA.slots 22 _ l22
  obtain ⟨u1, hu1, hr1⟩ := simA.slots 1 _ l1
  obtain rfl : u1 = .int .i64 len := hr1
  obtain ⟨cur3, hz3, hB3, hc3, hn3, hcell3⟩ := simA.blkAt h3 φ3
  obtain ⟨cur5, hz5, hB5, hc5, hn5, hcell5⟩ := simA.blkAt h5 φ5
  obtain ⟨cur8, hz8, hB8, hc8, hn8, hcell8⟩ := simA.blkAt h8 φ8
  have b38 : b3 ≠ b8 := fun e => by subst e; exact n38 (simA.heap.inj i3 i8 _ _ _ _ _ h3 h8 φ3 φ8)
  have b58 : b5 ≠ b8 := fun e => by subst e; exact n58 (simA.heap.inj i5 i8 _ _ _ _ _ h5 h8 φ5 φ8)
  obtain ⟨v8, hv8, hr8⟩ := hcell8 0 (Nat.succ_pos _)
  obtain ⟨v5, hv5, hr5⟩ := hcell5 0 (Nat.succ_pos _)
  rw [show (Blk.f ⟨T5, n5 + 1, f5⟩ 0) = f5 0 from rfl, hf5] at hr5
  obtain rfl : v5 = .int .i64 lim := hr5
  obtain ⟨y0, hy0, ry0⟩ := hcell3 0 (by show 0 < 3; omega)
  obtain ⟨yy1, hy1, ry1⟩ := hcell3 1 (by show 1 < 3; omega)
  obtain ⟨yy2, hy2, ry2⟩ := hcell3 2 (by show 2 < 3; omega)
  have hR : Rd wA (Stab w0 S0 s1.h φ) (autV a e S) (.agg #[y0, yy1, yy2]) := ⟨_, rfl, rfl, fun i hi => by
    rcases (show i = 0 ∨ i = 1 ∨ i = 2 by omega) with rfl | rfl | rfl
    · exact ⟨y0, rfl, ry0⟩
    · exact ⟨yy1, rfl, ry1⟩
    · exact ⟨yy2, rfl, ry2⟩⟩
  obtain ⟨A2, c2, hyy2, _, _⟩ := ry2
  have hSl := (autB_get haut).2.2.2.2.1
  have d3 := block_lt hc3
  have d5 := block_lt hc5
  have d8 := block_lt hc8
  have ev3 : a1.eval (.tmp 3) = ptB b3 := by simp [Act.eval, hu3]
  have ev5 : a1.eval (.tmp 5) = ptB b5 := by simp [Act.eval, hu5]
  have ev8 : a1.eval (.tmp 8) = ptB b8 := by simp [Act.eval, hu8]
  have ev22 : a1.eval (.tmp 22) = v0 := by simp [Act.eval, hv0]
  have ev1 : a1.eval (.tmp 1) = .int .i64 len := by simp [Act.eval, hu1]
  have hsz := simA.size
  -- the row
  obtain ⟨b1, hb1, hb18, hb13, hb15, hb1k, hv0s, hown0, hlv⟩ : ∃ b1 : Nat, (b1 < wA.heap.size ∨ wA.heap.size + 4 ≤ b1) ∧ b8 ≠ b1 ∧ b3 ≠ b1 ∧ b5 ≠ b1 ∧ (∀ k, v0.ownBlock = some k → k = b1 ∧ w0.heap.size ≤ k ∧ k < wA.heap.size) ∧ (∃ A cap, v0 = .slice A 0 cap) ∧ wA.ownsRow w0.heap.size 9 1 v0 0 [] ∧ (b1 < wA.heap.size → Live s1.h φ b1 ∧ v0.ownBlock = some b1) := by
    rcases hr0 with ⟨hφ, _, _, rfl⟩ | ⟨b, c, z, hφ, rfl, hc, hm, hz⟩
    · exact ⟨wA.heap.size + 4, .inr (Nat.le_refl _), by omega, by omega, by omega, (fun k hk => by cases hk), ⟨none, 0, rfl⟩, World.ownsRow_nil _ _ _ _, fun h => by omega⟩
    · obtain ⟨cur, hzz, hB, hcur, hn, _⟩ := simA.blkAt h1 hφ
      have db := block_lt hcur
      refine ⟨b, .inl db, fun e => ?_, fun e => ?_, fun e => ?_, fun k hk => ?_, ⟨_, _, rfl⟩, ⟨rfl, .inr ⟨b, c, cur, rfl, hB, hcur, Nat.zero_le _, hm, by omega, rfl⟩⟩, fun _ => ⟨⟨i1, _, _, h1, hφ⟩, rfl⟩⟩
      · subst e; exact n18 (simA.heap.inj i1 i8 _ _ _ _ _ h1 h8 hφ φ8)
      · subst e; exact n31 (simA.heap.inj i3 i1 _ _ _ _ _ h3 h1 φ3 hφ)
      · subst e; exact n51 (simA.heap.inj i5 i1 _ _ _ _ _ h5 h1 φ5 hφ)
      · have : b = k := by simpa [Value.ownBlock] using hk
        omega
  obtain ⟨A0, cap0, rfl⟩ := hv0s
  -- the store
  have hst0 : (Instr.storeAt 22 (ptB b8) (.slice A0 0 cap0)).run Try.prog wA = .ok () (wA.setCell ⟨b8, 0, none⟩ (.slice A0 0 cap0)) := run_store1 c_strsl rfl hc8 hv8
  obtain ⟨w1, hw1⟩ : ∃ w1, w1 = wA.setCell ⟨b8, 0, none⟩ (.slice A0 0 cap0) := ⟨_, rfl⟩
  rw [← hw1] at hst0
  have s1z : w1.heap.size = wA.heap.size := by rw [hw1]; exact setCell_size _ _
  have s1b : w1.heap[b8]? = some (.cells (cur8.setIfInBounds 0 (.slice A0 0 cap0)) T8 (0, 0)) := by rw [hw1]; exact setCell_at hc8
  have s1o : ∀ k, k ≠ b8 → w1.heap[k]? = wA.heap[k]? := fun k hk => by rw [hw1]; simp [World.setCell, Array.getElem?_modify, Ne.symm hk]
  have sim1 := simA.write (blk' := ⟨T8, 0, fun _ => .val undef⟩) h8 φ8 (w' := w1) s1b (by simpa using hz8) (by rw [hw1]; rfl) (by rw [hw1]; rfl) (by rw [hw1]; rfl) (by omega) (fun k _ hk => s1o k hk) rfl (Nat.zero_le _) (fun i hi => by cases hi)
  refine wpList_plain rfl fun K1 hK1 => ?_
  have hrunS : (execOp a1.eval ⟨none, .store 22 (.tmp 8) (.tmp 22), y1, p1, e1, none⟩).run Try.prog wA = .ok .skip w1 := by
    unfold execOp; simp only [ev8, ev22, Sem.run_bind, hst0, Result.andThen_ok]; rfl
  unfold Oper.wp
  rw [hrunS, Oper.upon_skip]
  show K1 a1 w1
  refine hK1 a1 w1 ?_
  refine wpList_nil ?_
  -- the visit
  refine wp_seq (wp_region_lit ?_)
  have gcell : ∀ b i, b ≠ b8 → w1.cell? ⟨b, i, none⟩ = wA.cell? ⟨b, i, none⟩ := fun b i hb => World.cell?_of_block (w := wA) (a := ⟨b, i, none⟩) (s1o b hb)
  have g0 : w1.cell? ⟨b3, 0, none⟩ = some y0 := by rw [gcell _ _ b38]; exact cell_of_blk hc3 hy0
  have g1 : w1.cell? ⟨b3, 1, none⟩ = some yy1 := by rw [gcell _ _ b38]; exact cell_of_blk hc3 hy1
  have g2 : w1.cell? ⟨b3, 2, none⟩ = some yy2 := by rw [gcell _ _ b38]; exact cell_of_blk hc3 hy2
  have hload : (Instr.loadAt 37 (ptB b3)).run Try.prog w1 = .ok (.agg #[y0, yy1, yy2]) w1 :=
    run_loadVar_many c_autl b3 0 (fun j => if j = 0 then y0 else if j = 1 then yy1 else yy2) w1 (fun j hj => by
      rcases (show j = 0 ∨ j = 1 ∨ j = 2 by omega) with rfl | rfl | rfl
      · exact g0
      · exact g1
      · exact g2)
  refine wpList_plain rfl fun K2 hK2 => wp_value (v := .agg #[y0, yy1, yy2]) (w' := w1) (by simp only [execOp, ev3, Sem.run_bind, hload, Result.andThen_ok]; rfl) (hK2 _ _ ?_)
  have hx1 : (a1.put (some 23) (.agg #[y0, yy1, yy2])).eval (.tmp 1) = .int .i64 len := by rw [eval_put_ne (by decide)]; exact ev1
  refine wpList_plain rfl fun K3 hK3 => wp_value (v := .int .i64 len) (w' := w1) (by simp [execOp, hx1]) (hK3 _ _ ?_)
  obtain ⟨fv, hfv⟩ : ∃ fv : Value, fv = .func (.func 119) #[] #[ptB b8, ptB b3, ptB b5] := ⟨_, rfl⟩
  have hx3 : ((a1.put (some 23) (.agg #[y0, yy1, yy2])).put (some 24) (.int .i64 len)).eval (.tmp 3) = ptB b3 := by rw [eval_put_ne (by decide), eval_put_ne (by decide)]; exact ev3
  have hx5 : ((a1.put (some 23) (.agg #[y0, yy1, yy2])).put (some 24) (.int .i64 len)).eval (.tmp 5) = ptB b5 := by rw [eval_put_ne (by decide), eval_put_ne (by decide)]; exact ev5
  have hx8 : ((a1.put (some 23) (.agg #[y0, yy1, yy2])).put (some 24) (.int .i64 len)).eval (.tmp 8) = ptB b8 := by rw [eval_put_ne (by decide), eval_put_ne (by decide)]; exact ev8
  refine wpList_plain rfl fun K4 hK4 => wp_value (v := fv) (w' := w1) (by rw [hfv]; simp [execOp, Instr.makeFunc, hx3, hx5, hx8]) (hK4 _ _ ?_)
  have sim2 := ((sim1.drop 23 (.agg #[y0, yy1, yy2])).drop 24 (.int .i64 len)).drop 25 fv
  have z1 : (((a1.put (some 23) (.agg #[y0, yy1, yy2])).put (some 24) (.int .i64 len)).put (some 25) fv).eval (.tmp 23) = .agg #[y0, yy1, yy2] := by rw [eval_put_ne (by decide), eval_put_ne (by decide)]; exact eval_put_self (by omega)
  have z2 : (((a1.put (some 23) (.agg #[y0, yy1, yy2])).put (some 24) (.int .i64 len)).put (some 25) fv).eval (.tmp 24) = .int .i64 len := by rw [eval_put_ne (by decide)]; exact eval_put_self (by simp [Act.put]; omega)
  have z3' : (((a1.put (some 23) (.agg #[y0, yy1, yy2])).put (some 24) (.int .i64 len)).put (some 25) fv).eval (.tmp 25) = fv := eval_put_self (by simp [Act.put]; omega)
  have z8' : (((a1.put (some 23) (.agg #[y0, yy1, yy2])).put (some 24) (.int .i64 len)).put (some 25) fv).eval (.tmp 8) = ptB b8 := by rw [eval_put_ne (by decide)]; exact hx8
  generalize (((a1.put (some 23) (.agg #[y0, yy1, yy2])).put (some 24) (.int .i64 len)).put (some 25) fv) = a2 at sim2 z1 z2 z3' z8' ⊢
  refine wpList_plain rfl fun K5 hK5 => ?_
  have hrun : (execOp a2.eval ⟨some 26, .call ⟨.value (.func 112), #[.tmp 23, .tmp 24, .tmp 25], ts⟩, y5, p5, e5, none⟩).run Try.prog w1 = .ok (.enter 112 #[.agg #[y0, yy1, .slice A2 S.length c2], .int .i64 len, fv]) w1 := by
    have e : execOp a2.eval ⟨some 26, .call ⟨.value (.func 112), #[.tmp 23, .tmp 24, .tmp 25], ts⟩, y5, p5, e5, none⟩ = callFunc 112 (#[] ++ #[Operand.tmp 23, .tmp 24, .tmp 25].map a2.eval ++ #[]) := rfl
    rw [e, Try.call112]
    congr 2
    rw [← Array.toList_inj]
    simp [z1, z2, z3', hyy2]
  unfold Oper.wp
  rw [hrun, Oper.upon_enter, hfv]
  refine (words_run len S.length 119 (ptB b8) (ptB b3) (ptB b5) y0 yy1 A2 c2 hlen hSl.2 Try.call119 w1 (fun l W => CwJ w1 (A0 = none) w0.heap.size b1 b8 T8 z8 (cheapL a e S lim l) W) (fun W hb hs => ?_) (fun l x W hJ hx hok => ?_)).mono ?_
  · have hq : 0 < cur8.size := by have : n8 + 1 ≤ cur8.size := hn8; omega
    refine ⟨hb.os, hb.tape, hb.output, hs, fun k hk _ _ => hb.block k hk, A0, cap0, _, (hb.block b8 (by omega)).trans s1b, by simpa using hz8, by simp [hq]; rfl, ⟨rfl, ?_⟩, id, fun k hk => .inl (hb1k k hk).1⟩
    rcases hown0.2 with q | ⟨g, c, cur, r1, r2, r3, r4⟩
    · exact .inl q
    · have hgb : g = b1 := (hb1k g (by rw [r1]; rfl)).1
      have hgl := block_lt r3
      exact .inr ⟨g, c, cur, r1, r2, (hb.block g (by omega)).trans ((s1o g (by omega)).trans r3), r4⟩
  · have hB0 := simA.heap.below.size
    refine (cheap1_run a e S lim x haut (wordB_mkB hSl.2 (by omega) hok) w1 W (fun b => Stab w0 S0 s1.h φ b ∧ b < wA.heap.size) (A0 = none) w0.heap.size b1 b8 b3 b5 T8 z8 _ y0 yy1 yy2 ⟨by omega, b38, hb13⟩ ⟨by omega, b58, hb15⟩ (by omega) (by omega) hb18 (by omega) g0 g1 g2 ((gcell _ _ b58).trans (cell_of_blk hc5 hv5)) (fun b hb => ⟨fun e => hb.1.2 (e ▸ ⟨i8, _, _, h8, φ8⟩), fun e => hb.1.2 (e ▸ (hlv (by omega)).1)⟩)
      (Rd.mono (fun b hb hlt => ⟨⟨hb, hlt⟩, s1o b (fun e => hb.2 (e ▸ ⟨i8, _, _, h8, φ8⟩))⟩) _ _ hR) hJ).mono ?_
    rintro e' w' ⟨q1, q2, q3⟩
    refine ⟨q1, ?_, q3⟩
    rw [cheapL_snoc]
    exact q2
  · rintro e' w2 ⟨rfl, hJ⟩
    refine hK5 _ _ (wpList_nil ?_)
    obtain ⟨A9, cap9, cur9, q1, q2, q3, q4, q5, q6⟩ := hJ.row
    obtain ⟨L, hL⟩ : ∃ L, L = cheapL a e S lim (wordsL S.length len) := ⟨_, rfl⟩
    rw [← hL] at q3 q4 q6 hK
    have hs2 := hJ.size
    have hB0 := simA.heap.below.size
    obtain ⟨wm, hwm⟩ : ∃ wm : World, wm = { w2 with heap := w2.heap.setIfInBounds b8 (.cells (cur8.setIfInBounds 0 (.slice A0 0 cap0)) T8 (0, 0)) } := ⟨_, rfl⟩
    have m1 : wm.heap.size = w2.heap.size := by rw [hwm]; simp
    have m2 : ∀ k, k ≠ b8 → wm.heap[k]? = w2.heap[k]? := fun k hk => by rw [hwm]; exact Array.getElem?_setIfInBounds_ne (Ne.symm hk)
    have m3 : wm.heap[b8]? = some (.cells (cur8.setIfInBounds 0 (.slice A0 0 cap0)) T8 (0, 0)) := by
      have hb : b8 < w2.heap.size := by omega
      rw [hwm]; show (w2.heap.setIfInBounds b8 _)[b8]? = _
      rw [Array.getElem?_setIfInBounds_self_of_lt hb]
    have hgn : ∀ k, (Value.slice A9 L.length cap9).ownBlock = some k → k ≠ b8 := fun k hk => by have := q6 k hk; omega
    obtain ⟨simG, hrd⟩ := sim2.grown_far (id := i1) (sz := 1) (n := 0) (m := L.length) (blk := ⟨9, n1, f1⟩) (u := .slice A0 0 cap0) (v' := .slice A9 L.length cap9) (w' := wm) (g := wdF L) (xs := []) (news := strL L)
      (by rw [List.getElem?_set_ne (Ne.symm n18)]; exact h1) hr0 rfl (fun i hi => by omega) (fun i hi => by
        have hi : i < L.length := by omega
        exact ⟨.string (mkB (L.getD i [])), by simp [strL, List.getD, hi], rfl⟩)
      ⟨by simp [strL], by
        rcases q4.2 with q | ⟨g, c, cur, r1, r2, r3, r4, r5, r6, r7⟩
        · exact .inl ⟨q.1, by omega⟩
        · exact .inr ⟨g, c, cur, by rw [r1, Nat.zero_add], r2, (m2 g (hgn g (by rw [r1]; rfl))).trans r3, by omega, r5, r6, by rw [Nat.zero_add]; exact r7⟩⟩
      ⟨by rw [hwm]; exact hJ.os, by rw [hwm]; exact hJ.tape, by rw [hwm]; exact hJ.output, by omega, fun k hk hne => by
        by_cases e8 : k = b8
        · subst e8; rw [m3, s1b]
        · rw [m2 k e8]
          refine hJ.oth k hk e8 fun e => ?_
          subst e
          exact hne (hlv (by omega)).2.symm⟩
      (by
        cases A9 with
        | none => left; have := q5 rfl; subst this; rfl
        | some ad =>
          rcases q6 ad.block rfl with h | h
          · by_cases hb : b1 < wA.heap.size
            · left; rw [(hlv hb).2, ← h]; rfl
            · exact .inr ⟨ad.block, rfl, by omega⟩
          · exact .inr ⟨_, rfl, by omega⟩)
    have hi8 : i8 < s1.h.length := (List.getElem?_eq_some_iff.1 h8).1
    have hφ8 : i8 < φ.length := (List.getElem?_eq_some_iff.1 φ8).1
    have simW := simG.write (id := i8) (b := b8) (z := z8) (blk := ⟨T8, 0, fun _ => .val undef⟩) (blk' := ⟨T8, 0, fun _ => .val undef⟩)
      (by
        show ((s1.h.set i8 _).set i1 none ++ _)[i8]? = _
        rw [List.getElem?_append_left (by simp; exact hi8), List.getElem?_set_ne n18]; simp [hi8])
      (by rw [List.getElem?_append_left hφ8]; exact φ8) (w' := w2) q1 q2 (by rw [hwm]) (by rw [hwm]) (by rw [hwm]) (by omega) (fun k hk hne => (m2 k hne).symm) rfl (Nat.zero_le _) (fun i hi => by cases hi)
    have hv : w2.cell? ⟨b8, 0, none⟩ = some (.slice A9 L.length cap9) := cell_of_blk q1 q3
    refine wp_seq (wp_region_lit ?_)
    have simX := simW.drop 26 (.tuple #[])
    have w8 : (a2.put (some 26) (.tuple #[])).eval (.tmp 8) = ptB b8 := by rw [eval_put_ne (by decide)]; exact z8'
    have hld : (Instr.loadAt 22 (ptB b8)).run Try.prog w2 = .ok (.slice A9 L.length cap9) w2 := run_loadVar_one c_strsl b8 0 _ w2 hv
    refine wpList_plain rfl fun K6 hK6 => wp_value (v := .slice A9 L.length cap9) (w' := w2) (by simp only [execOp, w8, Sem.run_bind, hld, Result.andThen_ok]; rfl) (hK6 _ _ ?_)
    have simY := simX.drop 27 (.slice A9 L.length cap9)
    have hsz2 := simY.size
    have w27 : ((a2.put (some 26) (.tuple #[])).put (some 27) (.slice A9 L.length cap9)).eval (.tmp 27) = .slice A9 L.length cap9 := eval_put_self (by simp [Act.put] at hsz2 ⊢; omega)
    refine wpList_plain rfl fun K7 hK7 => wp_value (v := .slice A9 L.length cap9) (w' := w2) (by simp [execOp, w27]) (hK7 _ _ ?_)
    refine wpList_plain rfl fun K8 hK8 => wp_value (v := .bool true) (w' := w2) (by simp [execOp, Act.eval]) (hK8 _ _ ?_)
    have simZ := (simY.put (d := 6) (v := .one (.own s1.h.length 1 0 (0 + L.length))) (u := .slice A9 L.length cap9) (by show 6 < s1.nt; omega) (by
      have h := hrd
      simp only [List.length_set] at h
      exact h)).put (d := 7) (v := sc (.bool true)) (u := .bool true) (by show 7 < s1.nt; omega) rfl
    exact wpList_nil (hK wb S0 _ w2 hNb ⟨w0, hRb, _, simZ⟩)

end Go.Proofs.Ytpimjkhfookipaa
