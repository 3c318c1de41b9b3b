/- The visit of LeastWord: keeps the first word of least cost. No conditions. -/
import Derived.Test.YtpimjkhfookipaaWords
import Derived.Test.YtpimjkhfookipaaFnRun
import Derived.Test.YtpimjkhfookipaaEngH
namespace Go.Proofs.Ytpimjkhfookipaa
open Go.RowKit Go.Proofs
set_option linter.unusedSimpArgs false
set_option linter.unusedVariables false

/-- A store into the first cell of a block. -/
theorem store_cur {P : Program} {W : World} {b : Nat} {cur : Array Value} {t : TypeId} {x : Value} (v : Value) (hv : v.oneCell' = true) (h : W.heap[b]? = some (.cells cur t (0, 0))) (hx : cur[0]? = some x) :
    ∃ W', (store ⟨b, 0, none⟩ v).run P W = .ok () W' ∧ W'.os = W.os ∧ W'.tape = W.tape ∧ W'.output = W.output ∧ W'.heap.size = W.heap.size ∧ (∀ k, k ≠ b → W'.heap[k]? = W.heap[k]?) ∧ W'.heap[b]? = some (.cells (cur.set! 0 v) t (0, 0)) := by
  have hc : W.cell? ⟨b, 0, none⟩ = some x := cell_of_blk h hx
  have hf : W.frozen? ⟨b, 0, none⟩ = false := by unfold World.frozen?; rw [h]; rfl
  have hb : b < W.heap.size := block_lt h
  refine ⟨W.setCell ⟨b, 0, none⟩ v, ?_, rfl, rfl, rfl, setCell_size _ _, fun k hk => ?_, ?_⟩
  · rw [run_store P _ _ _ _ hv, hc]
    simp only [hf, Bool.false_eq_true, if_false]
  · simp [World.setCell, Array.getElem?_modify, Ne.symm hk]
  · rw [setCell_at h]; rfl

/-- What lies in memory while LeastWord's words are visited. -/
structure LwJ (w1 : World) (b7 b8 : Nat) (t7 t8 : TypeId) (z7 z8 : Nat) (y : ByteArray) (m : Int) (W : World) : Prop where
  os : W.os = w1.os
  tape : W.tape = w1.tape
  output : W.output = w1.output
  size : w1.heap.size + 4 ≤ W.heap.size
  oth : ∀ k, k < w1.heap.size → k ≠ b7 → k ≠ b8 → W.heap[k]? = w1.heap[k]?
  c7 : ∃ cur, W.heap[b7]? = some (.cells cur t7 (0, 0)) ∧ cur.size = z7 ∧ cur[0]? = some (.string y)
  c8 : ∃ cur, W.heap[b8]? = some (.cells cur t8 (0, 0)) ∧ cur.size = z8 ∧ cur[0]? = some (.int .i64 m)

set_option maxHeartbeats 1000000 in
set_option maxRecDepth 100000 in
theorem least1_run (a e : List Int) (s : List (List (List Int))) (x : List UInt8) (h : autB a e s = true) (hw : wordB s.length (mkB x) = true)
    (w1 W : World) (S : Nat → Prop) (b2 b7 b8 : Nat) (t7 t8 : TypeId) (z7 z8 : Nat) (y : ByteArray) (m : Int) (x0 x1 x2 : Value) (h2 : b2 < w1.heap.size) (h27 : b2 ≠ b7) (h28 : b2 ≠ b8) (h7 : b7 < w1.heap.size) (h8 : b8 < w1.heap.size) (h78 : b7 ≠ b8)
    (hx0 : w1.cell? ⟨b2, 0, none⟩ = some x0) (hx1 : w1.cell? ⟨b2, 1, none⟩ = some x1) (hx2 : w1.cell? ⟨b2, 2, none⟩ = some x2) (hS : ∀ b, S b → b ≠ b7 ∧ b ≠ b8) (hR : Rd w1 S (autV a e s) (.agg #[x0, x1, x2])) (hJ : LwJ w1 b7 b8 t7 t8 z7 z8 y m W) :
    Calls Try.prog 113 #[.string (mkB x), ptB b2, ptB b8, ptB b7] W fun e' w' => e' = .returned (.tuple #[]) ∧
      LwJ w1 b7 b8 t7 t8 z7 z8 (if costW a e s (mkB x) < m then mkB x else y) (if costW a e s (mkB x) < m then costW a e s (mkB x) else m) w' ∧ Four w1.heap.size W w' := by
  obtain ⟨cur7, hc7, hz7, he7⟩ := hJ.c7
  obtain ⟨cur8, hc8, hz8, he8⟩ := hJ.c8
  have hcell : ∀ i, W.cell? ⟨b2, i, none⟩ = w1.cell? ⟨b2, i, none⟩ := fun i => World.cell?_of_block (w := w1) (a := ⟨b2, i, none⟩) (hJ.oth b2 h2 h27 h28)
  have g0 : W.cell? ⟨b2, 0, none⟩ = some x0 := by rw [hcell]; exact hx0
  have g1 : W.cell? ⟨b2, 1, none⟩ = some x1 := by rw [hcell]; exact hx1
  have g2 : W.cell? ⟨b2, 2, none⟩ = some x2 := by rw [hcell]; exact hx2
  have hcon : Calls Try.prog 102 #[.agg #[x0, x1, x2], .string (mkB x)] W fun e' w' => e' = .returned (.int .i64 (costW a e s (mkB x))) ∧ Below W.heap.size W w' := by
    refine ((cost_fn a e s (mkB x) h hw).runs W S [.agg #[x0, x1, x2], .string (mkB x)] ⟨Rd.mono (fun b hb hlt => ⟨hb, hJ.oth b hlt (hS b hb).1 (hS b hb).2⟩) _ _ hR, rfl, trivial⟩).mono ?_
    rintro e' w' ⟨u, φ, rfl, hh, hr⟩
    have hu : u = .int .i64 (costW a e s (mkB x)) := hr
    exact ⟨by rw [hu], hh.below⟩
  have d7 := block_lt hc7
  have d8 := block_lt hc8
  have A : Aside (LwJ w1 b7 b8 t7 t8 z7 z8 y m W ∧ b7 ≠ b8 ∧ b7 < w1.heap.size ∧ b8 < w1.heap.size ∧ b7 < W.heap.size ∧ b8 < W.heap.size) := ⟨hJ, h78, h7, h8, d7, d8⟩
  have A7 : Aside (W.heap[b7]? = some (.cells cur7 t7 (0, 0)) ∧ cur7.size = z7 ∧ cur7[0]? = some (.string y)) := ⟨hc7, hz7, he7⟩
  have A8 : Aside (W.heap[b8]? = some (.cells cur8 t8 (0, 0)) ∧ cur8.size = z8 ∧ cur8[0]? = some (.int .i64 m)) := ⟨hc8, hz8, he8⟩
  clear hJ h2 h27 h28 h7 h8 h78 hx0 hx1 hx2 hS hR hcell hc7 hz7 he7 hc8 hz8 he8 d7 d8 h hw
  obtain ⟨yy, hyy⟩ : ∃ yy, yy = (if costW a e s (mkB x) < m then mkB x else y) := ⟨_, rfl⟩
  obtain ⟨mm, hmm⟩ : ∃ mm, mm = (if costW a e s (mkB x) < m then costW a e s (mkB x) else m) := ⟨_, rfl⟩
  rw [← hyy, ← hmm]
  have AY : Aside (yy = (if costW a e s (mkB x) < m then mkB x else y) ∧ mm = (if costW a e s (mkB x) < m then costW a e s (mkB x) else m)) := ⟨hyy, hmm⟩
  clear hyy hmm
  go_enter Try.func113, Try.ntmps113
  go_wp2_with fail
  refine hcon.mono ?_
  rintro e' w' ⟨rfl, hbel⟩
  clear hcon g0 g1 g2
  obtain ⟨c, hc⟩ : ∃ c, c = costW a e s (mkB x) := ⟨_, rfl⟩
  rw [← hc]
  have AC : Aside (c = costW a e s (mkB x)) := hc
  clear hc
  have g8 : w'.cell? ⟨b8, 0, none⟩ = some (.int .i64 m) := by
    obtain ⟨_, _, _, _, d7, d8⟩ := A.out
    rw [World.cell?_of_block (w := W) (a := ⟨b8, 0, none⟩) (hbel.block b8 d8)]
    exact cell_of_blk A8.out.1 A8.out.2.2
  have AB : Aside (Below W.heap.size W w') := hbel
  clear hbel
  by_cases hlt : c < m
  · obtain ⟨W2, hst1, o1, o2, o3, o4, o5, o6⟩ : ∃ W2, (store ⟨b7, 0, none⟩ (.string (mkB x))).run Try.prog w' = .ok () W2 ∧ W2.os = w'.os ∧ W2.tape = w'.tape ∧ W2.output = w'.output ∧ W2.heap.size = w'.heap.size ∧ (∀ k, k ≠ b7 → W2.heap[k]? = w'.heap[k]?) ∧ W2.heap[b7]? = some (.cells (cur7.set! 0 (.string (mkB x))) t7 (0, 0)) := by
      obtain ⟨_, _, _, _, d7, d8⟩ := A.out
      exact store_cur (.string (mkB x)) rfl ((AB.out.block b7 d7).trans A7.out.1) A7.out.2.2
    obtain ⟨W3, hst2, q1, q2, q3, q4, q5, q6⟩ : ∃ W3, (store ⟨b8, 0, none⟩ (.int .i64 c)).run Try.prog W2 = .ok () W3 ∧ W3.os = W2.os ∧ W3.tape = W2.tape ∧ W3.output = W2.output ∧ W3.heap.size = W2.heap.size ∧ (∀ k, k ≠ b8 → W3.heap[k]? = W2.heap[k]?) ∧ W3.heap[b8]? = some (.cells (cur8.set! 0 (.int .i64 c)) t8 (0, 0)) := by
      obtain ⟨_, h78, _, _, d7, d8⟩ := A.out
      exact store_cur (.int .i64 c) rfl ((o5 b8 (Ne.symm h78)).trans ((AB.out.block b8 d8).trans A8.out.1)) A8.out.2.2
    have B1 : Aside (W2.os = w'.os ∧ W2.tape = w'.tape ∧ W2.output = w'.output ∧ W2.heap.size = w'.heap.size ∧ (∀ k, k ≠ b7 → W2.heap[k]? = w'.heap[k]?) ∧ W2.heap[b7]? = some (.cells (cur7.set! 0 (.string (mkB x))) t7 (0, 0))) := ⟨o1, o2, o3, o4, o5, o6⟩
    have B2 : Aside (W3.os = W2.os ∧ W3.tape = W2.tape ∧ W3.output = W2.output ∧ W3.heap.size = W2.heap.size ∧ (∀ k, k ≠ b8 → W3.heap[k]? = W2.heap[k]?) ∧ W3.heap[b8]? = some (.cells (cur8.set! 0 (.int .i64 c)) t8 (0, 0))) := ⟨q1, q2, q3, q4, q5, q6⟩
    have BS : Aside ((store ⟨b7, 0, none⟩ (.string (mkB x))).run Try.prog w' = .ok () W2 ∧ (store ⟨b8, 0, none⟩ (.int .i64 c)).run Try.prog W2 = .ok () W3) := ⟨hst1, hst2⟩
    have hf7 : w'.frozen? ⟨b7, 0, none⟩ = false := by
      obtain ⟨_, _, _, _, d7, d8⟩ := A.out
      unfold World.frozen?; rw [(AB.out.block b7 d7).trans A7.out.1]; rfl
    have hc7 : w'.cell? ⟨b7, 0, none⟩ = some (.string y) := by
      obtain ⟨_, _, _, _, d7, d8⟩ := A.out
      exact cell_of_blk ((AB.out.block b7 d7).trans A7.out.1) A7.out.2.2
    have e2 : w'.setCell ⟨b7, 0, none⟩ (.string (mkB x)) = W2 := by
      have := hst1
      rw [run_store _ _ _ _ _ rfl, hc7] at this
      simp only [hf7, Bool.false_eq_true, if_false] at this
      injection this
    have hf8 : W2.frozen? ⟨b8, 0, none⟩ = false := by
      obtain ⟨_, h78, _, _, d7, d8⟩ := A.out
      unfold World.frozen?; rw [(o5 b8 (Ne.symm h78)).trans ((AB.out.block b8 d8).trans A8.out.1)]; rfl
    have hc8 : W2.cell? ⟨b8, 0, none⟩ = some (.int .i64 m) := by
      obtain ⟨_, h78, _, _, d7, d8⟩ := A.out
      exact cell_of_blk ((o5 b8 (Ne.symm h78)).trans ((AB.out.block b8 d8).trans A8.out.1)) A8.out.2.2
    have e3 : W2.setCell ⟨b8, 0, none⟩ (.int .i64 c) = W3 := by
      have := hst2
      rw [run_store _ _ _ _ _ rfl, hc8] at this
      simp only [hf8, Bool.false_eq_true, if_false] at this
      injection this
    rw [← e2] at hf8 hc8
    clear hst1 hst2 o1 o2 o3 o4 o5 o6 q1 q2 q3 q4 q5 q6
    have EE : Aside (w'.setCell ⟨b7, 0, none⟩ (.string (mkB x)) = W2 ∧ W2.setCell ⟨b8, 0, none⟩ (.int .i64 c) = W3) := ⟨e2, e3⟩
    clear e2 e3
    go_wp2
    rw [EE.out.1, EE.out.2]
    go_end0
    have hcc := AC.out
    obtain ⟨hyy, hmm⟩ := AY.out
    rw [← hcc, if_pos hlt] at hyy hmm
    subst hyy hmm
    obtain ⟨o1, o2, o3, o4, o5, o6⟩ := B1.out
    obtain ⟨q1, q2, q3, q4, q5, q6⟩ := B2.out
    obtain ⟨hJ, h78, h7, h8, d7, d8⟩ := A.out
    have hbel := AB.out
    refine ⟨rfl, ⟨by rw [q1, o1, hbel.os, hJ.os], by rw [q2, o2, hbel.tape, hJ.tape], by rw [q3, o3, hbel.output, hJ.output], ?_, fun k hk e7 e8 => ?_, ?_, ?_⟩, fun b hb1 hb2 => ?_⟩
    · have := hJ.size; have := hbel.size; omega
    · rw [q5 k e8, o5 k e7, hbel.block k (by have := hJ.size; omega), hJ.oth k hk e7 e8]
    · refine ⟨_, (q5 b7 h78).trans o6, by simp [A7.out.2.1], ?_⟩
      have : 0 < cur7.size := by
        have h0 := A7.out.2.2
        rcases Nat.eq_zero_or_pos cur7.size with h1 | h1
        · rw [Array.getElem?_eq_none (by omega)] at h0; cases h0
        · exact h1
      simp [this]
    · refine ⟨_, q6, by simp [A8.out.2.1], ?_⟩
      have : 0 < cur8.size := by
        have h0 := A8.out.2.2
        rcases Nat.eq_zero_or_pos cur8.size with h1 | h1
        · rw [Array.getElem?_eq_none (by omega)] at h0; cases h0
        · exact h1
      simp [this]
    · rw [q5 b (by omega), o5 b (by omega), hbel.block b (by have := hJ.size; omega)]
  · go_wp2
    go_end0
    have hcc := AC.out
    obtain ⟨hyy, hmm⟩ := AY.out
    rw [← hcc, if_neg (by omega)] at hyy hmm
    subst hyy hmm
    obtain ⟨hJ, h78, h7, h8, d7, d8⟩ := A.out
    have hbel := AB.out
    refine ⟨rfl, ⟨by rw [hbel.os, hJ.os], by rw [hbel.tape, hJ.tape], by rw [hbel.output, hJ.output], ?_, fun k hk e7 e8 => ?_, ?_, ?_⟩, fun b hb1 hb2 => ?_⟩
    · have := hJ.size; have := hbel.size; omega
    · rw [hbel.block k (by have := hJ.size; omega), hJ.oth k hk e7 e8]
    · exact ⟨_, (hbel.block b7 d7).trans A7.out.1, A7.out.2⟩
    · exact ⟨_, (hbel.block b8 d8).trans A8.out.1, A8.out.2⟩
    · rw [hbel.block b (by have := hJ.size; omega)]

open Go.RowKit Go.Proofs
set_option linter.unusedSimpArgs false
set_option linter.unusedVariables false

theorem eval_put_self {a : Act} {t : Nat} {v : Value} (h : t < a.tmps.size) : (a.put (some t) v).eval (.tmp t) = v := by simp [Act.eval, Act.put, h]
theorem eval_put_ne {a : Act} {t d : Nat} {v : Value} (h : d ≠ t) : (a.put (some d) v).eval (.tmp t) = a.eval (.tmp t) := by
  simp only [Act.eval, Act.put]; simp [Array.getElem?_setIfInBounds_ne h]
theorem wp_value {P : Program} {o : Oper} {a : Act} {w w' : World} {v : Value} {next : Act → World → Prop} {Q : Exit → Act → World → Prop} (h : (execOp a.eval o).run P w = .ok (.value v) w') (hn : next (a.put o.dst v) w') : o.wp P a w next Q := by
  unfold Oper.wp; rw [h, Oper.upon_value]; exact hn

def bestStep (a e : List Int) (s : List (List (List Int))) (p : ByteArray × Int) (x : List UInt8) : ByteArray × Int :=
  if costW a e s (mkB x) < p.2 then (mkB x, costW a e s (mkB x)) else p
/-- The first word of least cost out of a list, and the cost. -/
def lwL (a e : List Int) (s : List (List (List Int))) (l : List (List UInt8)) : ByteArray × Int := l.foldl (bestStep a e s) (ByteArray.empty, 1000000000)
theorem lwL_snoc (a e : List Int) (s : List (List (List Int))) (l : List (List UInt8)) (x : List UInt8) : lwL a e s (l ++ [x]) = bestStep a e s (lwL a e s l) x := by
  unfold lwL; rw [List.foldl_append]; rfl
theorem bestStep_1 (a e : List Int) (s : List (List (List Int))) (p : ByteArray × Int) (x : List UInt8) : (bestStep a e s p x).1 = if costW a e s (mkB x) < p.2 then mkB x else p.1 := by
  unfold bestStep; split <;> rfl
theorem bestStep_2 (a e : List Int) (s : List (List (List Int))) (p : ByteArray × Int) (x : List UInt8) : (bestStep a e s p x).2 = if costW a e s (mkB x) < p.2 then costW a e s (mkB x) else p.2 := by
  unfold bestStep; split <;> rfl

theorem wordB_mkB {k : Nat} {x : List UInt8} (hk : k ≤ 3) (hl : x.length ≤ 6) (h : okL k x) : wordB k (mkB x) = true := by
  have hl' : lenB (mkB x) = x.length := by simp [lenB, mkB, bytesOf]
  rw [wordB_is fun i hi => ?_]
  · simp only [decide_eq_true_eq]; omega
  · have hi' : i < x.length := by omega
    obtain ⟨j, hj, e⟩ := h x[i] (List.getElem_mem hi')
    have e2 : byteI (mkB x) i = ((letter j).toNat : Int) := by
      unfold byteI bytesOf mkB
      rw [show (⟨x.toArray⟩ : ByteArray).data.toList.getD i 0 = x[i] by simp [List.getD, hi'], e]
    have e3 : (letter j).toNat = 97 + j := by
      rcases (show j = 0 ∨ j = 1 ∨ j = 2 by omega) with rfl | rfl | rfl <;> rfl
    omega

/-- What stands behind the visit of all words. -/
def leastK (t17 t18 t19 t20 p2 p7 p8 : Nat) (s : ASt) (K : ASt → Prop) : Prop :=
  ∃ (i2 i7 i8 : Nat) (T2 T7 T8 : TypeId) (a e : List Int) (S : List (List (List Int))) (f7 f8 : Nat → V) (len : Nat),
    lookup s.σ p2 = some (.one (.ptr i2 0)) ∧ lookup s.σ p7 = some (.one (.ptr i7 0)) ∧ lookup s.σ p8 = some (.one (.ptr i8 0)) ∧
    s.h[i2]? = some (some ⟨T2, 3, autF a e S⟩) ∧ s.h[i7]? = some (some ⟨T7, 1, f7⟩) ∧ s.h[i8]? = some (some ⟨T8, 1, f8⟩) ∧
    (f7 0 = vs ByteArray.empty ∧ f8 0 = vi 1000000000) ∧ (i2 ≠ i7 ∧ i2 ≠ i8 ∧ i7 ≠ i8) ∧
    (∃ z, lookup s.σ t17 = some (.one (.pv (.agg 3 z))) ∧ z 2 = mats S) ∧ lookup s.σ t18 = some (sc (.int .i64 len)) ∧
    (t17 ≠ t19 ∧ t18 ≠ t19 ∧ t19 < s.nt ∧ t20 < s.nt) ∧ autB a e S = true ∧ len ≤ 6 ∧
    K ⟨upd (del s.σ t19) t20 (.many []), (s.h.set i7 (some ⟨T7, 1, fun _ => vs (lwL a e S (wordsL S.length len)).1⟩)).set i8 (some ⟨T8, 1, fun _ => vi (lwL a e S (wordsL S.length len)).2⟩), s.nt⟩

set_option maxRecDepth 100000 in
theorem AWP.region_least [Cx] {N id t17 t18 t19 t20 p2 p7 p8 : Nat} {o1 o2 : Oper} {y3 y4 : Nat} {p3 p4 : String} {e3 e4 : Array Edge} {ts : Array TypeId} {Q : Exit → ASt → Prop} {s : ASt}
    (h : evOps Try.prog false [o1, o2, ⟨some t19, .makeFunc (.func 113) #[] #[.tmp p2, .tmp p8, .tmp p7], y3, p3, e3, none⟩, ⟨some t20, .call ⟨.value (.func 112), #[.tmp t17, .tmp t18, .tmp t19], ts⟩, y4, p4, e4, none⟩] [o1, o2] (fun s' => leastK t17 t18 t19 t20 p2 p7 p8 s' (Q .normal)) s) :
    AWP N Try.prog (.region id #[o1, o2, ⟨some t19, .makeFunc (.func 113) #[] #[.tmp p2, .tmp p8, .tmp p7], y3, p3, e3, none⟩, ⟨some t20, .call ⟨.value (.func 112), #[.tmp t17, .tmp t18, .tmp t19], ts⟩, y4, p4, e4, none⟩] false) Q s := by
  refine AWP.of0 ?_
  rintro w0 S0 a0 w hN ⟨φ0, sim0⟩
  refine wp_region_lit (evOps_then (tl := [⟨some t19, .makeFunc (.func 113) #[] #[.tmp p2, .tmp p8, .tmp p7], y3, p3, e3, none⟩, ⟨some t20, .call ⟨.value (.func 112), #[.tmp t17, .tmp t18, .tmp t19], ts⟩, y4, p4, e4, none⟩]) [o1, o2] sim0 h fun s1 a1 w1 hK ⟨φ, sim⟩ => ?_)
  clear sim0 h φ0 a0 w
  obtain ⟨i2, i7, i8, T2, T7, T8, a, e, S, f7, f8, len, l2, l7, l8, h2, h7, h8, ⟨hf7, hf8⟩, ⟨n27, n28, n78⟩, ⟨z, l17, hz⟩, l18, ⟨n1, n2, d19, d20⟩, haut, hlen, hK⟩ := hK
  obtain ⟨u2, hu2, b2, z2, φ2, rfl⟩ := sim.slots p2 _ l2
  obtain ⟨u7, hu7, b7, z7, φ7, rfl⟩ := sim.slots p7 _ l7
  obtain ⟨u8, hu8, b8, z8, φ8, rfl⟩ := sim.slots p8 _ l8
  obtain ⟨u17, hu17, hr17⟩ := sim.slots t17 _ l17
  obtain ⟨u18, hu18, hr18⟩ := sim.slots t18 _ l18
  obtain rfl : u18 = .int .i64 len := hr18
  obtain ⟨cs, rfl, hcs, hr17⟩ : ∃ cs : Array Value, u17 = .agg cs ∧ cs.size = 3 ∧ ∀ i, i < 3 → ∃ x, cs[i]? = some x ∧ Rd w1 (Stab w0 S0 s1.h φ) (z i) x := hr17
  obtain ⟨x0, hx0, _⟩ := hr17 0 (by omega)
  obtain ⟨x1, hx1, _⟩ := hr17 1 (by omega)
  obtain ⟨x2, hx2, hr2⟩ := hr17 2 (by omega)
  rw [hz] at hr2
  obtain ⟨A, c, rfl, _, _⟩ := hr2
  have ecs : cs = #[x0, x1, .slice A S.length c] := by
    apply Array.ext_getElem?
    intro i
    rcases (show i = 0 ∨ i = 1 ∨ i = 2 ∨ 3 ≤ i by omega) with rfl | rfl | rfl | hi
    · simpa using hx0
    · simpa using hx1
    · simpa using hx2
    · rw [Array.getElem?_eq_none (by omega), Array.getElem?_eq_none (by simpa using hi)]
  subst ecs
  obtain ⟨cur2, hz2, hB2, hc2, hn2, hcell2⟩ := sim.blkAt h2 φ2
  obtain ⟨cur7, hz7, hB7, hc7, hn7, hcell7⟩ := sim.blkAt h7 φ7
  obtain ⟨cur8, hz8, hB8, hc8, hn8, hcell8⟩ := sim.blkAt h8 φ8
  have b27 : b2 ≠ b7 := fun e => by subst e; exact n27 (sim.heap.inj i2 i7 _ _ _ _ _ h2 h7 φ2 φ7)
  have b28 : b2 ≠ b8 := fun e => by subst e; exact n28 (sim.heap.inj i2 i8 _ _ _ _ _ h2 h8 φ2 φ8)
  have b78 : b7 ≠ b8 := fun e => by subst e; exact n78 (sim.heap.inj i7 i8 _ _ _ _ _ h7 h8 φ7 φ8)
  obtain ⟨v7, hv7, hr7⟩ := hcell7 0 (Nat.succ_pos _)
  obtain ⟨v8, hv8, hr8⟩ := hcell8 0 (Nat.succ_pos _)
  rw [show (Blk.f ⟨T7, 1, f7⟩ 0) = f7 0 from rfl, hf7] at hr7
  rw [show (Blk.f ⟨T8, 1, f8⟩ 0) = f8 0 from rfl, hf8] at hr8
  obtain rfl : v7 = .string ByteArray.empty := hr7
  obtain rfl : v8 = .int .i64 1000000000 := hr8
  obtain ⟨y0, hy0, ry0⟩ := hcell2 0 (by show 0 < 3; omega)
  obtain ⟨y1, hy1, ry1⟩ := hcell2 1 (by show 1 < 3; omega)
  obtain ⟨y2, hy2, ry2⟩ := hcell2 2 (by show 2 < 3; omega)
  have hR : Rd w1 (Stab w0 S0 s1.h φ) (autV a e S) (.agg #[y0, y1, y2]) := ⟨_, rfl, rfl, fun i hi => by
    rcases (show i = 0 ∨ i = 1 ∨ i = 2 by omega) with rfl | rfl | rfl
    · exact ⟨y0, rfl, ry0⟩
    · exact ⟨y1, rfl, ry1⟩
    · exact ⟨y2, rfl, ry2⟩⟩
  have hSl := (autB_get haut).2.2.2.2.1
  have d2 := block_lt hc2
  have d7 := block_lt hc7
  have d8 := block_lt hc8
  have hSt : ∀ b, Stab w0 S0 s1.h φ b → b ≠ b7 ∧ b ≠ b8 := fun b hb => ⟨fun e => hb.2 (e ▸ ⟨i7, _, _, h7, φ7⟩), fun e => hb.2 (e ▸ ⟨i8, _, _, h8, φ8⟩)⟩
  have ev2 : a1.eval (.tmp p2) = ptB b2 := by simp [Act.eval, hu2]
  have ev7 : a1.eval (.tmp p7) = ptB b7 := by simp [Act.eval, hu7]
  have ev8 : a1.eval (.tmp p8) = ptB b8 := by simp [Act.eval, hu8]
  have ev17 : a1.eval (.tmp t17) = .agg #[x0, x1, .slice A S.length c] := by simp [Act.eval, hu17]
  have ev18 : a1.eval (.tmp t18) = .int .i64 len := by simp [Act.eval, hu18]
  have hsz := sim.size
  obtain ⟨fv, hfv⟩ : ∃ fv : Value, fv = .func (.func 113) #[] #[ptB b2, ptB b8, ptB b7] := ⟨_, rfl⟩
  refine wpList_plain rfl fun K1 hK1 => wp_value (v := fv) (w' := w1) (by rw [hfv]; simp [execOp, Instr.makeFunc, ev2, ev7, ev8]) (hK1 _ _ ?_)
  have sim' := sim.drop t19 fv
  refine wpList_plain rfl fun K2 hK2 => ?_
  have ev17' : (a1.put (some t19) fv).eval (.tmp t17) = .agg #[x0, x1, .slice A S.length c] := by rw [eval_put_ne (Ne.symm n1)]; exact ev17
  have ev18' : (a1.put (some t19) fv).eval (.tmp t18) = .int .i64 len := by rw [eval_put_ne (Ne.symm n2)]; exact ev18
  have ev19' : (a1.put (some t19) fv).eval (.tmp t19) = fv := eval_put_self (by omega)
  generalize a1.put (some t19) fv = a2 at sim' ev17' ev18' ev19' ⊢
  have hrun : (execOp a2.eval ⟨some t20, .call ⟨.value (.func 112), #[.tmp t17, .tmp t18, .tmp t19], ts⟩, y4, p4, e4, none⟩).run Try.prog w1 = .ok (.enter 112 #[.agg #[x0, x1, .slice A S.length c], .int .i64 len, fv]) w1 := by
    have e : execOp a2.eval ⟨some t20, .call ⟨.value (.func 112), #[.tmp t17, .tmp t18, .tmp t19], ts⟩, y4, p4, e4, none⟩ = callFunc 112 (#[] ++ #[Operand.tmp t17, .tmp t18, .tmp t19].map a2.eval ++ #[]) := rfl
    rw [e, Try.call112]
    congr 2
    rw [← Array.toList_inj]
    simp [ev17', ev18', ev19']
  unfold Oper.wp
  rw [hrun, Oper.upon_enter, hfv]
  refine (words_run len S.length 113 (ptB b2) (ptB b8) (ptB b7) x0 x1 A c hlen hSl.2 Try.call113 w1 (fun l W => LwJ w1 b7 b8 T7 T8 z7 z8 (lwL a e S l).1 (lwL a e S l).2 W) (fun W hb hs => ?_) (fun l x W hJ hx hok => ?_)).mono ?_
  · exact ⟨hb.os, hb.tape, hb.output, hs, fun k hk _ _ => hb.block k hk, ⟨cur7, (hb.block b7 d7).trans hc7, hz7, hv7⟩, ⟨cur8, (hb.block b8 d8).trans hc8, hz8, hv8⟩⟩
  · refine (least1_run a e S x haut (wordB_mkB hSl.2 (by omega) hok) w1 W (Stab w0 S0 s1.h φ) b2 b7 b8 T7 T8 z7 z8 _ _ y0 y1 y2 d2 b27 b28 d7 d8 b78 (cell_of_blk hc2 hy0) (cell_of_blk hc2 hy1) (cell_of_blk hc2 hy2) hSt hR hJ).mono ?_
    rintro e' w' ⟨h1, h2, h3⟩
    refine ⟨h1, ?_, h3⟩
    rw [lwL_snoc, bestStep_1, bestStep_2]
    exact h2
  · rintro e' w2 ⟨rfl, hJ⟩
    refine hK2 _ _ ?_
    obtain ⟨cur7', hc7', hz7', hv7'⟩ := hJ.c7
    obtain ⟨cur8', hc8', hz8', hv8'⟩ := hJ.c8
    obtain ⟨wm, hwm⟩ : ∃ wm : World, wm = { w2 with heap := w2.heap.setIfInBounds b8 (.cells cur8 T8 (0, 0)) } := ⟨_, rfl⟩
    have m1 : wm.heap.size = w2.heap.size := by rw [hwm]; simp
    have m2 : ∀ k, k ≠ b8 → wm.heap[k]? = w2.heap[k]? := fun k hk => by rw [hwm]; exact Array.getElem?_setIfInBounds_ne (Ne.symm hk)
    have hs2 := hJ.size
    have m3 : wm.heap[b8]? = some (.cells cur8 T8 (0, 0)) := by
      have hb : b8 < w2.heap.size := by omega
      rw [hwm]; show (w2.heap.setIfInBounds b8 _)[b8]? = _
      rw [Array.getElem?_setIfInBounds_self_of_lt hb]
    have simA := sim'.write (blk' := ⟨T7, 1, fun _ => vs (lwL a e S (wordsL S.length len)).1⟩) h7 φ7 (w' := wm) ((m2 b7 b78).trans hc7') hz7' (by rw [hwm]; exact hJ.os) (by rw [hwm]; exact hJ.tape) (by rw [hwm]; exact hJ.output) (by omega)
      (fun k hk hne => by
        by_cases e8 : k = b8
        · subst e8; rw [m3]; exact hc8.symm
        · rw [m2 k e8]; exact hJ.oth k hk hne e8) rfl (by rw [hz7', ← hz7]; exact hn7) (fun i hi => by
          obtain rfl : i = 0 := by have : i < 1 := hi; omega
          exact ⟨_, hv7', rfl⟩)
    have h8' : (s1.h.set i7 (some ⟨T7, 1, fun _ => vs (lwL a e S (wordsL S.length len)).1⟩))[i8]? = some (some ⟨T8, 1, f8⟩) := by rw [List.getElem?_set_ne n78]; exact h8
    have simB := simA.write (blk' := ⟨T8, 1, fun _ => vi (lwL a e S (wordsL S.length len)).2⟩) h8' φ8 (w' := w2) hc8' hz8' (by rw [hwm]) (by rw [hwm]) (by rw [hwm]) (by omega)
      (fun k hk hne => (m2 k hne).symm) rfl (by rw [hz8', ← hz8]; exact hn8) (fun i hi => by
          obtain rfl : i = 0 := by have : i < 1 := hi; omega
          exact ⟨_, hv8', rfl⟩)
    exact wpList_nil ⟨_, hK, φ, simB.put (v := .many []) d20 ⟨[], rfl, trivial⟩⟩

end Go.Proofs.Ytpimjkhfookipaa
