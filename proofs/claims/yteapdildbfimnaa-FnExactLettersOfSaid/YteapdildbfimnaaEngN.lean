/- A region whose order is open, by a tree of all its orders; calls whose results lie in new memory, and steps of the state alone. No conditions. -/
import Derived.Test.YteapdildbfimnaaEngJ
import Derived.Test.YteapdildbfimnaaGrow
namespace Go.Proofs.Yteapdildbfimnaa
set_option linter.unusedSimpArgs false
set_option linter.unusedVariables false
open Go.RowKit

/-- Orders, as Nd; st: the state is told in other words. -/
inductive Nx where
  | done
  | take (i : Nat) (t : Nx)
  | one (i : Nat) (t : Nx)
  | alt (i : Nat) (t u : Nx)
  | st (t : Nx)

def Nx.heads : Nx → List Nat
  | .one i _ => [i]
  | .alt i _ u => i :: u.heads
  | _ => []

/-- The tree tells all orders. -/
def okNx (ops : Array Oper) : Bool → Nat → Array Bool → Nx → Bool
  | _, _, listed, .done => decide (Region.ready .any ops listed = [])
  | false, f + 1, listed, .take i t => (match ops[i]? with | some o => noCall o && noLoad o | none => false) && (Region.ready .any ops listed).contains i && Region.free .any ops listed i && okNx ops false f (listed.setIfInBounds i true) t
  | b, f + 1, listed, .one i t => (b || decide (Region.ready .any ops listed = [i])) && okNx ops false f (listed.setIfInBounds i true) t
  | b, f + 1, listed, .alt i t u => (b || decide (Region.ready .any ops listed = i :: u.heads)) && okNx ops false f (listed.setIfInBounds i true) t && okNx ops true (f + 1) listed u
  | false, f, listed, .st t => okNx ops false f listed t
  | _, _, _, _ => false

/-- An operation is done, by whatever rule. -/
def OpAny [Cx] (N : Nat) (P : Program) (o : Oper) (K : ASt → Prop) (s : ASt) : Prop :=
  o.guard = none ∧ ∀ (w0 : World) (S0 : Nat → Prop) (φ : List (Option (Nat × Nat))) (a : Act) (w : World), w0.heap.size = N → SimAt w0 S0 s φ a w → ∀ (next : Act → World → Prop) (Q : Exit → Act → World → Prop),
    (∀ s' a' w', K s' → SimR w0 S0 s' a' w' → next a' w') → o.wp P a w next Q
/-- The state in other words. -/
def StK (N : Nat) (s : ASt) (K : ASt → Prop) : Prop :=
  ∀ (w0 : World) (S0 : Nat → Prop) (φ : List (Option (Nat × Nat))) (a : Act) (w : World), w0.heap.size = N → SimAt w0 S0 s φ a w → ∃ s' φ', K s' ∧ SimAt w0 S0 s' φ' a w

def evAx [Cx] (N : Nat) (P : Program) (ops : List Oper) (i : Nat) (K : ASt → Prop) (s : ASt) : Prop :=
  match ops[i]? with
  | some o => OpAny N P o K s
  | none => False

def evNx [Cx] (N : Nat) (P : Program) (ops : List Oper) (K : ASt → Prop) : Nx → ASt → Prop
  | .done, s => K s
  | .take i t, s => evAt P true ops i (evNx N P ops K t) s
  | .one i t, s => evAx N P ops i (evNx N P ops K t) s
  | .alt i t u, s => evAx N P ops i (evNx N P ops K t) s ∧ evNx N P ops K u s
  | .st t, s => StK N s (evNx N P ops K t)

section
variable {P : Program} {w0 : World} {S0 : Nat → Prop} {N : Nat}

/-- All is done, in such a state. -/
def EndsR [Cx] (w0 : World) (S0 : Nat → Prop) (K : ASt → Prop) : Exit → Act → World → Prop := fun e a w => e = .normal ∧ ∃ s, K s ∧ SimR w0 S0 s a w

theorem evAx_ok [Cx] (hN : w0.heap.size = N) {ops : List Oper} {i : Nat} {K : ASt → Prop} {s : ASt} {φ : List (Option (Nat × Nat))} {a : Act} {w : World} (sim : SimAt w0 S0 s φ a w) (h : evAx N P ops i K s)
    {next : Act → World → Prop} {Q : Exit → Act → World → Prop} (hn : ∀ s' a' w', K s' → SimR w0 S0 s' a' w' → next a' w') : wpOp P ops.toArray Q i next a w := by
  unfold evAx at h
  split at h
  · rename_i o ho
    unfold wpOp
    rw [show ops.toArray[i]? = some o by simpa using ho]
    simp only []
    rw [if_pos (by simp [Region.wanted, h.1])]
    exact .inl (h.2 w0 S0 φ a w hN sim _ _ hn)
  · exact h.elim

theorem evNx_ok [Cx] {wb : World} {ops : List Oper} (hu : unguarded ops = true) (hs : Region.noSelect ops.toArray = true) {K : ASt → Prop} : ∀ (t : Nx) (b : Bool) (f : Nat) (listed : Array Bool) (w0 : World) (s : ASt) (φ : List (Option (Nat × Nat))) (a : Act) (w : World), w0.heap.size = N → Reb wb w0 →
    okNx ops.toArray b f listed t = true → SimAt w0 S0 s φ a w → evNx N P ops K t s →
    (b = false → wpAny P .any ops.toArray (EndsR wb S0 K) f listed a w) ∧
    (b = true → ∀ g, f = g + 1 → ∀ j ∈ t.heads, wpOp P ops.toArray (EndsR wb S0 K) j (fun a' w' => wpAny P .any ops.toArray (EndsR wb S0 K) g (listed.setIfInBounds j true) a' w') a w)
  | .done, b, f, listed, w0, s, φ, a, w, hN, hR, hB, sim, h => by
    refine ⟨fun _ => ?_, fun _ g _ j hj => by simp [Nx.heads] at hj⟩
    have hr : Region.ready .any ops.toArray listed = [] := by
      cases b <;> cases f <;> exact of_decide_eq_true hB
    exact wpAny_done hr ⟨rfl, s, h, w0, hR, φ, sim⟩ f
  | .st t, true, f, listed, w0, s, φ, a, w, hN, hR, hB, sim, h => by cases f <;> simp [okNx] at hB
  | .st t, false, f, listed, w0, s, φ, a, w, hN, hR, hB, sim, h => by
    refine ⟨fun _ => ?_, fun hb => by cases hb⟩
    have hB' : okNx ops.toArray false f listed t = true := by cases f <;> simpa [okNx] using hB
    obtain ⟨s', φ', hK, sim'⟩ := h w0 S0 φ a w hN sim
    exact (evNx_ok hu hs t false f listed w0 s' φ' a w hN hR hB' sim' hK).1 rfl
  | .take i t, true, f, listed, w0, s, φ, a, w, hN, hR, hB, sim, h => by cases f <;> simp [okNx] at hB
  | .take i t, false, 0, listed, w0, s, φ, a, w, hN, hR, hB, sim, h => by simp [okNx] at hB
  | .take i t, false, f + 1, listed, w0, s, φ, a, w, hN, hR, hB, sim, h => by
    refine ⟨fun _ => ?_, fun hb => by cases hb⟩
    simp only [okNx, Bool.and_eq_true] at hB
    obtain ⟨⟨⟨h1, hr⟩, hf⟩, hB⟩ := hB
    change evAt P true ops i (evNx N P ops K t) s at h
    unfold evAt at h
    split at h
    · rename_i o ho
      have ho' : ops.toArray[i]? = some o := by simpa using ho
      rw [ho'] at h1
      simp only [Bool.and_eq_true] at h1
      obtain ⟨s', v, hK, sim', hy⟩ := evOp_pure (ops := ops.toArray) sim (unguarded_get hu ho) h1.1 h1.2 h
      exact wpAny_take ho' hs hf hr (fun c a w hq => by cases hq.1) hy ((evNx_ok hu hs t false f _ w0 s' φ _ w hN hR hB sim' hK).1 rfl)
    · exact h.elim
  | .one i t, b, 0, listed, w0, s, φ, a, w, hN, hR, hB, sim, h => by cases b <;> simp [okNx] at hB
  | .one i t, b, f + 1, listed, w0, s, φ, a, w, hN, hR, hB, sim, h => by
    have hB' : (b || decide (Region.ready .any ops.toArray listed = [i])) = true ∧ okNx ops.toArray false f (listed.setIfInBounds i true) t = true := by
      cases b <;> simpa [okNx] using hB
    have hop : wpOp P ops.toArray (EndsR wb S0 K) i (fun a' w' => wpAny P .any ops.toArray (EndsR wb S0 K) f (listed.setIfInBounds i true) a' w') a w :=
      evAx_ok hN sim h fun s' a' w' hK ⟨w1, hR1, φ', sim'⟩ => (evNx_ok hu hs t false f _ w1 s' φ' a' w' (hR1.size.trans hN) (hR.trans hR1) hB'.2 sim' hK).1 rfl
    refine ⟨fun hb => ?_, fun _ g hg j hj => ?_⟩
    · subst hb
      have hr : Region.ready .any ops.toArray listed = [i] := by simpa using hB'.1
      refine wpAny_all hr (by simp) fun j hj => ?_
      obtain rfl : j = i := by simpa using hj
      exact hop
    · obtain rfl : f = g := by omega
      obtain rfl : j = i := by simpa [Nx.heads] using hj
      exact hop
  | .alt i t u, b, 0, listed, w0, s, φ, a, w, hN, hR, hB, sim, h => by cases b <;> simp [okNx] at hB
  | .alt i t u, b, f + 1, listed, w0, s, φ, a, w, hN, hR, hB, sim, h => by
    have hB' : ((b || decide (Region.ready .any ops.toArray listed = i :: u.heads)) = true ∧ okNx ops.toArray false f (listed.setIfInBounds i true) t = true) ∧ okNx ops.toArray true (f + 1) listed u = true := by
      cases b <;> simpa [okNx] using hB
    have hop : wpOp P ops.toArray (EndsR wb S0 K) i (fun a' w' => wpAny P .any ops.toArray (EndsR wb S0 K) f (listed.setIfInBounds i true) a' w') a w :=
      evAx_ok hN sim h.1 fun s' a' w' hK ⟨w1, hR1, φ', sim'⟩ => (evNx_ok hu hs t false f _ w1 s' φ' a' w' (hR1.size.trans hN) (hR.trans hR1) hB'.1.2 sim' hK).1 rfl
    have hoth := (evNx_ok hu hs u true (f + 1) listed w0 s φ a w hN hR hB'.2 sim h.2).2 rfl f rfl
    refine ⟨fun hb => ?_, fun _ g hg j hj => ?_⟩
    · subst hb
      have hr : Region.ready .any ops.toArray listed = i :: u.heads := by simpa using hB'.1.1
      refine wpAny_all hr (by simp) fun j hj => ?_
      rcases List.mem_cons.1 hj with rfl | hj
      · exact hop
      · exact hoth j hj
    · obtain rfl : f = g := by omega
      rcases List.mem_cons.1 (show j ∈ i :: u.heads from hj) with rfl | hj
      · exact hop
      · exact hoth j hj

/-- A region whose order is open: the tree tells all its orders. -/
theorem AWP.drawn_nx [Cx] {id : Nat} {ops : List Oper} {Q : Exit → ASt → Prop} {s : ASt} (t : Nx) (hm : P.follows .mixedOrders = true)
    (hB : (unguarded ops && Region.noSelect ops.toArray && okNx ops.toArray false ops.toArray.size (Array.replicate ops.toArray.size false) t) = true)
    (h : evNx N P ops (Q .normal) t s) : AWP N P (.region id ops.toArray true) Q s := by
  simp only [Bool.and_eq_true] at hB
  rintro wb S0 a w hN ⟨w0, hR, φ, sim⟩
  have sim1 : SimAt w0 S0 s φ a { w with drawn := w.drawn + 1 } := sim.after ⟨rfl, rfl, rfl, Nat.le_refl _, fun _ _ => rfl⟩
  have := wp_region_any (P := P) (id := id) hm ((evNx_ok hB.1.1 hB.1.2 t false _ _ w0 s φ a _ (hR.size.trans hN) hR hB.2 sim1 h).1 rfl)
  refine wp_mono this fun e a' w' ⟨he, s', hK, hsim⟩ => ?_
  subst he
  exact ⟨s', hK, hsim⟩

/-! ### A region in its own order -/
/-- Operations one after the other, by whatever rules; st: the state in other words first. -/
inductive Sx where
  | op
  | st
def evSx [Cx] (N : Nat) (P : Program) (K : ASt → Prop) : List Sx → List Oper → ASt → Prop
  | [], [], s => K s
  | .st :: xs, os, s => StK N s (evSx N P K xs os)
  | .op :: xs, o :: os, s => OpAny N P o (evSx N P K xs os) s
  | _, _, _ => False
theorem evSx_ok [Cx] {wb : World} {l : List Oper} {K : ASt → Prop} : ∀ (xs : List Sx) (os : List Oper) (w0 : World) (s : ASt) (φ : List (Option (Nat × Nat))) (a : Act) (w : World), w0.heap.size = N → Reb wb w0 → SimAt w0 S0 s φ a w → evSx N P K xs os s → wpList P l.toArray (EndsR wb S0 K) os a w
  | [], [], w0, s, φ, a, w, hN, hR, sim, h => wpList_nil ⟨rfl, s, h, w0, hR, φ, sim⟩
  | [], _ :: _, w0, s, φ, a, w, hN, hR, sim, h => h.elim
  | .st :: xs, os, w0, s, φ, a, w, hN, hR, sim, h => by
    have h : StK N s (evSx N P K xs os) := by cases os <;> exact h
    obtain ⟨s', φ', hK, sim'⟩ := h w0 S0 φ a w hN sim
    exact evSx_ok xs os w0 s' φ' a w hN hR sim' hK
  | .op :: xs, [], w0, s, φ, a, w, hN, hR, sim, h => h.elim
  | .op :: xs, o :: os, w0, s, φ, a, w, hN, hR, sim, h => by
    obtain ⟨hg, h⟩ : OpAny N P o (evSx N P K xs os) s := h
    exact wpList_plain hg fun K1 hK1 => h w0 S0 φ a w hN sim _ _ fun s' a' w' hK ⟨w1, hR1, φ', sim'⟩ => hK1 _ _ (evSx_ok xs os w1 s' φ' a' w' (hR1.size.trans hN) (hR.trans hR1) sim' hK)
theorem AWP.region_sx [Cx] {id : Nat} {ops : List Oper} {Q : Exit → ASt → Prop} {s : ASt} (xs : List Sx) (h : evSx N P (Q .normal) xs ops s) : AWP N P (.region id ops.toArray false) Q s := by
  rintro wb S0 a w hN ⟨w0, hR, φ, sim⟩
  refine wp_mono (wp_region_lit (evSx_ok xs ops w0 s φ a w (hR.size.trans hN) hR sim h)) fun e a' w' ⟨he, s', hK, hsim⟩ => ?_
  subst he
  exact ⟨s', hK, hsim⟩

/-! ### Steps -/
def Ax [Cx] (N : Nat) (P : Program) (K : ASt → Prop) (o : Oper) (s : ASt) : Prop := OpAny N P o K s
theorem nx_done [Cx] {ops : List Oper} {K : ASt → Prop} {s : ASt} (h : K s) : evNx N P ops K .done s := h
theorem nx_take [Cx] {ops : List Oper} {K : ASt → Prop} {k : Nat} {t : Nx} {s : ASt} {o : Oper} (ho : ops[k]? = some o) (h : ∀ K' : ASt → Prop, (∀ s', evNx N P ops K t s' → K' s') → evOp P true o K' s) : evNx N P ops K (.take k t) s := by
  show evAt P true ops k _ s
  unfold evAt; rw [ho]; exact h _ fun _ h => h
theorem nx_one [Cx] {ops : List Oper} {K : ASt → Prop} {k : Nat} {t : Nx} {s : ASt} {o : Oper} (ho : ops[k]? = some o) (h : Ax N P (evNx N P ops K t) o s) : evNx N P ops K (.one k t) s := by
  show evAx N P ops k _ s
  unfold evAx; rw [ho]; exact h
theorem nx_alt [Cx] {ops : List Oper} {K : ASt → Prop} {k : Nat} {t u : Nx} {s : ASt} {o : Oper} (ho : ops[k]? = some o) (h : Ax N P (evNx N P ops K t) o s) (h' : evNx N P ops K u s) : evNx N P ops K (.alt k t u) s := by
  refine ⟨?_, h'⟩
  unfold evAx; rw [ho]; exact h
theorem nx_st [Cx] {ops : List Oper} {K : ASt → Prop} {t : Nx} {s : ASt} (h : StK N s (evNx N P ops K t)) : evNx N P ops K (.st t) s := h
theorem sx_done [Cx] {K : ASt → Prop} {s : ASt} (h : K s) : evSx N P K [] [] s := h
theorem sx_st [Cx] {K : ASt → Prop} {xs : List Sx} {os : List Oper} {s : ASt} (h : StK N s (evSx N P K xs os)) : evSx N P K (.st :: xs) os s := by cases os <;> exact h
theorem sx_op [Cx] {K : ASt → Prop} {xs : List Sx} {o : Oper} {os : List Oper} {s : ASt} (h : Ax N P (evSx N P K xs os) o s) : evSx N P K (.op :: xs) (o :: os) s := h
theorem ax_op [Cx] {K : ASt → Prop} {o : Oper} {s : ASt} (hg : o.guard = none) (h : ∀ K' : ASt → Prop, (∀ s', K s' → K' s') → evOp P false o K' s) : Ax N P K o s :=
  ⟨hg, fun w0 S0 φ a w hN sim next Q hn => evOp_plain sim (h _ fun _ h => h) fun s' a' w' hK hs => hn s' a' w' hK hs.R⟩
theorem ax_rule [Cx] {K : ASt → Prop} {o : Oper} {s : ASt} {X : ASt → (ASt → Prop) → Prop} (hX : OpRule N P o X) (h : X s K) : Ax N P K o s :=
  ⟨hX.1, fun w0 S0 φ a w hN sim next Q hn => hX.2 w0 S0 s φ a w K next Q hN sim h fun s' a' w' hK hs => hn s' a' w' hK hs.R⟩
theorem ax_callE [Cx] {K : ASt → Prop} {f : FuncId} {args : Array Operand} {d ty : Nat} {ts : Array TypeId} {pos : String} {after : Array Edge} {s : ASt} (h : callEK N P f args.toList d s K) :
    Ax N P K ⟨some d, .call ⟨.value (.func f), args, ts⟩, ty, pos, after, none⟩ s := ax_rule callE_rule h
theorem stk_take {s : ASt} {K : ASt → Prop} {t : Nat} (h : takeK N t s K) : StK N s K := fun w0 S0 φ a w hN sim => take_ok hN sim h
theorem stk_letGrow {s : ASt} {K : ASt → Prop} {t : Nat} (h : letGrowK N t s K) : StK N s K := fun w0 S0 φ a w hN sim => by
  obtain ⟨s', h1, h2⟩ := letGrow_ok hN sim h; exact ⟨s', φ, h1, h2⟩
theorem stk_letRow {s : ASt} {K : ASt → Prop} {t : Nat} (h : letRowK N t s K) : StK N s K := fun w0 S0 φ a w hN sim => by
  obtain ⟨s', h1, h2⟩ := letRow_ok hN sim h; exact ⟨s', φ, h1, h2⟩
end
end Go.Proofs.Yteapdildbfimnaa
