/- A region whose order is open: loads are taken first, for until its last operation nothing is written that was there. No conditions. -/
import Derived.Test.YteapdildbfimnaaEngX
import Derived.OrdersHeld
namespace Go.Proofs.Yteapdildbfimnaa
set_option linter.unusedSimpArgs false
set_option linter.unusedVariables false
open Go.RowKit

section
variable {P : Program} {ops : Array Oper} {Q : Exit → Act → World → Prop} {S : World → Prop}

/-- In whatever order; S holds behind all operations but number L. -/
def wpAnyS (P : Program) (ops : Array Oper) (Q : Exit → Act → World → Prop) (S : World → Prop) (L : Nat) : Nat → Array Bool → Act → World → Prop
  | 0, listed, a, w => Region.ready .any ops listed = [] ∧ Q .normal a w
  | f + 1, listed, a, w => (Region.ready .any ops listed = [] → Q .normal a w) ∧
    ∀ i ∈ Region.ready .any ops listed, wpOp P ops Q i (fun a' w' => (i ≠ L → S w') ∧ wpAnyS P ops Q S L f (listed.setIfInBounds i true) a' w') a w

theorem wpAnyS.any {L : Nat} : ∀ (f : Nat) (listed : Array Bool) (a : Act) (w : World), wpAnyS P ops Q S L f listed a w → wpAny P .any ops Q f listed a w
  | 0, _, _, _, h => h
  | f + 1, _, _, _, h => ⟨h.1, fun i hi => wpOp_mono (fun a' w' h' => wpAnyS.any f _ a' w' h'.2) (h.2 i hi)⟩

/-- Operation number L waits for number i. -/
def waitsB (ops : Array Oper) (L i : Nat) : Bool :=
  match ops[L]? with
  | some o => o.after.any fun e => Region.binds .any e && e.on == i
  | none => false

/-- An operation that gives its value in every world of S, and that L waits for, is taken first. -/
theorem wpAnyS_take {L i : Nat} {oi : Oper} {v : Value} (hi : ops[i]? = some oi) (hs : Region.noSelect ops = true) (hL : waitsB ops L i = true) (hQ : ∀ c a w, Q (.panic c) (a.put oi.dst v) w → Q (.panic c) a w) :
    ∀ (f : Nat) (listed : Array Bool) (a : Act) (w : World),
      (∀ j oj, ops[j]? = some oj → j ≠ i → listed.getD j true = false → (∀ e ∈ oj.after, Region.binds .any e = true → e.on ≠ i) → oi.apart ops oj = true) →
      i ∈ Region.ready .any ops listed → YieldsIf P ops S oi v a → S w → wpAnyS P ops Q S L f (listed.setIfInBounds i true) (a.put oi.dst v) w → wpAnyS P ops Q S L (f + 1) listed a w := by
  have hsel := Region.noSelect_spec hs
  intro f
  induction f with
  | zero =>
    intro listed a w _ hr hy hS H
    refine ⟨fun h => (by rw [h] at hr; cases hr), fun j hj => ?_⟩
    by_cases e : j = i
    · subst e; exact hy.wpOp hi hS ⟨fun _ => hS, H⟩
    · have h1 := ready_mono hj e
      rw [H.1] at h1; cases h1
  | succ f ih =>
    intro listed a w hfree hr hy hS H
    refine ⟨fun h => (by rw [h] at hr; cases hr), fun j hj => ?_⟩
    by_cases e : j = i
    · subst e; exact hy.wpOp hi hS ⟨fun _ => hS, H⟩
    obtain ⟨hjun, oj, hoj, hall⟩ := mem_ready.1 hj
    have hiun := (mem_ready.1 hr).1
    have hno : ∀ e ∈ oj.after, Region.binds .any e = true → e.on ≠ i := fun e he hb heq => by
      have h2 := hall e he hb
      rw [heq] at h2
      rcases Nat.lt_or_ge i listed.size with h' | h'
      · simp [h'] at hiun h2; rw [hiun] at h2; cases h2
      · simp [Array.getElem?_eq_none h'] at h2
    have hjL : j ≠ L := fun e => by
      subst e
      unfold waitsB at hL
      rw [hoj] at hL
      obtain ⟨e, he, hb⟩ := Array.any_eq_true'.1 hL
      simp only [Bool.and_eq_true, beq_iff_eq] at hb
      exact hno e he hb.1 hb.2
    have h2 := wpOp_putIf hoj (hfree j oj hoj e hjun hno) (fun cs b => hsel i oi cs b hi) (fun cs b => hsel j oj cs b hoj) hQ hy (H.2 j (ready_mono hj e))
    refine wpOp_mono (fun a' w' h3 => ⟨h3.2.1, ih (listed.setIfInBounds j true) a' w' (fun k ok hk hki hun hn => hfree k ok hk hki ?_ hn) (ready_mono hr (Ne.symm e)) h3.1 (h3.2.1 hjL) ?_⟩) h2
    · by_cases hjk : j = k
      · subst hjk; exact hjun
      · rw [getD_set_ne true hjk] at hun; exact hun
    · rw [Array.setIfInBounds_comm _ _ e]; exact h3.2.2
end

/-- An operation is done by whatever rule, and what was there is there as it was. -/
def OpAnyB (N : Nat) (P : Program) (o : Oper) (K : ASt → Prop) (s : ASt) : Prop :=
  o.guard = none ∧ ∀ (w0 : World) (S0 : Nat → Prop) (φ : List (Option (Nat × Nat))) (a : Act) (w : World), w0.heap.size = N → SimAt w0 S0 s φ a w → ∀ (next : Act → World → Prop) (Q : Exit → Act → World → Prop),
    (∀ s' a' w', K s' → Sim w0 S0 s' a' w' → Below w.heap.size w w' → next a' w') → o.wp P a w next Q

/-- Nothing is left to be done. -/
def endB : Nx → Bool
  | .done => true
  | .st t => endB t
  | _ => false
/-- Orders behind the takes. -/
def okSx (ops : Array Oper) (L : Nat) : Bool → Nat → Array Bool → Nx → Bool
  | _, _, listed, .done => decide (Region.ready .any ops listed = [])
  | false, f + 1, listed, .take i t => waitsB ops L i && (match ops[i]? with | some o => noCall o && noLoad o | none => false) && (Region.ready .any ops listed).contains i && Region.free .any ops listed i && okSx ops L false f (listed.setIfInBounds i true) t
  | b, f + 1, listed, .one i t => (b || decide (Region.ready .any ops listed = [i])) && (decide (i ≠ L) || endB t) && okSx ops L false f (listed.setIfInBounds i true) t
  | b, f + 1, listed, .alt i t u => (b || decide (Region.ready .any ops listed = i :: u.heads)) && (decide (i ≠ L) || endB t) && okSx ops L false f (listed.setIfInBounds i true) t && okSx ops L true (f + 1) listed u
  | false, f, listed, .st t => okSx ops L false f listed t
  | _, _, _, _ => false
def okTakeS (ops : Array Oper) (L : Nat) (t : Nx) : Nat → Array Bool → List Nat → Bool
  | f, listed, [] => okSx ops L false f listed t
  | f + 1, listed, k :: ks => waitsB ops L k && (match ops[k]? with | some o => noCall o | none => false) && (Region.ready .any ops listed).contains k && Region.free .any ops listed k && okTakeS ops L t f (listed.setIfInBounds k true) ks
  | _, _, _ => false

def evAs (N : Nat) (P : Program) (ops : List Oper) (L i : Nat) (K : ASt → Prop) (s : ASt) : Prop :=
  match ops[i]? with
  | some o => (i = L ∧ OpAny N P o K s) ∨ OpAnyB N P o K s
  | none => False
def evSy (N : Nat) (P : Program) (ops : List Oper) (L : Nat) (K : ASt → Prop) : Nx → ASt → Prop
  | .done, s => K s
  | .take i t, s => evAt P true ops i (evSy N P ops L K t) s
  | .one i t, s => evAs N P ops L i (evSy N P ops L K t) s
  | .alt i t u, s => evAs N P ops L i (evSy N P ops L K t) s ∧ evSy N P ops L K u s
  | .st t, s => StK N s (evSy N P ops L K t)

section
variable {P : Program} {w0 : World} {S0 : Nat → Prop} {N : Nat} {w1 : World}

/-- The worlds of a region: what stood there at its beginning stands there. -/
abbrev HeldS (w1 : World) : World → Prop := fun w => Below w1.heap.size w1 w

theorem evOp_held {ops : Array Oper} {o : Oper} {K : ASt → Prop} {s : ASt} {φ : List (Option (Nat × Nat))} {a : Act} {w : World} (sim : SimAt w0 S0 s φ a w) (hg : o.guard = none) (hc : noCall o = true) (h : evOp P true o K s) :
    ∃ s' v, K s' ∧ SimAt w0 S0 s' φ (a.put o.dst v) w ∧ YieldsIf P ops (HeldS w) o v a := by
  obtain ⟨dst, op, ty, pos, after, guard⟩ := o
  unfold evOp at h
  split at h
  · rename_i f args ts d hop hdst
    simp only at hop hdst
    subst hop hdst
    simp [noCall] at hc
  · rename_i t args ts d hop hdst
    simp only at hop hdst
    subst hop hdst
    simp [noCall] at hc
  · exact absurd h.1 (by simp)
  · exact absurd h.1 (by simp)
  · exact absurd h.1 (by simp)
  · exact absurd h.1 (by simp)
  · exact absurd h.1 (by simp)
  · exact absurd h.1 (by simp)
  · exact absurd h.1 (by simp)
  · rename_i d hdst _ _ _ _ _ _ _ _
    simp only at hdst
    subst hdst
    obtain ⟨r, v, hK, hr, hrun⟩ := evQ_ok (o := ⟨some d, op, ty, pos, after, guard⟩) h.2 sim
    exact ⟨_, v, hK, sim.put h.1 hr, .inl ⟨by simp only at hg; simp [Region.wanted, hg], fun w' hw' => hrun w' (.inr hw')⟩⟩
  · exact h.elim

theorem callE_below {f : FuncId} {args : Array Operand} {d ty : Nat} {ts : Array TypeId} {pos : String} {after : Array Edge} {s : ASt} {φ : List (Option (Nat × Nat))} {a : Act} {w : World} {K : ASt → Prop} {next : Act → World → Prop} {Q : Exit → Act → World → Prop}
    (hN : w0.heap.size = N) (sim : SimAt w0 S0 s φ a w) (h : callEK N P f args.toList d s K) (hn : ∀ s' a' w', K s' → Sim w0 S0 s' a' w' → Below w.heap.size w w' → next a' w') : (⟨some d, .call ⟨.value (.func f), args, ts⟩, ty, pos, after, none⟩ : Oper).wp P a w next Q := by
  obtain ⟨p', vs', ⟨R, hf, hd, hK⟩, h3, h4⟩ := argsK_ok sim args.toList true [] [] h sim.gl (fun _ => sim.gl)
  have hrun : (execOp a.eval ⟨some d, .call ⟨.value (.func f), args, ts⟩, ty, pos, after, none⟩).run P w = .ok (.enter f (args.toList.map a.eval).toArray) w := by
    have e : execOp a.eval ⟨some d, .call ⟨.value (.func f), args, ts⟩, ty, pos, after, none⟩ = callFunc f (#[] ++ args.map a.eval ++ #[]) := rfl
    rw [e, hf.1]
    congr 2
    rw [← Array.toList_inj]
    simp
  unfold Oper.wp
  rw [hrun, Oper.upon_enter]
  simp only [List.reverse_nil, List.nil_append] at h3 h4
  refine (hf.2 w _ h3).mono ?_
  rintro e w' ⟨r, u, ψ, hr, hnew, rfl, hh, hs⟩
  have hw := sim.heap.below.size
  refine hn _ _ _ (hK r hr (NewL.mono (fun Z hZ => ⟨fun b hb => by have := hZ b hb; omega, fun Z' hZ' b hb hb' => ?_⟩) _ hnew)) ⟨_, sim.call_new hd hnew hh hs⟩ hh.below
  have h1 := (hZ'.there sim b hb).2
  have h2 := hZ b hb'
  omega

theorem evAs_ok (hN : w0.heap.size = N) {ops : List Oper} {L i : Nat} {K : ASt → Prop} {s : ASt} {φ : List (Option (Nat × Nat))} {a : Act} {w : World} (sim : SimAt w0 S0 s φ a w) (hS : HeldS w1 w) (h : evAs N P ops L i K s)
    {next : Act → World → Prop} {Q : Exit → Act → World → Prop} (hn : ∀ s' a' w', K s' → Sim w0 S0 s' a' w' → (i ≠ L → HeldS w1 w') → next a' w') : wpOp P ops.toArray Q i next a w := by
  unfold evAs at h
  split at h
  · rename_i o ho
    unfold wpOp
    rw [show ops.toArray[i]? = some o by simpa using ho]
    simp only []
    rcases h with ⟨e, h⟩ | h
    · rw [if_pos (by simp [Region.wanted, h.1])]
      exact .inl (h.2 w0 S0 φ a w hN sim _ _ fun s' a' w' h1 h2 => hn s' a' w' h1 h2.none fun e' => absurd e e')
    · rw [if_pos (by simp [Region.wanted, h.1])]
      exact .inl (h.2 w0 S0 φ a w hN sim _ _ fun s' a' w' h1 h2 h3 => hn s' a' w' h1 h2 fun _ => hS.trans (h3.mono hS.size))
  · exact h.elim

theorem wpAnyS_done {ops : Array Oper} {Q : Exit → Act → World → Prop} {S : World → Prop} {L : Nat} {listed : Array Bool} {a : Act} {w : World} (hr : Region.ready .any ops listed = []) (h : Q .normal a w) : ∀ f, wpAnyS P ops Q S L f listed a w
  | 0 => ⟨hr, h⟩
  | _ + 1 => ⟨fun _ => h, by rw [hr]; simp⟩

theorem evSy_ok (hN : w0.heap.size = N) {ops : List Oper} {L : Nat} (hu : unguarded ops = true) (hs : Region.noSelect ops.toArray = true) {K : ASt → Prop} :
    ∀ (t : Nx) (b : Bool) (f : Nat) (listed : Array Bool) (s : ASt) (φ : List (Option (Nat × Nat))) (a : Act) (w : World),
    okSx ops.toArray L b f listed t = true → SimAt w0 S0 s φ a w → (endB t = false → HeldS w1 w) → evSy N P ops L K t s →
    (b = false → wpAnyS P ops.toArray (Ends w0 S0 K) (HeldS w1) L f listed a w) ∧
    (b = true → ∀ g, f = g + 1 → ∀ j ∈ t.heads, wpOp P ops.toArray (Ends w0 S0 K) j (fun a' w' => (j ≠ L → HeldS w1 w') ∧ wpAnyS P ops.toArray (Ends w0 S0 K) (HeldS w1) L g (listed.setIfInBounds j true) a' w') a w)
  | .done, b, f, listed, s, φ, a, w, hB, sim, hS, h => by
    refine ⟨fun _ => ?_, fun _ g _ j hj => by simp [Nx.heads] at hj⟩
    have hr : Region.ready .any ops.toArray listed = [] := by
      cases b <;> cases f <;> exact of_decide_eq_true hB
    exact wpAnyS_done hr ⟨rfl, s, h, φ, sim⟩ f
  | .st t, true, f, listed, s, φ, a, w, hB, sim, hS, h => by cases f <;> simp [okSx] at hB
  | .st t, false, f, listed, s, φ, a, w, hB, sim, hS, h => by
    refine ⟨fun _ => ?_, fun hb => by cases hb⟩
    have hB' : okSx ops.toArray L false f listed t = true := by cases f <;> simpa [okSx] using hB
    obtain ⟨s', φ', hK, sim'⟩ := h w0 S0 φ a w hN sim
    exact (evSy_ok hN hu hs t false f listed s' φ' a w hB' sim' hS hK).1 rfl
  | .take i t, true, f, listed, s, φ, a, w, hB, sim, hS, h => by cases f <;> simp [okSx] at hB
  | .take i t, false, 0, listed, s, φ, a, w, hB, sim, hS, h => by simp [okSx] at hB
  | .take i t, false, f + 1, listed, s, φ, a, w, hB, sim, hS, h => by
    refine ⟨fun _ => ?_, fun hb => by cases hb⟩
    simp only [okSx, Bool.and_eq_true] at hB
    obtain ⟨⟨⟨⟨hL, h1⟩, hr⟩, hf⟩, hB⟩ := hB
    change evAt P true ops i (evSy N P ops L K t) s at h
    unfold evAt at h
    split at h
    · rename_i o ho
      have ho' : ops.toArray[i]? = some o := by simpa using ho
      rw [ho'] at h1
      simp only [Bool.and_eq_true] at h1
      obtain ⟨s', v, hK, sim', hy⟩ := evOp_pure (ops := ops.toArray) sim (unguarded_get hu ho) h1.1 h1.2 h
      exact wpAnyS_take ho' hs hL (fun c a w hq => by cases hq.1) f listed a w (Region.free_spec ho' hf) (by simpa using hr) hy.yieldsIf (hS rfl) ((evSy_ok hN hu hs t false f _ s' φ _ w hB sim' (fun _ => hS rfl) hK).1 rfl)
    · exact h.elim
  | .one i t, b, 0, listed, s, φ, a, w, hB, sim, hS, h => by cases b <;> simp [okSx] at hB
  | .one i t, b, f + 1, listed, s, φ, a, w, hB, sim, hS, h => by
    have hB' : ((b || decide (Region.ready .any ops.toArray listed = [i])) = true ∧ (decide (i ≠ L) || endB t) = true) ∧ okSx ops.toArray L false f (listed.setIfInBounds i true) t = true := by
      cases b <;> simpa [okSx] using hB
    have hop : wpOp P ops.toArray (Ends w0 S0 K) i (fun a' w' => (i ≠ L → HeldS w1 w') ∧ wpAnyS P ops.toArray (Ends w0 S0 K) (HeldS w1) L f (listed.setIfInBounds i true) a' w') a w :=
      evAs_ok hN sim (hS rfl) h fun s' a' w' hK ⟨φ', sim'⟩ hS' => ⟨hS', (evSy_ok hN hu hs t false f _ s' φ' a' w' hB'.2 sim' (fun he => hS' (by have := hB'.1.2; rw [he, Bool.or_false] at this; exact of_decide_eq_true this)) hK).1 rfl⟩
    refine ⟨fun hb => ?_, fun _ g hg j hj => ?_⟩
    · subst hb
      have hr : Region.ready .any ops.toArray listed = [i] := by simpa using hB'.1.1
      refine ⟨fun h0 => (by rw [hr] at h0; cases h0), fun j hj => ?_⟩
      rw [hr] at hj
      obtain rfl : j = i := by simpa using hj
      exact hop
    · obtain rfl : f = g := by omega
      obtain rfl : j = i := by simpa [Nx.heads] using hj
      exact hop
  | .alt i t u, b, 0, listed, s, φ, a, w, hB, sim, hS, h => by cases b <;> simp [okSx] at hB
  | .alt i t u, b, f + 1, listed, s, φ, a, w, hB, sim, hS, h => by
    have hB' : (((b || decide (Region.ready .any ops.toArray listed = i :: u.heads)) = true ∧ (decide (i ≠ L) || endB t) = true) ∧ okSx ops.toArray L false f (listed.setIfInBounds i true) t = true) ∧ okSx ops.toArray L true (f + 1) listed u = true := by
      cases b <;> simpa [okSx] using hB
    have hop : wpOp P ops.toArray (Ends w0 S0 K) i (fun a' w' => (i ≠ L → HeldS w1 w') ∧ wpAnyS P ops.toArray (Ends w0 S0 K) (HeldS w1) L f (listed.setIfInBounds i true) a' w') a w :=
      evAs_ok hN sim (hS rfl) h.1 fun s' a' w' hK ⟨φ', sim'⟩ hS' => ⟨hS', (evSy_ok hN hu hs t false f _ s' φ' a' w' hB'.1.2 sim' (fun he => hS' (by have := hB'.1.1.2; rw [he, Bool.or_false] at this; exact of_decide_eq_true this)) hK).1 rfl⟩
    have hoth := (evSy_ok hN hu hs u true (f + 1) listed s φ a w hB'.2 sim (fun _ => hS rfl) h.2).2 rfl f rfl
    refine ⟨fun hb => ?_, fun _ g hg j hj => ?_⟩
    · subst hb
      have hr : Region.ready .any ops.toArray listed = i :: u.heads := by simpa using hB'.1.1.1
      refine ⟨fun h0 => (by rw [hr] at h0; cases h0), fun j hj => ?_⟩
      rw [hr] at hj
      rcases List.mem_cons.1 hj with rfl | hj
      · exact hop
      · exact hoth j hj
    · obtain rfl : f = g := by omega
      rcases List.mem_cons.1 (show j ∈ i :: u.heads from hj) with rfl | hj
      · exact hop
      · exact hoth j hj

theorem evTakeS_ok (hN : w0.heap.size = N) {ops : List Oper} {L : Nat} (hu : unguarded ops = true) (hs : Region.noSelect ops.toArray = true) {K : ASt → Prop} {t : Nx} : ∀ (ks : List Nat) (f : Nat) (listed : Array Bool) (s : ASt) (φ : List (Option (Nat × Nat))) (a : Act),
    okTakeS ops.toArray L t f listed ks = true → SimAt w0 S0 s φ a w1 → evTake P ops (evSy N P ops L K t) ks s → wpAnyS P ops.toArray (Ends w0 S0 K) (HeldS w1) L f listed a w1
  | [], f, listed, s, φ, a, hB, sim, h => (evSy_ok hN hu hs t false f listed s φ a w1 (by cases f <;> exact hB) sim (fun _ => Below.refl _ _) h).1 rfl
  | k :: ks, 0, listed, s, φ, a, hB, sim, h => by simp [okTakeS] at hB
  | k :: ks, f + 1, listed, s, φ, a, hB, sim, h => by
    unfold okTakeS at hB
    simp only [Bool.and_eq_true] at hB
    obtain ⟨⟨⟨⟨hL, h1⟩, hr⟩, hf⟩, hB⟩ := hB
    change evAt P true ops k (evTake P ops (evSy N P ops L K t) ks) s at h
    unfold evAt at h
    split at h
    · rename_i o ho
      have ho' : ops.toArray[k]? = some o := by simpa using ho
      rw [ho'] at h1
      obtain ⟨s', v, hK, sim', hy⟩ := evOp_held (ops := ops.toArray) sim (unguarded_get hu ho) h1 h
      exact wpAnyS_take ho' hs hL (fun c a w hq => by cases hq.1) f listed a w1 (Region.free_spec ho' hf) (by simpa using hr) hy (Below.refl _ _) (evTakeS_ok hN hu hs ks f _ s' φ _ hB sim' hK)
    · exact h.elim

/-- A region whose order is open: ks, loads among them, are taken first; L is its last operation; what is left comes in one of the orders of t. -/
theorem AWP.drawn_sy [Cx] {id : Nat} {ops : List Oper} {Q : Exit → ASt → Prop} {s : ASt} (L : Nat) (ks : List Nat) (t : Nx) (hm : P.follows .mixedOrders = true)
    (hB : (unguarded ops && Region.noSelect ops.toArray && okTakeS ops.toArray L t ops.toArray.size (Array.replicate ops.toArray.size false) ks) = true)
    (h : evTake P ops (evSy N P ops L (Q .normal) t) ks s) : AWP N P (.region id ops.toArray true) Q s := by
  simp only [Bool.and_eq_true] at hB
  refine AWP.of0 ?_
  rintro w0 S0 a w hN ⟨φ, sim⟩
  have sim1 : SimAt w0 S0 s φ a { w with drawn := w.drawn + 1 } := sim.after ⟨rfl, rfl, rfl, Nat.le_refl _, fun _ _ => rfl⟩
  have := wp_region_any (P := P) (id := id) hm (wpAnyS.any _ _ _ _ (evTakeS_ok hN hB.1.1 hB.1.2 ks _ _ s φ a hB.2 sim1 h))
  refine wp_mono this fun e a' w' ⟨he, s', hK, hsim⟩ => ?_
  subst he
  exact ⟨s', hK, hsim⟩

/-! ### Steps -/
def AxB (N : Nat) (P : Program) (K : ASt → Prop) (o : Oper) (s : ASt) : Prop := OpAnyB N P o K s
theorem sy_done {ops : List Oper} {L : Nat} {K : ASt → Prop} {s : ASt} (h : K s) : evSy N P ops L K .done s := h
theorem sy_take {ops : List Oper} {L : Nat} {K : ASt → Prop} {k : Nat} {t : Nx} {s : ASt} {o : Oper} (ho : ops[k]? = some o) (h : ∀ K' : ASt → Prop, (∀ s', evSy N P ops L K t s' → K' s') → evOp P true o K' s) : evSy N P ops L K (.take k t) s := by
  show evAt P true ops k _ s
  unfold evAt; rw [ho]; exact h _ fun _ h => h
theorem sy_one {ops : List Oper} {L : Nat} {K : ASt → Prop} {k : Nat} {t : Nx} {s : ASt} {o : Oper} (hk : k ≠ L) (ho : ops[k]? = some o) (h : AxB N P (evSy N P ops L K t) o s) : evSy N P ops L K (.one k t) s := by
  show evAs N P ops L k _ s
  unfold evAs; rw [ho]; exact .inr h
theorem sy_last {ops : List Oper} {L : Nat} {K : ASt → Prop} {t : Nx} {s : ASt} {o : Oper} (ho : ops[L]? = some o) (h : Ax N P (evSy N P ops L K t) o s) : evSy N P ops L K (.one L t) s := by
  show evAs N P ops L L _ s
  unfold evAs; rw [ho]; exact .inl ⟨rfl, h⟩
theorem sy_alt {ops : List Oper} {L : Nat} {K : ASt → Prop} {k : Nat} {t u : Nx} {s : ASt} {o : Oper} (hk : k ≠ L) (ho : ops[k]? = some o) (h : AxB N P (evSy N P ops L K t) o s) (h' : evSy N P ops L K u s) : evSy N P ops L K (.alt k t u) s := by
  refine ⟨?_, h'⟩
  unfold evAs; rw [ho]; exact .inr h
theorem sy_st {ops : List Oper} {L : Nat} {K : ASt → Prop} {t : Nx} {s : ASt} (h : StK N s (evSy N P ops L K t)) : evSy N P ops L K (.st t) s := h
theorem axb_op {K : ASt → Prop} {o : Oper} {s : ASt} (hg : o.guard = none) (hw : wr o = false) (h : ∀ K' : ASt → Prop, (∀ s', K s' → K' s') → evOp P false o K' s) : AxB N P K o s :=
  ⟨hg, fun w0 S0 φ a w hN sim next Q hn => evOp_below sim hw (h _ fun _ h => h) hn⟩
theorem axb_callE {K : ASt → Prop} {f : FuncId} {args : Array Operand} {d ty : Nat} {ts : Array TypeId} {pos : String} {after : Array Edge} {s : ASt} (h : callEK N P f args.toList d s K) :
    AxB N P K ⟨some d, .call ⟨.value (.func f), args, ts⟩, ty, pos, after, none⟩ s :=
  ⟨rfl, fun w0 S0 φ a w hN sim next Q hn => callE_below hN sim h hn⟩
end

set_option linter.unusedSimpArgs false
set_option linter.unusedVariables false
open Go.RowKit

/-- All blocks that a slot names have numbers from n on. -/
def SV.ge (n : Nat) : SV → Prop
  | .own id _ _ _ => n ≤ id
  | .ptr id _ => n ≤ id
  | _ => True
def geSs (n : Nat) : List SV → Prop
  | [] => True
  | v :: vs => v.ge n ∧ geSs n vs
def Slot.ge (n : Nat) : Slot → Prop
  | .one v => v.ge n
  | .many vs => geSs n vs
def geS (n : Nat) : List (Nat × Slot) → Prop
  | [] => True
  | (_, v) :: r => v.ge n ∧ geS n r
theorem geS.get {n : Nat} {v : Slot} {t : Nat} : ∀ {σ : List (Nat × Slot)}, geS n σ → lookup σ t = some v → v.ge n
  | [], _, h => by cases h
  | (k, x) :: r, g, h => by
    simp only [lookup] at h
    split at h
    · injection h with h; subst h; exact g.1
    · exact geS.get g.2 h

section
variable {P : Program} {w0 : World} {S0 : Nat → Prop} {N : Nat}

theorem RdS.shift {w : World} {S S' : Nat → Prop} {φ φ' : List (Option (Nat × Nat))} {n : Nat} (hS : ∀ b, S b → S' b) (hφ : ∀ id, n ≤ id → φ'[id]? = φ[id]?) : ∀ (v : SV) (u : Value), v.ge n → RdS w S φ v u → RdS w S' φ' v u
  | .pv v, u, _, h => Rd.mono (fun b hb _ => ⟨hS b hb, rfl⟩) v u h
  | .own id sz off len, u, hg, h => by
    rcases h with ⟨h1, h2⟩ | ⟨b, c, z, h1, h2⟩
    · exact .inl ⟨by rw [hφ id hg]; exact h1, h2⟩
    · exact .inr ⟨b, c, z, by rw [hφ id hg]; exact h1, h2⟩
  | .ptr id off, u, hg, h => by
    obtain ⟨b, z, h1, h2⟩ := h
    exact ⟨b, z, by rw [hφ id hg]; exact h1, h2⟩
  | .pin n f, u, _, h => by
    obtain ⟨b, off, rfl, h⟩ := h
    refine ⟨b, off, rfl, fun i hi => ?_⟩
    obtain ⟨h1, x, hx, hr⟩ := h i hi
    exact ⟨hS b h1, x, hx, Rd.mono (fun b hb _ => ⟨hS b hb, rfl⟩) _ _ hr⟩
  | .mp b L, u, _, h => ⟨h.1, hS _ h.2.1, h.2.2⟩
theorem RdSs.shift {w : World} {S S' : Nat → Prop} {φ φ' : List (Option (Nat × Nat))} {n : Nat} (hS : ∀ b, S b → S' b) (hφ : ∀ id, n ≤ id → φ'[id]? = φ[id]?) : ∀ (vs : List SV) (us : List Value), geSs n vs → RdSs w S φ vs us → RdSs w S' φ' vs us
  | [], [], _, _ => trivial
  | [], _ :: _, _, h => h.elim
  | _ :: _, [], _, h => h.elim
  | v :: vs, u :: us, hg, h => ⟨RdS.shift hS hφ v u hg.1 h.1, RdSs.shift hS hφ vs us hg.2 h.2⟩
theorem RdSlot.shift {w : World} {S S' : Nat → Prop} {φ φ' : List (Option (Nat × Nat))} {n : Nat} (hS : ∀ b, S b → S' b) (hφ : ∀ id, n ≤ id → φ'[id]? = φ[id]?) : ∀ (v : Slot) (u : Value), v.ge n → RdSlot w S φ v u → RdSlot w S' φ' v u
  | .one v, u, hg, h => RdS.shift hS hφ v u hg h
  | .many vs, u, hg, h => by
    obtain ⟨us, rfl, h⟩ := h
    exact ⟨us, rfl, RdSs.shift hS hφ vs us hg h⟩

def memN (t : Nat) : List Nat → Bool
  | [] => false
  | x :: r => if t = x then true else memN t r
/-- A slot that says a place alone. -/
def Slot.place : Slot → Prop
  | .one (.ptr _ _) => True
  | .one (.own _ _ _ _) => True
  | _ => False
/-- The slots of T as values alone. -/
def parkS (T : List Nat) (U : Nat → Value) : List (Nat × Slot) → List (Nat × Slot)
  | [] => []
  | (t, v) :: r => (t, if memN t T = true then sc (U t) else v) :: parkS T U r
/-- The slots of T as they were in τ. -/
def backS (T : List Nat) (τ : List (Nat × Slot)) : List (Nat × Slot) → List (Nat × Slot)
  | [] => []
  | (t, v) :: r => (t, if memN t T = true then (lookup τ t).getD v else v) :: backS T τ r
def geT (n : Nat) (T : List Nat) : List (Nat × Slot) → Prop
  | [] => True
  | (t, v) :: r => (if memN t T = true then True else v.ge n) ∧ geT n T r
def sameT (U : Nat → Value) (τ : List (Nat × Slot)) : List Nat → Prop
  | [] => True
  | t :: r => lookup τ t = some (sc (U t)) ∧ sameT U τ r
def placeT (τ : List (Nat × Slot)) : List Nat → Prop
  | [] => True
  | t :: r => (match lookup τ t with | some v => v.place | none => False) ∧ placeT τ r
theorem lookup_parkS {T : List Nat} {U : Nat → Value} {t : Nat} : ∀ {σ : List (Nat × Slot)}, lookup (parkS T U σ) t = (lookup σ t).map fun v => if memN t T = true then sc (U t) else v
  | [] => rfl
  | (k, v) :: r => by
    simp only [parkS, lookup]
    split
    · rename_i e; subst e; rfl
    · exact lookup_parkS
theorem lookup_backS {T : List Nat} {τ : List (Nat × Slot)} {t : Nat} : ∀ {σ : List (Nat × Slot)}, lookup (backS T τ σ) t = (lookup σ t).map fun v => if memN t T = true then (lookup τ t).getD v else v
  | [] => rfl
  | (k, v) :: r => by
    simp only [backS, lookup]
    split
    · rename_i e; subst e; rfl
    · exact lookup_backS
theorem geT.get {n : Nat} {T : List Nat} {v : Slot} {t : Nat} (ht : memN t T = false) : ∀ {σ : List (Nat × Slot)}, geT n T σ → lookup σ t = some v → v.ge n
  | [], _, h => by cases h
  | (k, x) :: r, g, h => by
    simp only [lookup] at h
    split at h
    · rename_i e; subst e; injection h with h; subst h
      have := g.1
      rw [if_neg (by rw [ht]; simp)] at this
      exact this
    · exact geT.get ht g.2 h
theorem sameT.get {U : Nat → Value} {τ : List (Nat × Slot)} {t : Nat} : ∀ {T : List Nat}, memN t T = true → sameT U τ T → lookup τ t = some (sc (U t))
  | [], h, _ => by cases h
  | x :: r, h, g => by
    simp only [memN] at h
    split at h
    · rename_i e; subst e; exact g.1
    · exact sameT.get h g.2
theorem placeT.get {τ : List (Nat × Slot)} {t : Nat} : ∀ {T : List Nat}, memN t T = true → placeT τ T → ∃ v, lookup τ t = some v ∧ v.place
  | [], h, _ => by cases h
  | x :: r, h, g => by
    simp only [memN] at h
    split at h
    · rename_i e; subst e
      have := g.1
      split at this
      · rename_i v hv; exact ⟨v, hv, this⟩
      · exact this.elim
    · exact placeT.get h g.2
theorem Slot.place.rd {v : Slot} {u : Value} {w w' : World} {S S' : Nat → Prop} {φ φ' : List (Option (Nat × Nat))} (hp : v.place) (hφ : ∀ (id : Nat) x, φ[id]? = some x → φ'[id]? = some x) (h : RdSlot w S φ v u) : RdSlot w' S' φ' v u := by
  match v, hp with
  | .one (.ptr id off), _ =>
    obtain ⟨b, z, h1, h2⟩ := h
    exact ⟨b, z, hφ _ _ h1, h2⟩
  | .one (.own id sz off len), _ =>
    rcases h with ⟨h1, h2⟩ | ⟨b, c, z, h1, h2⟩
    · exact .inl ⟨hφ _ _ h1, h2⟩
    · exact .inr ⟨b, c, z, hφ _ _ h1, h2⟩

/-- The state without its blocks; the slots of T are values alone. -/
def parked (T : List Nat) (U : Nat → Value) (s : ASt) : ASt := ⟨parkS T U s.σ, s.h.map fun _ => none, s.nt⟩
def unparked (T : List Nat) (s0 : ASt) (s : ASt) : ASt := ⟨backS T s0.σ s.σ, s0.h ++ s.h.drop s0.h.length, s.nt⟩

theorem none_map {h : List (Option Blk)} {id : Nat} {b : Blk} : (h.map fun _ => (none : Option Blk))[id]? ≠ some (some b) := by
  intro e
  rw [List.getElem?_map] at e
  cases hh : h[id]? with
  | none => rw [hh] at e; cases e
  | some x => rw [hh] at e; simp at e

theorem SimAt.park {s : ASt} {φ : List (Option (Nat × Nat))} {a : Act} {w : World} (sim : SimAt w0 S0 s φ a w) (T : List Nat) : SimAt w (Stab w0 S0 s.h φ) (parked T (fun t => (a.tmps[t]?).getD undef) s) φ a w := by
  have hnl : ∀ b, ¬ Live (s.h.map fun _ => (none : Option Blk)) φ b := fun b ⟨id, blk, z, h1, _⟩ => none_map h1
  refine ⟨⟨by simp [parked, sim.heap.len], Below.refl _ _, fun id blk hi => (none_map hi).elim, fun i j bi bj b z z' h1 => (none_map h1).elim⟩, fun k v hk => ?_, ⟨sim.defers.1, sim.gl⟩, sim.size⟩
  simp only [parked] at hk ⊢
  rw [lookup_parkS] at hk
  cases hl : lookup s.σ k with
  | none => rw [hl] at hk; cases hk
  | some v0 =>
    rw [hl] at hk
    obtain ⟨u', hu', hr⟩ := sim.slots k v0 hl
    have hk : (if memN k T = true then sc ((a.tmps[k]?).getD undef) else v0) = v := by injection hk
    subst hk
    refine ⟨u', hu', ?_⟩
    split
    · show u' = _
      rw [hu']; rfl
    · exact RdSlot.mono (fun b hb _ => ⟨⟨.inl hb, hnl b⟩, rfl⟩) (fun _ _ h => h) v0 u' hr

theorem SimAt.unpark {s s2 : ASt} {φ φ2 : List (Option (Nat × Nat))} {a a2 : Act} {w w2 : World} (sim : SimAt w0 S0 s φ a w) {T : List Nat} (hpl : placeT s.σ T)
    (sim2 : SimAt w (Stab w0 S0 s.h φ) s2 φ2 a2 w2) (hlen : s.h.length ≤ s2.h.length) (ht : sameT (fun t => (a.tmps[t]?).getD undef) s2.σ T) (hge : geT s.h.length T s2.σ) :
    SimAt w0 S0 (unparked T s s2) (φ ++ φ2.drop s.h.length) a2 w2 := by
  have hl := sim.heap.len
  have hl2 := sim2.heap.len
  have hB := sim.heap.below.size
  have hold : ∀ b, Live s.h φ b → b < w.heap.size := fun b ⟨id, blk, z, h1, h2⟩ => by
    rcases sim.heap.blk id blk h1 with ⟨h3, _⟩ | ⟨b', cur, h3, _, h4, _⟩
    · rw [h3] at h2; cases h2
    · rw [h3] at h2; injection h2 with h2; injection h2 with h2; injection h2 with h2 h5; subst h2
      exact block_lt h4
  have hnew : ∀ b, Live s2.h φ2 b → w.heap.size ≤ b := fun b ⟨id, blk, z, h1, h2⟩ => by
    rcases sim2.heap.blk id blk h1 with ⟨h3, _⟩ | ⟨b', cur, h3, h4, _⟩
    · rw [h3] at h2; cases h2
    · rw [h3] at h2; injection h2 with h2; injection h2 with h2; injection h2 with h2 h5; subst h2
      exact h4
  have hdrop : ∀ b, Live (s2.h.drop s.h.length) (φ2.drop s.h.length) b → Live s2.h φ2 b := fun b ⟨id, blk, z, h1, h2⟩ => by
    rw [List.getElem?_drop] at h1 h2
    exact ⟨_, blk, z, h1, h2⟩
  have hlive : ∀ b, Live (s.h ++ s2.h.drop s.h.length) (φ ++ φ2.drop s.h.length) b → Live s.h φ b ∨ Live s2.h φ2 b := fun b h => ((live_append hl).1 h).imp id (hdrop b)
  have hS : ∀ b, Stab w (Stab w0 S0 s.h φ) s2.h φ2 b → Stab w0 S0 (s.h ++ s2.h.drop s.h.length) (φ ++ φ2.drop s.h.length) b := fun b ⟨h1, h2⟩ => by
    refine ⟨h1.elim (fun h => h.1) (fun h => .inr (by omega)), fun h => ?_⟩
    rcases hlive b h with h | h
    · exact h1.elim (fun h' => h'.2 h) (fun h' => by have := hold b h; omega)
    · exact h2 h
  have hS1 : ∀ b, Stab w0 S0 s.h φ b → b < w.heap.size → Stab w0 S0 (s.h ++ s2.h.drop s.h.length) (φ ++ φ2.drop s.h.length) b ∧ w2.heap[b]? = w.heap[b]? := fun b h1 h2 => by
    refine ⟨⟨h1.1, fun h => ?_⟩, sim2.heap.below.block b h2⟩
    rcases hlive b h with h | h
    · exact h1.2 h
    · have := hnew b h; omega
  have hget : ∀ id, s.h.length ≤ id → (φ ++ φ2.drop s.h.length)[id]? = φ2[id]? := fun id h => by
    rw [List.getElem?_append_right (by omega), List.getElem?_drop, show s.h.length + (id - φ.length) = id by omega]
  have hgeth : ∀ id, s.h.length ≤ id → (s.h ++ s2.h.drop s.h.length)[id]? = s2.h[id]? := fun id h => by
    rw [List.getElem?_append_right h, List.getElem?_drop, show s.h.length + (id - s.h.length) = id by omega]
  have hlo : ∀ id, id < s.h.length → (φ ++ φ2.drop s.h.length)[id]? = φ[id]? := fun id h => List.getElem?_append_left (by omega)
  have hloh : ∀ id, id < s.h.length → (s.h ++ s2.h.drop s.h.length)[id]? = s.h[id]? := fun id h => List.getElem?_append_left h
  have place : ∀ (id : Nat) (blk : Blk) (b z : Nat), (s.h ++ s2.h.drop s.h.length)[id]? = some (some blk) → (φ ++ φ2.drop s.h.length)[id]? = some (some (b, z)) →
      (id < s.h.length ∧ s.h[id]? = some (some blk) ∧ φ[id]? = some (some (b, z)) ∧ b < w.heap.size) ∨ (s.h.length ≤ id ∧ s2.h[id]? = some (some blk) ∧ φ2[id]? = some (some (b, z)) ∧ w.heap.size ≤ b) := fun id blk b z h1 h2 => by
    rcases Nat.lt_or_ge id s.h.length with h | h
    · rw [hloh id h] at h1; rw [hlo id h] at h2
      exact .inl ⟨h, h1, h2, hold b ⟨id, blk, z, h1, h2⟩⟩
    · rw [hgeth id h] at h1; rw [hget id h] at h2
      exact .inr ⟨h, h1, h2, hnew b ⟨id, blk, z, h1, h2⟩⟩
  refine ⟨⟨?_, sim.heap.below.trans (sim2.heap.below.mono hB), fun id blk hi => ?_, fun i j bi bj b z z' h1 h2 h3 h4 => ?_⟩, fun k v hk => ?_, ⟨sim2.defers.1, sim.defers.2⟩, sim2.size⟩
  · simp only [unparked, List.length_append, List.length_drop]; omega
  · simp only [unparked] at hi ⊢
    rcases Nat.lt_or_ge id s.h.length with h | h
    · rw [hloh id h] at hi; rw [hlo id h]
      rcases sim.heap.blk id blk hi with h1 | ⟨b, cur, h1, h2, h3, h4, h5⟩
      · exact .inl h1
      · refine .inr ⟨b, cur, h1, h2, by rw [sim2.heap.below.block b (block_lt h3)]; exact h3, h4, fun i hi => ?_⟩
        obtain ⟨y, hy, hr⟩ := h5 i hi
        exact ⟨y, hy, Rd.mono hS1 _ _ hr⟩
    · rw [hgeth id h] at hi; rw [hget id h]
      rcases sim2.heap.blk id blk hi with h1 | ⟨b, cur, h1, h2, h3, h4, h5⟩
      · exact .inl h1
      · refine .inr ⟨b, cur, h1, by omega, h3, h4, fun i hi => ?_⟩
        obtain ⟨y, hy, hr⟩ := h5 i hi
        exact ⟨y, hy, Rd.mono (fun b hb _ => ⟨hS b hb, rfl⟩) _ _ hr⟩
  · rcases place i bi b z h1 h3 with ⟨_, q1, q2, q3⟩ | ⟨_, q1, q2, q3⟩ <;> rcases place j bj b z' h2 h4 with ⟨_, r1, r2, r3⟩ | ⟨_, r1, r2, r3⟩
    · exact sim.heap.inj i j bi bj b z z' q1 r1 q2 r2
    · omega
    · omega
    · exact sim2.heap.inj i j bi bj b z z' q1 r1 q2 r2
  · simp only [unparked] at hk ⊢
    rw [lookup_backS] at hk
    cases hl2 : lookup s2.σ k with
    | none => rw [hl2] at hk; cases hk
    | some v0 =>
      rw [hl2] at hk
      have hk : (if memN k T = true then (lookup s.σ k).getD v0 else v0) = v := by injection hk
      obtain ⟨u', hu', hr⟩ := sim2.slots k v0 hl2
      by_cases hm : memN k T = true
      · rw [if_pos hm] at hk
        obtain ⟨x, hx, hp⟩ := hpl.get hm
        rw [hx] at hk
        have hk : x = v := hk
        subst hk
        have h1 := ht.get hm
        rw [hl2] at h1
        injection h1 with h1
        subst h1
        have h2 : u' = (a.tmps[k]?).getD undef := hr
        obtain ⟨u, hu, hrx⟩ := sim.slots k x hx
        rw [hu] at h2
        have h2 : u' = u := h2
        subst h2
        refine ⟨u', hu', Slot.place.rd hp (fun id y hy => ?_) hrx⟩
        rw [hlo id (by have := (List.getElem?_eq_some_iff.1 hy).1; omega)]; exact hy
      · rw [if_neg hm] at hk
        subst hk
        have hg : v0.ge s.h.length := geT.get (by simpa using hm) hge hl2
        exact ⟨u', hu', RdSlot.shift hS (fun id h => hget id h) v0 u' hg hr⟩

/-! ### A drawn region, no block known ahead of it -/
variable {w1 : World} {S1 : Nat → Prop}
theorem evSr_ok {ops : List Oper} {L : Nat} (hu : unguarded ops = true) (hs : Region.noSelect ops.toArray = true) {K : ASt → Prop} (hN : w1.heap.size = N) {E : Exit → Act → World → Prop} (hE : ∀ s φ a w, K s → SimAt w1 S1 s φ a w → E .normal a w) (hp : ∀ c a w, ¬ E (.panic c) a w) :
    ∀ (t : Nx) (b : Bool) (f : Nat) (listed : Array Bool) (s : ASt) (φ : List (Option (Nat × Nat))) (a : Act) (w : World),
    okSx ops.toArray L b f listed t = true → SimAt w1 S1 s φ a w → evNx N P ops K t s →
    (b = false → wpAnyS P ops.toArray E (HeldS w1) L f listed a w) ∧
    (b = true → ∀ g, f = g + 1 → ∀ j ∈ t.heads, wpOp P ops.toArray E j (fun a' w' => (j ≠ L → HeldS w1 w') ∧ wpAnyS P ops.toArray E (HeldS w1) L g (listed.setIfInBounds j true) a' w') a w)
  | .done, b, f, listed, s, φ, a, w, hB, sim, h => by
    refine ⟨fun _ => ?_, fun _ g _ j hj => by simp [Nx.heads] at hj⟩
    have hr : Region.ready .any ops.toArray listed = [] := by
      cases b <;> cases f <;> exact of_decide_eq_true hB
    exact wpAnyS_done hr (hE s φ a w h sim) f
  | .st t, true, f, listed, s, φ, a, w, hB, sim, h => by cases f <;> simp [okSx] at hB
  | .st t, false, f, listed, s, φ, a, w, hB, sim, h => by
    refine ⟨fun _ => ?_, fun hb => by cases hb⟩
    have hB' : okSx ops.toArray L false f listed t = true := by cases f <;> simpa [okSx] using hB
    obtain ⟨s', φ', hK, sim'⟩ := h w1 S1 φ a w hN sim
    exact (evSr_ok hu hs hN hE hp t false f listed s' φ' a w hB' sim' hK).1 rfl
  | .take i t, true, f, listed, s, φ, a, w, hB, sim, h => by cases f <;> simp [okSx] at hB
  | .take i t, false, 0, listed, s, φ, a, w, hB, sim, h => by simp [okSx] at hB
  | .take i t, false, f + 1, listed, s, φ, a, w, hB, sim, h => by
    refine ⟨fun _ => ?_, fun hb => by cases hb⟩
    simp only [okSx, Bool.and_eq_true] at hB
    obtain ⟨⟨⟨⟨hL, h1⟩, hr⟩, hf⟩, hB⟩ := hB
    change evAt P true ops i (evNx N P ops K t) s at h
    unfold evAt at h
    split at h
    · rename_i o ho
      have ho' : ops.toArray[i]? = some o := by simpa using ho
      rw [ho'] at h1
      simp only [Bool.and_eq_true] at h1
      obtain ⟨s', v, hK, sim', hy⟩ := evOp_pure (ops := ops.toArray) sim (unguarded_get hu ho) h1.1 h1.2 h
      exact wpAnyS_take ho' hs hL (fun c a w hq => (hp c _ w hq).elim) f listed a w (Region.free_spec ho' hf) (by simpa using hr) hy.yieldsIf sim.heap.below ((evSr_ok hu hs hN hE hp t false f _ s' φ _ w hB sim' hK).1 rfl)
    · exact h.elim
  | .one i t, b, 0, listed, s, φ, a, w, hB, sim, h => by cases b <;> simp [okSx] at hB
  | .one i t, b, f + 1, listed, s, φ, a, w, hB, sim, h => by
    have hB' : ((b || decide (Region.ready .any ops.toArray listed = [i])) = true ∧ (decide (i ≠ L) || endB t) = true) ∧ okSx ops.toArray L false f (listed.setIfInBounds i true) t = true := by
      cases b <;> simpa [okSx] using hB
    have hop : wpOp P ops.toArray E i (fun a' w' => (i ≠ L → HeldS w1 w') ∧ wpAnyS P ops.toArray E (HeldS w1) L f (listed.setIfInBounds i true) a' w') a w :=
      evAx_ok hN sim h fun s' a' w' hK hs' => by
        obtain ⟨φ', sim'⟩ := hs'.none
        exact ⟨fun _ => sim'.heap.below, (evSr_ok hu hs hN hE hp t false f _ s' φ' a' w' hB'.2 sim' hK).1 rfl⟩
    refine ⟨fun hb => ?_, fun _ g hg j hj => ?_⟩
    · subst hb
      have hr : Region.ready .any ops.toArray listed = [i] := by simpa using hB'.1.1
      refine ⟨fun h0 => (by rw [hr] at h0; cases h0), fun j hj => ?_⟩
      rw [hr] at hj
      obtain rfl : j = i := by simpa using hj
      exact hop
    · obtain rfl : f = g := by omega
      obtain rfl : j = i := by simpa [Nx.heads] using hj
      exact hop
  | .alt i t u, b, 0, listed, s, φ, a, w, hB, sim, h => by cases b <;> simp [okSx] at hB
  | .alt i t u, b, f + 1, listed, s, φ, a, w, hB, sim, h => by
    have hB' : (((b || decide (Region.ready .any ops.toArray listed = i :: u.heads)) = true ∧ (decide (i ≠ L) || endB t) = true) ∧ okSx ops.toArray L false f (listed.setIfInBounds i true) t = true) ∧ okSx ops.toArray L true (f + 1) listed u = true := by
      cases b <;> simpa [okSx] using hB
    have hop : wpOp P ops.toArray E i (fun a' w' => (i ≠ L → HeldS w1 w') ∧ wpAnyS P ops.toArray E (HeldS w1) L f (listed.setIfInBounds i true) a' w') a w :=
      evAx_ok hN sim h.1 fun s' a' w' hK hs' => by
        obtain ⟨φ', sim'⟩ := hs'.none
        exact ⟨fun _ => sim'.heap.below, (evSr_ok hu hs hN hE hp t false f _ s' φ' a' w' hB'.1.2 sim' hK).1 rfl⟩
    have hoth := (evSr_ok hu hs hN hE hp u true (f + 1) listed s φ a w hB'.2 sim h.2).2 rfl f rfl
    refine ⟨fun hb => ?_, fun _ g hg j hj => ?_⟩
    · subst hb
      have hr : Region.ready .any ops.toArray listed = i :: u.heads := by simpa using hB'.1.1.1
      refine ⟨fun h0 => (by rw [hr] at h0; cases h0), fun j hj => ?_⟩
      rw [hr] at hj
      rcases List.mem_cons.1 hj with rfl | hj
      · exact hop
      · exact hoth j hj
    · obtain rfl : f = g := by omega
      rcases List.mem_cons.1 (show j ∈ i :: u.heads from hj) with rfl | hj
      · exact hop
      · exact hoth j hj

/-- Behind the loads: the slots of T are set aside, the rest of the region comes in the orders of t. -/
def parkK (N : Nat) (P : Program) (ops : List Oper) (T : List Nat) (t : Nx) (Q : ASt → Prop) (s : ASt) : Prop :=
  placeT s.σ T ∧ ∀ (U : Nat → Value) (N1 : Nat), N ≤ N1 → evNx N1 P ops (fun s2 => s.h.length ≤ s2.h.length ∧ sameT U s2.σ T ∧ geT s.h.length T s2.σ ∧ Q (unparked T s s2)) t (parked T U s)
theorem park_go {ops : List Oper} {T : List Nat} {t : Nx} {Q : ASt → Prop} {s : ASt} (h1 : placeT s.σ T) (h2 : ∀ (U : Nat → Value) (N1 : Nat), N ≤ N1 → evNx N1 P ops (fun s2 => s.h.length ≤ s2.h.length ∧ sameT U s2.σ T ∧ geT s.h.length T s2.σ ∧ Q (unparked T s s2)) t (parked T U s)) : parkK N P ops T t Q s := ⟨h1, h2⟩

theorem evTakeR_ok {ops : List Oper} {L : Nat} (hu : unguarded ops = true) (hs : Region.noSelect ops.toArray = true) {T : List Nat} {Q : ASt → Prop} (hN : w0.heap.size = N) (hsz : w0.heap.size ≤ w1.heap.size) {t : Nx} : ∀ (ks : List Nat) (f : Nat) (listed : Array Bool) (s : ASt) (φ : List (Option (Nat × Nat))) (a : Act),
    okTakeS ops.toArray L t f listed ks = true → SimAt w0 S0 s φ a w1 → evTake P ops (parkK N P ops T t Q) ks s → wpAnyS P ops.toArray (Ends w0 S0 Q) (HeldS w1) L f listed a w1
  | [], f, listed, s, φ, a, hB, sim, h => by
    have h : parkK N P ops T t Q s := h
    exact (evSr_ok (E := Ends w0 S0 Q) hu hs rfl (fun s2 φ2 a' w' ⟨h1, h2, h3, hQ⟩ sim2 => ⟨rfl, _, hQ, _, sim.unpark h.1 sim2 h1 h2 h3⟩) (fun c a w h => by cases h.1) t false f listed (parked T (fun t => (a.tmps[t]?).getD undef) s) φ a w1 (by cases f <;> exact hB) (sim.park T) (h.2 _ w1.heap.size (by omega))).1 rfl
  | k :: ks, 0, listed, s, φ, a, hB, sim, h => by simp [okTakeS] at hB
  | k :: ks, f + 1, listed, s, φ, a, hB, sim, h => by
    unfold okTakeS at hB
    simp only [Bool.and_eq_true] at hB
    obtain ⟨⟨⟨⟨hL, h1⟩, hr⟩, hf⟩, hB⟩ := hB
    change evAt P true ops k (evTake P ops (parkK N P ops T t Q) ks) s at h
    unfold evAt at h
    split at h
    · rename_i o ho
      have ho' : ops.toArray[k]? = some o := by simpa using ho
      rw [ho'] at h1
      obtain ⟨s', v, hK, sim', hy⟩ := evOp_held (ops := ops.toArray) sim (unguarded_get hu ho) h1 h
      exact wpAnyS_take ho' hs hL (fun c a w hq => by cases hq.1) f listed a w1 (Region.free_spec ho' hf) (by simpa using hr) hy (Below.refl _ _) (evTakeR_ok hu hs hN hsz ks f _ s' φ _ hB sim' hK)
    · exact h.elim

/-- A region whose order is open: loads ks are taken first; then the slots of T (pointers into blocks that the region leaves alone) are set aside, and the rest comes in the orders of t. -/
theorem AWP.drawn_sr [Cx] {id : Nat} {ops : List Oper} {Q : Exit → ASt → Prop} {s : ASt} (T : List Nat) (L : Nat) (ks : List Nat) (t : Nx) (hm : P.follows .mixedOrders = true)
    (hB : (unguarded ops && Region.noSelect ops.toArray && okTakeS ops.toArray L t ops.toArray.size (Array.replicate ops.toArray.size false) ks) = true)
    (h : evTake P ops (parkK N P ops T t (Q .normal)) ks s) : AWP N P (.region id ops.toArray true) Q s := by
  simp only [Bool.and_eq_true] at hB
  refine AWP.of0 ?_
  rintro w0 S0 a w hN ⟨φ, sim⟩
  have sim1 : SimAt w0 S0 s φ a { w with drawn := w.drawn + 1 } := sim.after ⟨rfl, rfl, rfl, Nat.le_refl _, fun _ _ => rfl⟩
  have := wp_region_any (P := P) (id := id) hm (wpAnyS.any _ _ _ _ (evTakeR_ok hB.1.1 hB.1.2 hN sim1.heap.below.size ks _ _ s φ a hB.2 sim1 h))
  refine wp_mono this fun e a' w' ⟨he, s', hK, hsim⟩ => ?_
  subst he
  exact ⟨s', hK, hsim⟩
end

end Go.Proofs.Yteapdildbfimnaa
