/- A region whose order is open: loads are taken first, for until its last operation nothing is written that was there. No conditions. -/
import Derived.Test.YtfgpmjboplollaaEngX
import Derived.OrdersHeld
namespace Go.Proofs.Ytfgpmjboplollaa
set_option linter.unusedSimpArgs false
set_option linter.unusedVariables false
open Go.RowKit

section
variable {P : Program} {ops : Array Oper} {Q : Exit → Act → World → Prop} {S : World → Prop}

/-- In whatever order; S holds behind all operations but number L. -/
def wpAnyS (P : Program) (ops : Array Oper) (Q : Exit → Act → World → Prop) (S : World → Prop) (L : Nat) : Nat → Array Bool → Act → World → Prop
  | 0, listed, a, w => Region.ready .any ops listed = [] ∧ Q .normal a w
  | f + 1, listed, a, w => (Region.ready .any ops listed = [] → Q .normal a w) ∧
    ∀ i ∈ Region.ready .any ops listed, wpOp P ops Q i (fun a' w' => (i ≠ L → S w') ∧ wpAnyS P ops Q S L f (listed.setIfInBounds i true) a' w') a w

theorem wpAnyS.any {L : Nat} : ∀ (f : Nat) (listed : Array Bool) (a : Act) (w : World), wpAnyS P ops Q S L f listed a w → wpAny P .any ops Q f listed a w
  | 0, _, _, _, h => h
  | f + 1, _, _, _, h => ⟨h.1, fun i hi => wpOp_mono (fun a' w' h' => wpAnyS.any f _ a' w' h'.2) (h.2 i hi)⟩

/-- Operation number L waits for number i. -/
def waitsB (ops : Array Oper) (L i : Nat) : Bool :=
  match ops[L]? with
  | some o => o.after.any fun e => Region.binds .any e && e.on == i
  | none => false

/-- An operation that gives its value in every world of S, and that L waits for, is taken first. -/
theorem wpAnyS_take {L i : Nat} {oi : Oper} {v : Value} (hi : ops[i]? = some oi) (hs : Region.noSelect ops = true) (hL : waitsB ops L i = true) (hQ : ∀ c a w, Q (.panic c) (a.put oi.dst v) w → Q (.panic c) a w) :
    ∀ (f : Nat) (listed : Array Bool) (a : Act) (w : World),
      (∀ j oj, ops[j]? = some oj → j ≠ i → listed.getD j true = false → (∀ e ∈ oj.after, Region.binds .any e = true → e.on ≠ i) → oi.apart ops oj = true) →
      i ∈ Region.ready .any ops listed → YieldsIf P ops S oi v a → S w → wpAnyS P ops Q S L f (listed.setIfInBounds i true) (a.put oi.dst v) w → wpAnyS P ops Q S L (f + 1) listed a w := by
  have hsel := Region.noSelect_spec hs
  intro f
  induction f with
  | zero =>
    intro listed a w _ hr hy hS H
    refine ⟨fun h => (by rw [h] at hr; cases hr), fun j hj => ?_⟩
    by_cases e : j = i
    · subst e; exact hy.wpOp hi hS ⟨fun _ => hS, H⟩
    · have h1 := ready_mono hj e
      rw [H.1] at h1; cases h1
  | succ f ih =>
    intro listed a w hfree hr hy hS H
    refine ⟨fun h => (by rw [h] at hr; cases hr), fun j hj => ?_⟩
    by_cases e : j = i
    · subst e; exact hy.wpOp hi hS ⟨fun _ => hS, H⟩
    obtain ⟨hjun, oj, hoj, hall⟩ := mem_ready.1 hj
    have hiun := (mem_ready.1 hr).1
    have hno : ∀ e ∈ oj.after, Region.binds .any e = true → e.on ≠ i := fun e he hb heq => by
      have h2 := hall e he hb
      rw [heq] at h2
      rcases Nat.lt_or_ge i listed.size with h' | h'
      · simp [h'] at hiun h2; rw [hiun] at h2; cases h2
      · simp [Array.getElem?_eq_none h'] at h2
    have hjL : j ≠ L := fun e => by
      subst e
      unfold waitsB at hL
      rw [hoj] at hL
      obtain ⟨e, he, hb⟩ := Array.any_eq_true'.1 hL
      simp only [Bool.and_eq_true, beq_iff_eq] at hb
      exact hno e he hb.1 hb.2
    have h2 := wpOp_putIf hoj (hfree j oj hoj e hjun hno) (fun cs b => hsel i oi cs b hi) (fun cs b => hsel j oj cs b hoj) hQ hy (H.2 j (ready_mono hj e))
    refine wpOp_mono (fun a' w' h3 => ⟨h3.2.1, ih (listed.setIfInBounds j true) a' w' (fun k ok hk hki hun hn => hfree k ok hk hki ?_ hn) (ready_mono hr (Ne.symm e)) h3.1 (h3.2.1 hjL) ?_⟩) h2
    · by_cases hjk : j = k
      · subst hjk; exact hjun
      · rw [getD_set_ne true hjk] at hun; exact hun
    · rw [Array.setIfInBounds_comm _ _ e]; exact h3.2.2
end

/-- An operation is done by whatever rule, and what was there is there as it was. -/
def OpAnyB (N : Nat) (P : Program) (o : Oper) (K : ASt → Prop) (s : ASt) : Prop :=
  o.guard = none ∧ ∀ (w0 : World) (S0 : Nat → Prop) (φ : List (Option (Nat × Nat))) (a : Act) (w : World), w0.heap.size = N → SimAt w0 S0 s φ a w → ∀ (next : Act → World → Prop) (Q : Exit → Act → World → Prop),
    (∀ s' a' w', K s' → Sim w0 S0 s' a' w' → Below w.heap.size w w' → next a' w') → o.wp P a w next Q

/-- Nothing is left to be done. -/
def endB : Nx → Bool
  | .done => true
  | .st t => endB t
  | _ => false
/-- Orders behind the takes. -/
def okSx (ops : Array Oper) (L : Nat) : Bool → Nat → Array Bool → Nx → Bool
  | _, _, listed, .done => decide (Region.ready .any ops listed = [])
  | false, f + 1, listed, .take i t => waitsB ops L i && (match ops[i]? with | some o => noCall o && noLoad o | none => false) && (Region.ready .any ops listed).contains i && Region.free .any ops listed i && okSx ops L false f (listed.setIfInBounds i true) t
  | b, f + 1, listed, .one i t => (b || decide (Region.ready .any ops listed = [i])) && (decide (i ≠ L) || endB t) && okSx ops L false f (listed.setIfInBounds i true) t
  | b, f + 1, listed, .alt i t u => (b || decide (Region.ready .any ops listed = i :: u.heads)) && (decide (i ≠ L) || endB t) && okSx ops L false f (listed.setIfInBounds i true) t && okSx ops L true (f + 1) listed u
  | false, f, listed, .st t => okSx ops L false f listed t
  | _, _, _, _ => false
def okTakeS (ops : Array Oper) (L : Nat) (t : Nx) : Nat → Array Bool → List Nat → Bool
  | f, listed, [] => okSx ops L false f listed t
  | f + 1, listed, k :: ks => waitsB ops L k && (match ops[k]? with | some o => noCall o | none => false) && (Region.ready .any ops listed).contains k && Region.free .any ops listed k && okTakeS ops L t f (listed.setIfInBounds k true) ks
  | _, _, _ => false

def evAs (N : Nat) (P : Program) (ops : List Oper) (L i : Nat) (K : ASt → Prop) (s : ASt) : Prop :=
  match ops[i]? with
  | some o => (i = L ∧ OpAny N P o K s) ∨ OpAnyB N P o K s
  | none => False
def evSy (N : Nat) (P : Program) (ops : List Oper) (L : Nat) (K : ASt → Prop) : Nx → ASt → Prop
  | .done, s => K s
  | .take i t, s => evAt P true ops i (evSy N P ops L K t) s
  | .one i t, s => evAs N P ops L i (evSy N P ops L K t) s
  | .alt i t u, s => evAs N P ops L i (evSy N P ops L K t) s ∧ evSy N P ops L K u s
  | .st t, s => StK N s (evSy N P ops L K t)

section
variable {P : Program} {w0 : World} {S0 : Nat → Prop} {N : Nat} {w1 : World}

/-- The worlds of a region: what stood there at its beginning stands there. -/
abbrev HeldS (w1 : World) : World → Prop := fun w => Below w1.heap.size w1 w

theorem evOp_held {ops : Array Oper} {o : Oper} {K : ASt → Prop} {s : ASt} {φ : List (Option (Nat × Nat))} {a : Act} {w : World} (sim : SimAt w0 S0 s φ a w) (hg : o.guard = none) (hc : noCall o = true) (h : evOp P true o K s) :
    ∃ s' v, K s' ∧ SimAt w0 S0 s' φ (a.put o.dst v) w ∧ YieldsIf P ops (HeldS w) o v a := by
  obtain ⟨dst, op, ty, pos, after, guard⟩ := o
  unfold evOp at h
  split at h
  · rename_i f args ts d hop hdst
    simp only at hop hdst
    subst hop hdst
    simp [noCall] at hc
  · rename_i t args ts d hop hdst
    simp only at hop hdst
    subst hop hdst
    simp [noCall] at hc
  · exact absurd h.1 (by simp)
  · exact absurd h.1 (by simp)
  · exact absurd h.1 (by simp)
  · exact absurd h.1 (by simp)
  · exact absurd h.1 (by simp)
  · exact absurd h.1 (by simp)
  · exact absurd h.1 (by simp)
  · rename_i d hdst _ _ _ _ _ _ _ _
    simp only at hdst
    subst hdst
    obtain ⟨r, v, hK, hr, hrun⟩ := evQ_ok (o := ⟨some d, op, ty, pos, after, guard⟩) h.2 sim
    exact ⟨_, v, hK, sim.put h.1 hr, .inl ⟨by simp only at hg; simp [Region.wanted, hg], fun w' hw' => hrun w' (.inr hw')⟩⟩
  · exact h.elim

theorem callE_below {f : FuncId} {args : Array Operand} {d ty : Nat} {ts : Array TypeId} {pos : String} {after : Array Edge} {s : ASt} {φ : List (Option (Nat × Nat))} {a : Act} {w : World} {K : ASt → Prop} {next : Act → World → Prop} {Q : Exit → Act → World → Prop}
    (hN : w0.heap.size = N) (sim : SimAt w0 S0 s φ a w) (h : callEK N P f args.toList d s K) (hn : ∀ s' a' w', K s' → Sim w0 S0 s' a' w' → Below w.heap.size w w' → next a' w') : (⟨some d, .call ⟨.value (.func f), args, ts⟩, ty, pos, after, none⟩ : Oper).wp P a w next Q := by
  obtain ⟨p', vs', ⟨R, hf, hd, hK⟩, h3, h4⟩ := argsK_ok sim args.toList true [] [] h sim.gl (fun _ => sim.gl)
  have hrun : (execOp a.eval ⟨some d, .call ⟨.value (.func f), args, ts⟩, ty, pos, after, none⟩).run P w = .ok (.enter f (args.toList.map a.eval).toArray) w := by
    have e : execOp a.eval ⟨some d, .call ⟨.value (.func f), args, ts⟩, ty, pos, after, none⟩ = callFunc f (#[] ++ args.map a.eval ++ #[]) := rfl
    rw [e, hf.1]
    congr 2
    rw [← Array.toList_inj]
    simp
  unfold Oper.wp
  rw [hrun, Oper.upon_enter]
  simp only [List.reverse_nil, List.nil_append] at h3 h4
  refine (hf.2 w _ h3).mono ?_
  rintro e w' ⟨r, u, ψ, hr, hnew, rfl, hh, hs⟩
  have hw := sim.heap.below.size
  refine hn _ _ _ (hK r hr (NewL.mono (fun Z hZ => ⟨fun b hb => by have := hZ b hb; omega, fun Z' hZ' b hb hb' => ?_⟩) _ hnew)) ⟨_, sim.call_new hd hnew hh hs⟩ hh.below
  have h1 := (hZ'.there sim b hb).2
  have h2 := hZ b hb'
  omega

theorem evAs_ok (hN : w0.heap.size = N) {ops : List Oper} {L i : Nat} {K : ASt → Prop} {s : ASt} {φ : List (Option (Nat × Nat))} {a : Act} {w : World} (sim : SimAt w0 S0 s φ a w) (hS : HeldS w1 w) (h : evAs N P ops L i K s)
    {next : Act → World → Prop} {Q : Exit → Act → World → Prop} (hn : ∀ s' a' w', K s' → Sim w0 S0 s' a' w' → (i ≠ L → HeldS w1 w') → next a' w') : wpOp P ops.toArray Q i next a w := by
  unfold evAs at h
  split at h
  · rename_i o ho
    unfold wpOp
    rw [show ops.toArray[i]? = some o by simpa using ho]
    simp only []
    rcases h with ⟨e, h⟩ | h
    · rw [if_pos (by simp [Region.wanted, h.1])]
      exact .inl (h.2 w0 S0 φ a w hN sim _ _ fun s' a' w' h1 h2 => hn s' a' w' h1 h2.none fun e' => absurd e e')
    · rw [if_pos (by simp [Region.wanted, h.1])]
      exact .inl (h.2 w0 S0 φ a w hN sim _ _ fun s' a' w' h1 h2 h3 => hn s' a' w' h1 h2 fun _ => hS.trans (h3.mono hS.size))
  · exact h.elim

theorem wpAnyS_done {ops : Array Oper} {Q : Exit → Act → World → Prop} {S : World → Prop} {L : Nat} {listed : Array Bool} {a : Act} {w : World} (hr : Region.ready .any ops listed = []) (h : Q .normal a w) : ∀ f, wpAnyS P ops Q S L f listed a w
  | 0 => ⟨hr, h⟩
  | _ + 1 => ⟨fun _ => h, by rw [hr]; simp⟩

theorem evSy_ok (hN : w0.heap.size = N) {ops : List Oper} {L : Nat} (hu : unguarded ops = true) (hs : Region.noSelect ops.toArray = true) {K : ASt → Prop} :
    ∀ (t : Nx) (b : Bool) (f : Nat) (listed : Array Bool) (s : ASt) (φ : List (Option (Nat × Nat))) (a : Act) (w : World),
    okSx ops.toArray L b f listed t = true → SimAt w0 S0 s φ a w → (endB t = false → HeldS w1 w) → evSy N P ops L K t s →
    (b = false → wpAnyS P ops.toArray (Ends w0 S0 K) (HeldS w1) L f listed a w) ∧
    (b = true → ∀ g, f = g + 1 → ∀ j ∈ t.heads, wpOp P ops.toArray (Ends w0 S0 K) j (fun a' w' => (j ≠ L → HeldS w1 w') ∧ wpAnyS P ops.toArray (Ends w0 S0 K) (HeldS w1) L g (listed.setIfInBounds j true) a' w') a w)
  | .done, b, f, listed, s, φ, a, w, hB, sim, hS, h => by
    refine ⟨fun _ => ?_, fun _ g _ j hj => by simp [Nx.heads] at hj⟩
    have hr : Region.ready .any ops.toArray listed = [] := by
      cases b <;> cases f <;> exact of_decide_eq_true hB
    exact wpAnyS_done hr ⟨rfl, s, h, φ, sim⟩ f
  | .st t, true, f, listed, s, φ, a, w, hB, sim, hS, h => by cases f <;> simp [okSx] at hB
  | .st t, false, f, listed, s, φ, a, w, hB, sim, hS, h => by
    refine ⟨fun _ => ?_, fun hb => by cases hb⟩
    have hB' : okSx ops.toArray L false f listed t = true := by cases f <;> simpa [okSx] using hB
    obtain ⟨s', φ', hK, sim'⟩ := h w0 S0 φ a w hN sim
    exact (evSy_ok hN hu hs t false f listed s' φ' a w hB' sim' hS hK).1 rfl
  | .take i t, true, f, listed, s, φ, a, w, hB, sim, hS, h => by cases f <;> simp [okSx] at hB
  | .take i t, false, 0, listed, s, φ, a, w, hB, sim, hS, h => by simp [okSx] at hB
  | .take i t, false, f + 1, listed, s, φ, a, w, hB, sim, hS, h => by
    refine ⟨fun _ => ?_, fun hb => by cases hb⟩
    simp only [okSx, Bool.and_eq_true] at hB
    obtain ⟨⟨⟨⟨hL, h1⟩, hr⟩, hf⟩, hB⟩ := hB
    change evAt P true ops i (evSy N P ops L K t) s at h
    unfold evAt at h
    split at h
    · rename_i o ho
      have ho' : ops.toArray[i]? = some o := by simpa using ho
      rw [ho'] at h1
      simp only [Bool.and_eq_true] at h1
      obtain ⟨s', v, hK, sim', hy⟩ := evOp_pure (ops := ops.toArray) sim (unguarded_get hu ho) h1.1 h1.2 h
      exact wpAnyS_take ho' hs hL (fun c a w hq => by cases hq.1) f listed a w (Region.free_spec ho' hf) (by simpa using hr) hy.yieldsIf (hS rfl) ((evSy_ok hN hu hs t false f _ s' φ _ w hB sim' (fun _ => hS rfl) hK).1 rfl)
    · exact h.elim
  | .one i t, b, 0, listed, s, φ, a, w, hB, sim, hS, h => by cases b <;> simp [okSx] at hB
  | .one i t, b, f + 1, listed, s, φ, a, w, hB, sim, hS, h => by
    have hB' : ((b || decide (Region.ready .any ops.toArray listed = [i])) = true ∧ (decide (i ≠ L) || endB t) = true) ∧ okSx ops.toArray L false f (listed.setIfInBounds i true) t = true := by
      cases b <;> simpa [okSx] using hB
    have hop : wpOp P ops.toArray (Ends w0 S0 K) i (fun a' w' => (i ≠ L → HeldS w1 w') ∧ wpAnyS P ops.toArray (Ends w0 S0 K) (HeldS w1) L f (listed.setIfInBounds i true) a' w') a w :=
      evAs_ok hN sim (hS rfl) h fun s' a' w' hK ⟨φ', sim'⟩ hS' => ⟨hS', (evSy_ok hN hu hs t false f _ s' φ' a' w' hB'.2 sim' (fun he => hS' (by have := hB'.1.2; rw [he, Bool.or_false] at this; exact of_decide_eq_true this)) hK).1 rfl⟩
    refine ⟨fun hb => ?_, fun _ g hg j hj => ?_⟩
    · subst hb
      have hr : Region.ready .any ops.toArray listed = [i] := by simpa using hB'.1.1
      refine ⟨fun h0 => (by rw [hr] at h0; cases h0), fun j hj => ?_⟩
      rw [hr] at hj
      obtain rfl : j = i := by simpa using hj
      exact hop
    · obtain rfl : f = g := by omega
      obtain rfl : j = i := by simpa [Nx.heads] using hj
      exact hop
  | .alt i t u, b, 0, listed, s, φ, a, w, hB, sim, hS, h => by cases b <;> simp [okSx] at hB
  | .alt i t u, b, f + 1, listed, s, φ, a, w, hB, sim, hS, h => by
    have hB' : (((b || decide (Region.ready .any ops.toArray listed = i :: u.heads)) = true ∧ (decide (i ≠ L) || endB t) = true) ∧ okSx ops.toArray L false f (listed.setIfInBounds i true) t = true) ∧ okSx ops.toArray L true (f + 1) listed u = true := by
      cases b <;> simpa [okSx] using hB
    have hop : wpOp P ops.toArray (Ends w0 S0 K) i (fun a' w' => (i ≠ L → HeldS w1 w') ∧ wpAnyS P ops.toArray (Ends w0 S0 K) (HeldS w1) L f (listed.setIfInBounds i true) a' w') a w :=
      evAs_ok hN sim (hS rfl) h.1 fun s' a' w' hK ⟨φ', sim'⟩ hS' => ⟨hS', (evSy_ok hN hu hs t false f _ s' φ' a' w' hB'.1.2 sim' (fun he => hS' (by have := hB'.1.1.2; rw [he, Bool.or_false] at this; exact of_decide_eq_true this)) hK).1 rfl⟩
    have hoth := (evSy_ok hN hu hs u true (f + 1) listed s φ a w hB'.2 sim (fun _ => hS rfl) h.2).2 rfl f rfl
    refine ⟨fun hb => ?_, fun _ g hg j hj => ?_⟩
    · subst hb
      have hr : Region.ready .any ops.toArray listed = i :: u.heads := by simpa using hB'.1.1.1
      refine ⟨fun h0 => (by rw [hr] at h0; cases h0), fun j hj => ?_⟩
      rw [hr] at hj
      rcases List.mem_cons.1 hj with rfl | hj
      · exact hop
      · exact hoth j hj
    · obtain rfl : f = g := by omega
      rcases List.mem_cons.1 (show j ∈ i :: u.heads from hj) with rfl | hj
      · exact hop
      · exact hoth j hj

theorem evTakeS_ok (hN : w0.heap.size = N) {ops : List Oper} {L : Nat} (hu : unguarded ops = true) (hs : Region.noSelect ops.toArray = true) {K : ASt → Prop} {t : Nx} : ∀ (ks : List Nat) (f : Nat) (listed : Array Bool) (s : ASt) (φ : List (Option (Nat × Nat))) (a : Act),
    okTakeS ops.toArray L t f listed ks = true → SimAt w0 S0 s φ a w1 → evTake P ops (evSy N P ops L K t) ks s → wpAnyS P ops.toArray (Ends w0 S0 K) (HeldS w1) L f listed a w1
  | [], f, listed, s, φ, a, hB, sim, h => (evSy_ok hN hu hs t false f listed s φ a w1 (by cases f <;> exact hB) sim (fun _ => Below.refl _ _) h).1 rfl
  | k :: ks, 0, listed, s, φ, a, hB, sim, h => by simp [okTakeS] at hB
  | k :: ks, f + 1, listed, s, φ, a, hB, sim, h => by
    unfold okTakeS at hB
    simp only [Bool.and_eq_true] at hB
    obtain ⟨⟨⟨⟨hL, h1⟩, hr⟩, hf⟩, hB⟩ := hB
    change evAt P true ops k (evTake P ops (evSy N P ops L K t) ks) s at h
    unfold evAt at h
    split at h
    · rename_i o ho
      have ho' : ops.toArray[k]? = some o := by simpa using ho
      rw [ho'] at h1
      obtain ⟨s', v, hK, sim', hy⟩ := evOp_held (ops := ops.toArray) sim (unguarded_get hu ho) h1 h
      exact wpAnyS_take ho' hs hL (fun c a w hq => by cases hq.1) f listed a w1 (Region.free_spec ho' hf) (by simpa using hr) hy (Below.refl _ _) (evTakeS_ok hN hu hs ks f _ s' φ _ hB sim' hK)
    · exact h.elim

/-- A region whose order is open: ks, loads among them, are taken first; L is its last operation; what is left comes in one of the orders of t. -/
theorem AWP.drawn_sy [Cx] {id : Nat} {ops : List Oper} {Q : Exit → ASt → Prop} {s : ASt} (L : Nat) (ks : List Nat) (t : Nx) (hm : P.follows .mixedOrders = true)
    (hB : (unguarded ops && Region.noSelect ops.toArray && okTakeS ops.toArray L t ops.toArray.size (Array.replicate ops.toArray.size false) ks) = true)
    (h : evTake P ops (evSy N P ops L (Q .normal) t) ks s) : AWP N P (.region id ops.toArray true) Q s := by
  simp only [Bool.and_eq_true] at hB
  refine AWP.of0 ?_
  rintro w0 S0 a w hN ⟨φ, sim⟩
  have sim1 : SimAt w0 S0 s φ a { w with drawn := w.drawn + 1 } := sim.after ⟨rfl, rfl, rfl, Nat.le_refl _, fun _ _ => rfl⟩
  have := wp_region_any (P := P) (id := id) hm (wpAnyS.any _ _ _ _ (evTakeS_ok hN hB.1.1 hB.1.2 ks _ _ s φ a hB.2 sim1 h))
  refine wp_mono this fun e a' w' ⟨he, s', hK, hsim⟩ => ?_
  subst he
  exact ⟨s', hK, hsim⟩

/-! ### Steps -/
def AxB (N : Nat) (P : Program) (K : ASt → Prop) (o : Oper) (s : ASt) : Prop := OpAnyB N P o K s
theorem sy_done {ops : List Oper} {L : Nat} {K : ASt → Prop} {s : ASt} (h : K s) : evSy N P ops L K .done s := h
theorem sy_take {ops : List Oper} {L : Nat} {K : ASt → Prop} {k : Nat} {t : Nx} {s : ASt} {o : Oper} (ho : ops[k]? = some o) (h : ∀ K' : ASt → Prop, (∀ s', evSy N P ops L K t s' → K' s') → evOp P true o K' s) : evSy N P ops L K (.take k t) s := by
  show evAt P true ops k _ s
  unfold evAt; rw [ho]; exact h _ fun _ h => h
theorem sy_one {ops : List Oper} {L : Nat} {K : ASt → Prop} {k : Nat} {t : Nx} {s : ASt} {o : Oper} (hk : k ≠ L) (ho : ops[k]? = some o) (h : AxB N P (evSy N P ops L K t) o s) : evSy N P ops L K (.one k t) s := by
  show evAs N P ops L k _ s
  unfold evAs; rw [ho]; exact .inr h
theorem sy_last {ops : List Oper} {L : Nat} {K : ASt → Prop} {t : Nx} {s : ASt} {o : Oper} (ho : ops[L]? = some o) (h : Ax N P (evSy N P ops L K t) o s) : evSy N P ops L K (.one L t) s := by
  show evAs N P ops L L _ s
  unfold evAs; rw [ho]; exact .inl ⟨rfl, h⟩
theorem sy_alt {ops : List Oper} {L : Nat} {K : ASt → Prop} {k : Nat} {t u : Nx} {s : ASt} {o : Oper} (hk : k ≠ L) (ho : ops[k]? = some o) (h : AxB N P (evSy N P ops L K t) o s) (h' : evSy N P ops L K u s) : evSy N P ops L K (.alt k t u) s := by
  refine ⟨?_, h'⟩
  unfold evAs; rw [ho]; exact .inr h
theorem sy_st {ops : List Oper} {L : Nat} {K : ASt → Prop} {t : Nx} {s : ASt} (h : StK N s (evSy N P ops L K t)) : evSy N P ops L K (.st t) s := h
theorem axb_op {K : ASt → Prop} {o : Oper} {s : ASt} (hg : o.guard = none) (hw : wr o = false) (h : ∀ K' : ASt → Prop, (∀ s', K s' → K' s') → evOp P false o K' s) : AxB N P K o s :=
  ⟨hg, fun w0 S0 φ a w hN sim next Q hn => evOp_below sim hw (h _ fun _ h => h) hn⟩
theorem axb_callE {K : ASt → Prop} {f : FuncId} {args : Array Operand} {d ty : Nat} {ts : Array TypeId} {pos : String} {after : Array Edge} {s : ASt} (h : callEK N P f args.toList d s K) :
    AxB N P K ⟨some d, .call ⟨.value (.func f), args, ts⟩, ty, pos, after, none⟩ s :=
  ⟨rfl, fun w0 S0 φ a w hN sim next Q hn => callE_below hN sim h hn⟩
end
end Go.Proofs.Ytfgpmjboplollaa
