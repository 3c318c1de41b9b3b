/- Parts of the proof of LawFnWayBounds: contracts of functions, laws of an abstract state, plain facts. No conditions. -/
import Derived.Test.YtlomkebhopaliaaB05
import Derived.OrdersHeld
namespace Go.Proofs.Ytlomkebhopaliaa
set_option linter.unusedSimpArgs false
set_option linter.unusedVariables false
open Go.RowKit
section
variable {P : Program} {ops : Array Oper} {Q : Exit → Act → World → Prop} {S : World → Prop}
def wpAnyS (P : Program) (ops : Array Oper) (Q : Exit → Act → World → Prop) (S : World → Prop) (L : Nat) : Nat → Array Bool → Act → World → Prop
  | 0, listed, a, w => Region.ready .any ops listed = [] ∧ Q .normal a w
  | f + 1, listed, a, w => (Region.ready .any ops listed = [] → Q .normal a w) ∧
    ∀ i ∈ Region.ready .any ops listed, wpOp P ops Q i (fun a' w' => (i ≠ L → S w') ∧ wpAnyS P ops Q S L f (listed.setIfInBounds i true) a' w') a w
theorem wpAnyS.any {L : Nat} : ∀ (f : Nat) (listed : Array Bool) (a : Act) (w : World), wpAnyS P ops Q S L f listed a w → wpAny P .any ops Q f listed a w
  | 0, _, _, _, h => h
  | f + 1, _, _, _, h => ⟨h.1, fun i hi => wpOp_mono (fun a' w' h' => wpAnyS.any f _ a' w' h'.2) (h.2 i hi)⟩
def waitsB (ops : Array Oper) (L i : Nat) : Bool :=
  match ops[L]? with
  | some o => o.after.any fun e => Region.binds .any e && e.on == i
  | none => false
theorem wpAnyS_take {L i : Nat} {oi : Oper} {v : Value} (hi : ops[i]? = some oi) (hs : Region.noSelect ops = true) (hL : waitsB ops L i = true) (hQ : ∀ c a w, Q (.panic c) (a.put oi.dst v) w → Q (.panic c) a w) :
    ∀ (f : Nat) (listed : Array Bool) (a : Act) (w : World),
      (∀ j oj, ops[j]? = some oj → j ≠ i → listed.getD j true = false → (∀ e ∈ oj.after, Region.binds .any e = true → e.on ≠ i) → oi.apart ops oj = true) →
      i ∈ Region.ready .any ops listed → YieldsIf P ops S oi v a → S w → wpAnyS P ops Q S L f (listed.setIfInBounds i true) (a.put oi.dst v) w → wpAnyS P ops Q S L (f + 1) listed a w := by
  have hsel := Region.noSelect_spec hs
  intro f
  induction f with
  | zero =>
    intro listed a w _ hr hy hS H
    refine ⟨fun h => (by rw [h] at hr; cases hr), fun j hj => ?_⟩
    by_cases e : j = i
    · subst e; exact hy.wpOp hi hS ⟨fun _ => hS, H⟩
    · have h1 := ready_mono hj e
      rw [H.1] at h1; cases h1
  | succ f ih =>
    intro listed a w hfree hr hy hS H
    refine ⟨fun h => (by rw [h] at hr; cases hr), fun j hj => ?_⟩
    by_cases e : j = i
    · subst e; exact hy.wpOp hi hS ⟨fun _ => hS, H⟩
    obtain ⟨hjun, oj, hoj, hall⟩ := mem_ready.1 hj
    have hiun := (mem_ready.1 hr).1
    have hno : ∀ e ∈ oj.after, Region.binds .any e = true → e.on ≠ i := fun e he hb heq => by
      have h2 := hall e he hb
      rw [heq] at h2
      rcases Nat.lt_or_ge i listed.size with h' | h'
      · simp [h'] at hiun h2; rw [hiun] at h2; cases h2
      · simp [Array.getElem?_eq_none h'] at h2
    have hjL : j ≠ L := fun e => by
      subst e
      unfold waitsB at hL
      rw [hoj] at hL
      obtain ⟨e, he, hb⟩ := Array.any_eq_true'.1 hL
      simp only [Bool.and_eq_true, beq_iff_eq] at hb
      exact hno e he hb.1 hb.2
    have h2 := wpOp_putIf hoj (hfree j oj hoj e hjun hno) (fun cs b => hsel i oi cs b hi) (fun cs b => hsel j oj cs b hoj) hQ hy (H.2 j (ready_mono hj e))
    refine wpOp_mono (fun a' w' h3 => ⟨h3.2.1, ih (listed.setIfInBounds j true) a' w' (fun k ok hk hki hun hn => hfree k ok hk hki ?_ hn) (ready_mono hr (Ne.symm e)) h3.1 (h3.2.1 hjL) ?_⟩) h2
    · by_cases hjk : j = k
      · subst hjk; exact hjun
      · rw [getD_set_ne true hjk] at hun; exact hun
    · rw [Array.setIfInBounds_comm _ _ e]; exact h3.2.2
end
def OpAnyB (N : Nat) (P : Program) (o : Oper) (K : ASt → Prop) (s : ASt) : Prop :=
  o.guard = none ∧ ∀ (w0 : World) (S0 : Nat → Prop) (φ : List (Option (Nat × Nat))) (a : Act) (w : World), w0.heap.size = N → SimAt w0 S0 s φ a w → ∀ (next : Act → World → Prop) (Q : Exit → Act → World → Prop),
    (∀ s' a' w', K s' → Sim w0 S0 s' a' w' → Below w.heap.size w w' → next a' w') → o.wp P a w next Q
def endB : Nx → Bool
  | .done => true
  | .st t => endB t
  | _ => false
def okSx (ops : Array Oper) (L : Nat) : Bool → Nat → Array Bool → Nx → Bool
  | _, _, listed, .done => decide (Region.ready .any ops listed = [])
  | false, f + 1, listed, .take i t => waitsB ops L i && (match ops[i]? with | some o => noCall o && noLoad o | none => false) && (Region.ready .any ops listed).contains i && Region.free .any ops listed i && okSx ops L false f (listed.setIfInBounds i true) t
  | b, f + 1, listed, .one i t => (b || decide (Region.ready .any ops listed = [i])) && (decide (i ≠ L) || endB t) && okSx ops L false f (listed.setIfInBounds i true) t
  | b, f + 1, listed, .alt i t u => (b || decide (Region.ready .any ops listed = i :: u.heads)) && (decide (i ≠ L) || endB t) && okSx ops L false f (listed.setIfInBounds i true) t && okSx ops L true (f + 1) listed u
  | false, f, listed, .st t => okSx ops L false f listed t
  | _, _, _, _ => false
def okTakeS (ops : Array Oper) (L : Nat) (t : Nx) : Nat → Array Bool → List Nat → Bool
  | f, listed, [] => okSx ops L false f listed t
  | f + 1, listed, k :: ks => waitsB ops L k && (match ops[k]? with | some o => noCall o | none => false) && (Region.ready .any ops listed).contains k && Region.free .any ops listed k && okTakeS ops L t f (listed.setIfInBounds k true) ks
  | _, _, _ => false
def evAs (N : Nat) (P : Program) (ops : List Oper) (L i : Nat) (K : ASt → Prop) (s : ASt) : Prop :=
  match ops[i]? with
  | some o => (i = L ∧ OpAny N P o K s) ∨ OpAnyB N P o K s
  | none => False
def evSy (N : Nat) (P : Program) (ops : List Oper) (L : Nat) (K : ASt → Prop) : Nx → ASt → Prop
  | .done, s => K s
  | .take i t, s => evAt P true ops i (evSy N P ops L K t) s
  | .one i t, s => evAs N P ops L i (evSy N P ops L K t) s
  | .alt i t u, s => evAs N P ops L i (evSy N P ops L K t) s ∧ evSy N P ops L K u s
  | .st t, s => StK N s (evSy N P ops L K t)
section
variable {P : Program} {w0 : World} {S0 : Nat → Prop} {N : Nat} {w1 : World}
abbrev HeldS (w1 : World) : World → Prop := fun w => Below w1.heap.size w1 w
theorem evOp_held {ops : Array Oper} {o : Oper} {K : ASt → Prop} {s : ASt} {φ : List (Option (Nat × Nat))} {a : Act} {w : World} (sim : SimAt w0 S0 s φ a w) (hg : o.guard = none) (hc : noCall o = true) (h : evOp P true o K s) :
    ∃ s' v, K s' ∧ SimAt w0 S0 s' φ (a.put o.dst v) w ∧ YieldsIf P ops (HeldS w) o v a := by
  obtain ⟨dst, op, ty, pos, after, guard⟩ := o
  unfold evOp at h
  split at h
  · rename_i f args ts d hop hdst
    simp only at hop hdst
    subst hop hdst
    simp [noCall] at hc
  · rename_i t args ts d hop hdst
    simp only at hop hdst
    subst hop hdst
    simp [noCall] at hc
  · exact absurd h.1 (by simp)
  · exact absurd h.1 (by simp)
  · exact absurd h.1 (by simp)
  · exact absurd h.1 (by simp)
  · exact absurd h.1 (by simp)
  · exact absurd h.1 (by simp)
  · exact absurd h.1 (by simp)
  · rename_i d hdst _ _ _ _ _ _ _ _
    simp only at hdst
    subst hdst
    obtain ⟨r, v, hK, hr, hrun⟩ := evQ_ok (o := ⟨some d, op, ty, pos, after, guard⟩) h.2 sim
    exact ⟨_, v, hK, sim.put h.1 hr, .inl ⟨by simp only at hg; simp [Region.wanted, hg], fun w' hw' => hrun w' (.inr hw')⟩⟩
  · exact h.elim
theorem callE_below {f : FuncId} {args : Array Operand} {d ty : Nat} {ts : Array TypeId} {pos : String} {after : Array Edge} {s : ASt} {φ : List (Option (Nat × Nat))} {a : Act} {w : World} {K : ASt → Prop} {next : Act → World → Prop} {Q : Exit → Act → World → Prop}
    (hN : w0.heap.size = N) (sim : SimAt w0 S0 s φ a w) (h : callEK N P f args.toList d s K) (hn : ∀ s' a' w', K s' → Sim w0 S0 s' a' w' → Below w.heap.size w w' → next a' w') : (⟨some d, .call ⟨.value (.func f), args, ts⟩, ty, pos, after, none⟩ : Oper).wp P a w next Q := by
  obtain ⟨p', vs', ⟨R, hf, hd, hK⟩, h3, h4⟩ := argsK_ok sim args.toList true [] [] h sim.gl (fun _ => sim.gl)
  have hrun : (execOp a.eval ⟨some d, .call ⟨.value (.func f), args, ts⟩, ty, pos, after, none⟩).run P w = .ok (.enter f (args.toList.map a.eval).toArray) w := by
    have e : execOp a.eval ⟨some d, .call ⟨.value (.func f), args, ts⟩, ty, pos, after, none⟩ = callFunc f (#[] ++ args.map a.eval ++ #[]) := rfl
    rw [e, hf.1]
    congr 2
    rw [← Array.toList_inj]
    simp
  unfold Oper.wp
  rw [hrun, Oper.upon_enter]
  simp only [List.reverse_nil, List.nil_append] at h3 h4
  refine (hf.2 w _ h3).mono ?_
  rintro e w' ⟨r, u, ψ, hr, hnew, rfl, hh, hs⟩
  have hw := sim.heap.below.size
  refine hn _ _ _ (hK r hr (NewL.mono (fun Z hZ => ⟨fun b hb => by have := hZ b hb; omega, fun Z' hZ' b hb hb' => ?_⟩) _ hnew)) ⟨_, sim.call_new hd hnew hh hs⟩ hh.below
  have h1 := (hZ'.there sim b hb).2
  have h2 := hZ b hb'
  omega
theorem evAs_ok (hN : w0.heap.size = N) {ops : List Oper} {L i : Nat} {K : ASt → Prop} {s : ASt} {φ : List (Option (Nat × Nat))} {a : Act} {w : World} (sim : SimAt w0 S0 s φ a w) (hS : HeldS w1 w) (h : evAs N P ops L i K s)
    {next : Act → World → Prop} {Q : Exit → Act → World → Prop} (hn : ∀ s' a' w', K s' → Sim w0 S0 s' a' w' → (i ≠ L → HeldS w1 w') → next a' w') : wpOp P ops.toArray Q i next a w := by
  unfold evAs at h
  split at h
  · rename_i o ho
    unfold wpOp
    rw [show ops.toArray[i]? = some o by simpa using ho]
    simp only []
    rcases h with ⟨e, h⟩ | h
    · rw [if_pos (by simp [Region.wanted, h.1])]
      exact .inl (h.2 w0 S0 φ a w hN sim _ _ fun s' a' w' h1 h2 => hn s' a' w' h1 h2.none fun e' => absurd e e')
    · rw [if_pos (by simp [Region.wanted, h.1])]
      exact .inl (h.2 w0 S0 φ a w hN sim _ _ fun s' a' w' h1 h2 h3 => hn s' a' w' h1 h2 fun _ => hS.trans (h3.mono hS.size))
  · exact h.elim
theorem wpAnyS_done {ops : Array Oper} {Q : Exit → Act → World → Prop} {S : World → Prop} {L : Nat} {listed : Array Bool} {a : Act} {w : World} (hr : Region.ready .any ops listed = []) (h : Q .normal a w) : ∀ f, wpAnyS P ops Q S L f listed a w
  | 0 => ⟨hr, h⟩
  | _ + 1 => ⟨fun _ => h, by rw [hr]; simp⟩
theorem evSy_ok (hN : w0.heap.size = N) {ops : List Oper} {L : Nat} (hu : unguarded ops = true) (hs : Region.noSelect ops.toArray = true) {K : ASt → Prop} :
    ∀ (t : Nx) (b : Bool) (f : Nat) (listed : Array Bool) (s : ASt) (φ : List (Option (Nat × Nat))) (a : Act) (w : World),
    okSx ops.toArray L b f listed t = true → SimAt w0 S0 s φ a w → (endB t = false → HeldS w1 w) → evSy N P ops L K t s →
    (b = false → wpAnyS P ops.toArray (Ends w0 S0 K) (HeldS w1) L f listed a w) ∧
    (b = true → ∀ g, f = g + 1 → ∀ j ∈ t.heads, wpOp P ops.toArray (Ends w0 S0 K) j (fun a' w' => (j ≠ L → HeldS w1 w') ∧ wpAnyS P ops.toArray (Ends w0 S0 K) (HeldS w1) L g (listed.setIfInBounds j true) a' w') a w)
  | .done, b, f, listed, s, φ, a, w, hB, sim, hS, h => by
    refine ⟨fun _ => ?_, fun _ g _ j hj => by simp [Nx.heads] at hj⟩
    have hr : Region.ready .any ops.toArray listed = [] := by
      cases b <;> cases f <;> exact of_decide_eq_true hB
    exact wpAnyS_done hr ⟨rfl, s, h, φ, sim⟩ f
  | .st t, true, f, listed, s, φ, a, w, hB, sim, hS, h => by cases f <;> simp [okSx] at hB
  | .st t, false, f, listed, s, φ, a, w, hB, sim, hS, h => by
    refine ⟨fun _ => ?_, fun hb => by cases hb⟩
    have hB' : okSx ops.toArray L false f listed t = true := by cases f <;> simpa [okSx] using hB
    obtain ⟨s', φ', hK, sim'⟩ := h w0 S0 φ a w hN sim
    exact (evSy_ok hN hu hs t false f listed s' φ' a w hB' sim' hS hK).1 rfl
  | .take i t, true, f, listed, s, φ, a, w, hB, sim, hS, h => by cases f <;> simp [okSx] at hB
  | .take i t, false, 0, listed, s, φ, a, w, hB, sim, hS, h => by simp [okSx] at hB
  | .take i t, false, f + 1, listed, s, φ, a, w, hB, sim, hS, h => by
    refine ⟨fun _ => ?_, fun hb => by cases hb⟩
    simp only [okSx, Bool.and_eq_true] at hB
    obtain ⟨⟨⟨⟨hL, h1⟩, hr⟩, hf⟩, hB⟩ := hB
    change evAt P true ops i (evSy N P ops L K t) s at h
    unfold evAt at h
    split at h
    · rename_i o ho
      have ho' : ops.toArray[i]? = some o := by simpa using ho
      rw [ho'] at h1
      simp only [Bool.and_eq_true] at h1
      obtain ⟨s', v, hK, sim', hy⟩ := evOp_pure (ops := ops.toArray) sim (unguarded_get hu ho) h1.1 h1.2 h
      exact wpAnyS_take ho' hs hL (fun c a w hq => by cases hq.1) f listed a w (Region.free_spec ho' hf) (by simpa using hr) hy.yieldsIf (hS rfl) ((evSy_ok hN hu hs t false f _ s' φ _ w hB sim' (fun _ => hS rfl) hK).1 rfl)
    · exact h.elim
  | .one i t, b, 0, listed, s, φ, a, w, hB, sim, hS, h => by cases b <;> simp [okSx] at hB
  | .one i t, b, f + 1, listed, s, φ, a, w, hB, sim, hS, h => by
    have hB' : ((b || decide (Region.ready .any ops.toArray listed = [i])) = true ∧ (decide (i ≠ L) || endB t) = true) ∧ okSx ops.toArray L false f (listed.setIfInBounds i true) t = true := by
      cases b <;> simpa [okSx] using hB
    have hop : wpOp P ops.toArray (Ends w0 S0 K) i (fun a' w' => (i ≠ L → HeldS w1 w') ∧ wpAnyS P ops.toArray (Ends w0 S0 K) (HeldS w1) L f (listed.setIfInBounds i true) a' w') a w :=
      evAs_ok hN sim (hS rfl) h fun s' a' w' hK ⟨φ', sim'⟩ hS' => ⟨hS', (evSy_ok hN hu hs t false f _ s' φ' a' w' hB'.2 sim' (fun he => hS' (by have := hB'.1.2; rw [he, Bool.or_false] at this; exact of_decide_eq_true this)) hK).1 rfl⟩
    refine ⟨fun hb => ?_, fun _ g hg j hj => ?_⟩
    · subst hb
      have hr : Region.ready .any ops.toArray listed = [i] := by simpa using hB'.1.1
      refine ⟨fun h0 => (by rw [hr] at h0; cases h0), fun j hj => ?_⟩
      rw [hr] at hj
      obtain rfl : j = i := by simpa using hj
      exact hop
    · obtain rfl : f = g := by omega
      obtain rfl : j = i := by simpa [Nx.heads] using hj
      exact hop
  | .alt i t u, b, 0, listed, s, φ, a, w, hB, sim, hS, h => by cases b <;> simp [okSx] at hB
  | .alt i t u, b, f + 1, listed, s, φ, a, w, hB, sim, hS, h => by
    have hB' : (((b || decide (Region.ready .any ops.toArray listed = i :: u.heads)) = true ∧ (decide (i ≠ L) || endB t) = true) ∧ okSx ops.toArray L false f (listed.setIfInBounds i true) t = true) ∧ okSx ops.toArray L true (f + 1) listed u = true := by
      cases b <;> simpa [okSx] using hB
    have hop : wpOp P ops.toArray (Ends w0 S0 K) i (fun a' w' => (i ≠ L → HeldS w1 w') ∧ wpAnyS P ops.toArray (Ends w0 S0 K) (HeldS w1) L f (listed.setIfInBounds i true) a' w') a w :=
      evAs_ok hN sim (hS rfl) h.1 fun s' a' w' hK ⟨φ', sim'⟩ hS' => ⟨hS', (evSy_ok hN hu hs t false f _ s' φ' a' w' hB'.1.2 sim' (fun he => hS' (by have := hB'.1.1.2; rw [he, Bool.or_false] at this; exact of_decide_eq_true this)) hK).1 rfl⟩
    have hoth := (evSy_ok hN hu hs u true (f + 1) listed s φ a w hB'.2 sim (fun _ => hS rfl) h.2).2 rfl f rfl
    refine ⟨fun hb => ?_, fun _ g hg j hj => ?_⟩
    · subst hb
      have hr : Region.ready .any ops.toArray listed = i :: u.heads := by simpa using hB'.1.1.1
      refine ⟨fun h0 => (by rw [hr] at h0; cases h0), fun j hj => ?_⟩
      rw [hr] at hj
      rcases List.mem_cons.1 hj with rfl | hj
      · exact hop
      · exact hoth j hj
    · obtain rfl : f = g := by omega
      rcases List.mem_cons.1 (show j ∈ i :: u.heads from hj) with rfl | hj
      · exact hop
      · exact hoth j hj
theorem evTakeS_ok (hN : w0.heap.size = N) {ops : List Oper} {L : Nat} (hu : unguarded ops = true) (hs : Region.noSelect ops.toArray = true) {K : ASt → Prop} {t : Nx} : ∀ (ks : List Nat) (f : Nat) (listed : Array Bool) (s : ASt) (φ : List (Option (Nat × Nat))) (a : Act),
    okTakeS ops.toArray L t f listed ks = true → SimAt w0 S0 s φ a w1 → evTake P ops (evSy N P ops L K t) ks s → wpAnyS P ops.toArray (Ends w0 S0 K) (HeldS w1) L f listed a w1
  | [], f, listed, s, φ, a, hB, sim, h => (evSy_ok hN hu hs t false f listed s φ a w1 (by cases f <;> exact hB) sim (fun _ => Below.refl _ _) h).1 rfl
  | k :: ks, 0, listed, s, φ, a, hB, sim, h => by simp [okTakeS] at hB
  | k :: ks, f + 1, listed, s, φ, a, hB, sim, h => by
    unfold okTakeS at hB
    simp only [Bool.and_eq_true] at hB
    obtain ⟨⟨⟨⟨hL, h1⟩, hr⟩, hf⟩, hB⟩ := hB
    change evAt P true ops k (evTake P ops (evSy N P ops L K t) ks) s at h
    unfold evAt at h
    split at h
    · rename_i o ho
      have ho' : ops.toArray[k]? = some o := by simpa using ho
      rw [ho'] at h1
      obtain ⟨s', v, hK, sim', hy⟩ := evOp_held (ops := ops.toArray) sim (unguarded_get hu ho) h1 h
      exact wpAnyS_take ho' hs hL (fun c a w hq => by cases hq.1) f listed a w1 (Region.free_spec ho' hf) (by simpa using hr) hy (Below.refl _ _) (evTakeS_ok hN hu hs ks f _ s' φ _ hB sim' hK)
    · exact h.elim
theorem AWP.drawn_sy [Cx] {id : Nat} {ops : List Oper} {Q : Exit → ASt → Prop} {s : ASt} (L : Nat) (ks : List Nat) (t : Nx) (hm : P.follows .mixedOrders = true)
    (hB : (unguarded ops && Region.noSelect ops.toArray && okTakeS ops.toArray L t ops.toArray.size (Array.replicate ops.toArray.size false) ks) = true)
    (h : evTake P ops (evSy N P ops L (Q .normal) t) ks s) : AWP N P (.region id ops.toArray true) Q s := by
  simp only [Bool.and_eq_true] at hB
  refine AWP.of0 ?_
  rintro w0 S0 a w hN ⟨φ, sim⟩
  have sim1 : SimAt w0 S0 s φ a { w with drawn := w.drawn + 1 } := sim.after ⟨rfl, rfl, rfl, Nat.le_refl _, fun _ _ => rfl⟩
  have := wp_region_any (P := P) (id := id) hm (wpAnyS.any _ _ _ _ (evTakeS_ok hN hB.1.1 hB.1.2 ks _ _ s φ a hB.2 sim1 h))
  refine wp_mono this fun e a' w' ⟨he, s', hK, hsim⟩ => ?_
  subst he
  exact ⟨s', hK, hsim⟩
/-! ### Steps -/
def AxB (N : Nat) (P : Program) (K : ASt → Prop) (o : Oper) (s : ASt) : Prop := OpAnyB N P o K s
theorem sy_done {ops : List Oper} {L : Nat} {K : ASt → Prop} {s : ASt} (h : K s) : evSy N P ops L K .done s := h
theorem sy_take {ops : List Oper} {L : Nat} {K : ASt → Prop} {k : Nat} {t : Nx} {s : ASt} {o : Oper} (ho : ops[k]? = some o) (h : ∀ K' : ASt → Prop, (∀ s', evSy N P ops L K t s' → K' s') → evOp P true o K' s) : evSy N P ops L K (.take k t) s := by
  show evAt P true ops k _ s
  unfold evAt; rw [ho]; exact h _ fun _ h => h
theorem sy_one {ops : List Oper} {L : Nat} {K : ASt → Prop} {k : Nat} {t : Nx} {s : ASt} {o : Oper} (hk : k ≠ L) (ho : ops[k]? = some o) (h : AxB N P (evSy N P ops L K t) o s) : evSy N P ops L K (.one k t) s := by
  show evAs N P ops L k _ s
  unfold evAs; rw [ho]; exact .inr h
theorem sy_last {ops : List Oper} {L : Nat} {K : ASt → Prop} {t : Nx} {s : ASt} {o : Oper} (ho : ops[L]? = some o) (h : Ax N P (evSy N P ops L K t) o s) : evSy N P ops L K (.one L t) s := by
  show evAs N P ops L L _ s
  unfold evAs; rw [ho]; exact .inl ⟨rfl, h⟩
theorem sy_alt {ops : List Oper} {L : Nat} {K : ASt → Prop} {k : Nat} {t u : Nx} {s : ASt} {o : Oper} (hk : k ≠ L) (ho : ops[k]? = some o) (h : AxB N P (evSy N P ops L K t) o s) (h' : evSy N P ops L K u s) : evSy N P ops L K (.alt k t u) s := by
  refine ⟨?_, h'⟩
  unfold evAs; rw [ho]; exact .inr h
theorem sy_st {ops : List Oper} {L : Nat} {K : ASt → Prop} {t : Nx} {s : ASt} (h : StK N s (evSy N P ops L K t)) : evSy N P ops L K (.st t) s := h
theorem axb_op {K : ASt → Prop} {o : Oper} {s : ASt} (hg : o.guard = none) (hw : wr o = false) (h : ∀ K' : ASt → Prop, (∀ s', K s' → K' s') → evOp P false o K' s) : AxB N P K o s :=
  ⟨hg, fun w0 S0 φ a w hN sim next Q hn => evOp_below sim hw (h _ fun _ h => h) hn⟩
theorem axb_callE {K : ASt → Prop} {f : FuncId} {args : Array Operand} {d ty : Nat} {ts : Array TypeId} {pos : String} {after : Array Edge} {s : ASt} (h : callEK N P f args.toList d s K) :
    AxB N P K ⟨some d, .call ⟨.value (.func f), args, ts⟩, ty, pos, after, none⟩ s :=
  ⟨rfl, fun w0 S0 φ a w hN sim next Q hn => callE_below hN sim h hn⟩
end
set_option linter.unusedSimpArgs false
set_option linter.unusedVariables false
open Go.RowKit
def SV.ge (n : Nat) : SV → Prop
  | .own id _ _ _ => n ≤ id
  | .ptr id _ => n ≤ id
  | _ => True
def geSs (n : Nat) : List SV → Prop
  | [] => True
  | v :: vs => v.ge n ∧ geSs n vs
def Slot.ge (n : Nat) : Slot → Prop
  | .one v => v.ge n
  | .many vs => geSs n vs
def geS (n : Nat) : List (Nat × Slot) → Prop
  | [] => True
  | (_, v) :: r => v.ge n ∧ geS n r
theorem geS.get {n : Nat} {v : Slot} {t : Nat} : ∀ {σ : List (Nat × Slot)}, geS n σ → lookup σ t = some v → v.ge n
  | [], _, h => by cases h
  | (k, x) :: r, g, h => by
    simp only [lookup] at h
    split at h
    · injection h with h; subst h; exact g.1
    · exact geS.get g.2 h
section
variable {P : Program} {w0 : World} {S0 : Nat → Prop} {N : Nat}
def memN (t : Nat) : List Nat → Bool
  | [] => false
  | x :: r => if t = x then true else memN t r
def Slot.place : Slot → Prop
  | .one (.ptr _ _) => True
  | .one (.own _ _ _ _) => True
  | _ => False
def geT (n : Nat) (T : List Nat) : List (Nat × Slot) → Prop
  | [] => True
  | (t, v) :: r => (if memN t T = true then True else v.ge n) ∧ geT n T r
def sameT (U : Nat → Value) (τ : List (Nat × Slot)) : List Nat → Prop
  | [] => True
  | t :: r => lookup τ t = some (sc (U t)) ∧ sameT U τ r
def placeT (τ : List (Nat × Slot)) : List Nat → Prop
  | [] => True
  | t :: r => (match lookup τ t with | some v => v.place | none => False) ∧ placeT τ r
theorem geT.get {n : Nat} {T : List Nat} {v : Slot} {t : Nat} (ht : memN t T = false) : ∀ {σ : List (Nat × Slot)}, geT n T σ → lookup σ t = some v → v.ge n
  | [], _, h => by cases h
  | (k, x) :: r, g, h => by
    simp only [lookup] at h
    split at h
    · rename_i e; subst e; injection h with h; subst h
      have := g.1
      rw [if_neg (by rw [ht]; simp)] at this
      exact this
    · exact geT.get ht g.2 h
theorem sameT.get {U : Nat → Value} {τ : List (Nat × Slot)} {t : Nat} : ∀ {T : List Nat}, memN t T = true → sameT U τ T → lookup τ t = some (sc (U t))
  | [], h, _ => by cases h
  | x :: r, h, g => by
    simp only [memN] at h
    split at h
    · rename_i e; subst e; exact g.1
    · exact sameT.get h g.2
theorem placeT.get {τ : List (Nat × Slot)} {t : Nat} : ∀ {T : List Nat}, memN t T = true → placeT τ T → ∃ v, lookup τ t = some v ∧ v.place
  | [], h, _ => by cases h
  | x :: r, h, g => by
    simp only [memN] at h
    split at h
    · rename_i e; subst e
      have := g.1
      split at this
      · rename_i v hv; exact ⟨v, hv, this⟩
      · exact this.elim
    · exact placeT.get h g.2
theorem Slot.place.rd {v : Slot} {u : Value} {w w' : World} {S S' : Nat → Prop} {φ φ' : List (Option (Nat × Nat))} (hp : v.place) (hφ : ∀ (id : Nat) x, φ[id]? = some x → φ'[id]? = some x) (h : RdSlot w S φ v u) : RdSlot w' S' φ' v u := by
  match v, hp with
  | .one (.ptr id off), _ =>
    obtain ⟨b, z, h1, h2⟩ := h
    exact ⟨b, z, hφ _ _ h1, h2⟩
  | .one (.own id sz off len), _ =>
    rcases h with ⟨h1, h2⟩ | ⟨b, c, z, h1, h2⟩
    · exact .inl ⟨hφ _ _ h1, h2⟩
    · exact .inr ⟨b, c, z, hφ _ _ h1, h2⟩
variable {w1 : World} {S1 : Nat → Prop}
end
end Go.Proofs.Ytlomkebhopaliaa
namespace Go.Proofs.Ytlomkebhopaliaa
set_option linter.unusedSimpArgs false
set_option linter.unusedVariables false
open Go.RowKit Go.Proofs
def ptrOf : Value → Nat → Value
  | .slice (some ⟨b, off, none⟩) _ _, k => .pointer (some ⟨b, off + k, none⟩)
  | v, _ => v
section
variable {P : Program} {N : Nat}
theorem axb_ptr {K : ASt → Prop} {t : TypeId} {x i : Operand} {d ty : Nat} {pos : String} {after : Array Edge} {s : ASt} {u0 : Value} {Z : Nat → Prop} {n : Nat} {f : Nat → V} {κ : IntKind} {k : Int}
    (hx : opd s x = some (.one (.pv (.row u0 Z 1 n f)))) (hi : opd s i = some (sc (.int κ k))) (hsz : elemSz P t = some 1) (h0 : 0 ≤ k) (h1 : k < n) (hd : d < s.nt) (h : K (putS s d (sc (ptrOf u0 k.toNat)))) :
    AxB N P K ⟨some d, .indexAddr t x i, ty, pos, after, none⟩ s := by
  refine ⟨rfl, fun w0 S0 φ a w hN sim next Q hn => ?_⟩
  obtain ⟨e, ii, hu, hii, hs1⟩ := elemSz_some hsz
  obtain ⟨e0, hz, A, c, ex, hc, hr⟩ := sim.opd hx
  have ei := val_of sim hi
  obtain ⟨b, off, rfl, hZ, hr⟩ := hr (by omega)
  have hrun : (execOp a.eval ⟨some d, .indexAddr t x i, ty, pos, after, none⟩).run P w = .ok (.value (ptrOf u0 k.toNat)) w := by
    rw [← e0, ex]
    simp only [execOp, ex, ei, Sem.run_bind, run_indexAt hu hii _ _ _ _ _ h0 h1, Result.andThen_ok, add_none, ptrOf, hs1, Nat.mul_one]
    rfl
  unfold Oper.wp
  rw [hrun, Oper.upon_value]
  exact hn _ _ _ h ⟨φ, sim.put hd rfl⟩ (Below.refl _ _)
theorem ax_setRow [Cx] {K : ASt → Prop} {t : TypeId} {p y : Operand} {ty : Nat} {pos : String} {after : Array Edge} {s : ASt} {u0 v : Value} {Z : Nat → Prop} {n j : Nat} {f : Nat → V} (tr : Nat) (s1 : ASt)
    (hr : lookup s.σ tr = some (.one (.pv (.row u0 Z 1 n f)))) (hp : opd s p = some (sc (ptrOf u0 j))) (hy : opd s y = some (sc v)) (hv : v.oneCell' = true) (hj : j < n) (hf : ∀ i, i < n → ∃ x, f i = .val x) (hc : cellsIn P t = some none) (hZ : ∀ b, Z b → N ≤ b)
    (hnt : s1.nt = s.nt) (hσ : SwS Z [(.row u0 Z 1 n f, .row u0 Z 1 n fun i => if i = j then .val v else f i)] s.σ s1.σ) (hh : SwH Z [(.row u0 Z 1 n f, .row u0 Z 1 n fun i => if i = j then .val v else f i)] s.h s1.h) (h : K s1) :
    Ax N P K ⟨none, .store t p y, ty, pos, after, none⟩ s := by
  refine ⟨rfl, fun w0 S0 φ a w hN sim next Q hn => ?_⟩
  obtain ⟨u, hu, hrd⟩ := sim.slots tr _ hr
  obtain ⟨e0, hz, A, c, hA, hcap, hcells⟩ := hrd
  subst e0
  obtain ⟨b, off, rfl, hZb, hcells⟩ := hcells (by omega)
  obtain ⟨cur, e, hcur⟩ := (hz b hZb).2
  have ep : a.eval p = .pointer (some ⟨b, off + j, none⟩) := by rw [val_of sim hp, hA]; rfl
  have ey : a.eval y = v := val_of sim hy
  have cell : ∀ i x, w.cell? ⟨b, off + i, none⟩ = some x → cur[off + i]? = some x := fun i x hx => by
    obtain ⟨te, fr, ho⟩ := hcur.obj
    simpa [World.cell?, ho] using hx
  obtain ⟨x, hx, _⟩ := hcells j (by omega)
  have hlt : off + j < cur.size := by
    rcases Nat.lt_or_ge (off + j) cur.size with h | h
    · exact h
    · have := cell j x hx; rw [Array.getElem?_eq_none h] at this; cases this
  have hrun := run_storeG (P := P) hc hv hcur (cell j x hx)
  unfold Oper.wp
  have er : (execOp a.eval ⟨none, .store t p y, ty, pos, after, none⟩).run P w = .ok .skip (w.setCell ⟨b, off + j, none⟩ v) := by
    unfold execOp
    simp only [ep, ey, Sem.run_bind, hrun, Result.andThen_ok]; rfl
  rw [er, Oper.upon_skip]
  have hat : Gb (w.setCell ⟨b, off + j, none⟩ v) b e (cur.setIfInBounds (off + j) v) := hcur.set _ v
  have ho : OnlyIn Z w (w.setCell ⟨b, off + j, none⟩ v) := ⟨rfl, rfl, rfl, by rw [setCell_size]; exact Nat.le_refl _, fun i hi hn => Below.heap_setCell _ _ _ _ (fun e => hn (e ▸ hZb)), fun i ⟨ci, ei, hi⟩ => by
    by_cases e2 : i = b
    · subst e2; exact ⟨_, e, hat⟩
    · exact ⟨ci, ei, hi.congr (Below.heap_setCell _ _ _ _ e2)⟩⟩
  refine hn _ _ _ h <| Sim.R ⟨φ, SimAt.sweep hN sim hZ (fun b hb hl => (hz b hb).1.2 hl) ho (fun q hq => ?_) hnt hσ hh⟩
  obtain rfl := List.mem_singleton.1 hq
  rintro S' u' ⟨rfl, hz', A', c', hu', hc', hr'⟩
  refine ⟨rfl, fun i hi => ⟨(hz' i hi).1, ho.wr i (hz' i hi).2⟩, A', c', hu', hc', fun hpos => ?_⟩
  obtain ⟨b', off', hA', hZ', hcl⟩ := hr' hpos
  rw [hA] at hu'
  injection hu' with hu1 hu2 hu3
  subst hA'
  injection hu1 with hu1
  injection hu1 with hu1 hu4
  subst hu1 hu4
  refine ⟨b, off, rfl, hZ', fun i hi => ?_⟩
  by_cases e3 : i = j
  · subst e3
    exact ⟨v, hat.cell (by simp [hlt]), by simp only [if_true]; rfl⟩
  · obtain ⟨x, hx, hrx⟩ := hcl i hi
    obtain ⟨y', hy'⟩ := hf i (by omega)
    refine ⟨x, hat.cell (by rw [Array.getElem?_setIfInBounds_ne (by omega)]; exact cell i x hx), ?_⟩
    simp only [if_neg e3, hy'] at hrx ⊢
    exact hrx
end
end Go.Proofs.Ytlomkebhopaliaa
namespace Go.Proofs.Ytlomkebhopaliaa
set_option linter.unusedSimpArgs false
set_option linter.unusedVariables false
open Go.RowKit
section
variable {P : Program}
end
set_option linter.unusedSimpArgs false
set_option linter.unusedVariables false
open Go.RowKit Go.Proofs
def HoldW (p : Prop) : Prop := p
theorem AWP.holdW [Cx] {P : Program} {N : Nat} {id : Nat} {ops : Array Oper} {d : Bool} {Q : Exit → ASt → Prop} {s : ASt} (h : HoldW (AWP N P (.region id ops d) Q s)) : AWP N P (.region id ops d) Q s := h
section
variable {P : Program} {N : Nat}
theorem ax_ptr [Cx] {K : ASt → Prop} {t : TypeId} {x i : Operand} {d ty : Nat} {pos : String} {after : Array Edge} {s : ASt} {u0 : Value} {Z : Nat → Prop} {n : Nat} {f : Nat → V} {κ : IntKind} {k : Int}
    (hx : opd s x = some (.one (.pv (.row u0 Z 1 n f)))) (hi : opd s i = some (sc (.int κ k))) (hsz : elemSz P t = some 1) (h0 : 0 ≤ k) (h1 : k < n) (hd : Nat.ble (d + 1) s.nt = true) (h : K (putS s d (sc (ptrOf u0 k.toNat)))) :
    Ax N P K ⟨some d, .indexAddr t x i, ty, pos, after, none⟩ s := by
  refine ⟨rfl, fun w0 S0 φ a w hN sim next Q hn => ?_⟩
  obtain ⟨e, ii, hu, hii, hs1⟩ := elemSz_some hsz
  obtain ⟨e0, hz, A, c, ex, hc, hr⟩ := sim.opd hx
  have ei := val_of sim hi
  obtain ⟨b, off, rfl, hZ, hr⟩ := hr (by omega)
  have hrun : (execOp a.eval ⟨some d, .indexAddr t x i, ty, pos, after, none⟩).run P w = .ok (.value (ptrOf u0 k.toNat)) w := by
    rw [← e0, ex]
    simp only [execOp, ex, ei, Sem.run_bind, run_indexAt hu hii _ _ _ _ _ h0 h1, Result.andThen_ok, add_none, ptrOf, hs1, Nat.mul_one]
    rfl
  unfold Oper.wp
  rw [hrun, Oper.upon_value]
  exact hn _ _ _ h (Sim.R ⟨φ, sim.put (Nat.le_of_ble_eq_true hd) rfl⟩)
theorem ax_cutRow [Cx] {K : ASt → Prop} {t : TypeId} {x lo : Operand} {d ty : Nat} {pos : String} {after : Array Edge} {s : ASt} {u0 : Value} {Z : Nat → Prop} {n : Nat} {f : Nat → V}
    (hx : opd s x = some (.one (.pv (.row u0 Z 1 n f)))) (hlo : opd s lo = some (sc (.int .i64 1))) (hsz : elemSz P t = some 1) (h1 : 1 ≤ n) (hd : Nat.ble (d + 1) s.nt = true) (h : ∀ u1, K (putS s d (.one (.pv (.row u1 Z 1 (n - 1) fun i => f (1 + i)))))) :
    Ax N P K ⟨some d, .slice t x (some lo) none none, ty, pos, after, none⟩ s := by
  refine ⟨rfl, fun w0 S0 φ a w hN sim next Q hn => ?_⟩
  obtain ⟨e, ii, hu, hii, hs1⟩ := elemSz_some hsz
  obtain ⟨e0, hz, A, c, ex, hc, hr⟩ := sim.opd hx
  have el := val_of sim hlo
  obtain ⟨b, off, rfl, hZ, hr⟩ := hr (by omega)
  have hb := run_sliceBounds (P := P) true n c 1 n (some (a.eval lo)) none (.inr ⟨.i64, by rw [el]; rfl⟩) (.inl ⟨rfl, rfl⟩) h1 (by omega)
  have hrun : (execOp a.eval ⟨some d, .slice t x (some lo) none none, ty, pos, after, none⟩).run P w = .ok (.value (.slice (if c = 1 then some ⟨b, off, none⟩ else (some (⟨b, off, none⟩ : Addr)).map (·.add (1 * ii.size))) (n - 1) (c - 1))) w := by
    unfold execOp
    simp only [ex, Instr.sliceAt, Instr.slice, Sem.run_bind, run_underlying hu, Result.andThen_ok, Option.map_none, Option.map_some, hb w, sizeOf, typeInfo, run_program, hii, Sem.run_pure]
  unfold Oper.wp
  rw [hrun, Oper.upon_value]
  refine hn _ _ _ (h _) (Sim.R ⟨φ, sim.put (Nat.le_of_ble_eq_true hd) ⟨rfl, hz, _, _, rfl, by omega, fun hp => ⟨b, off + 1, ?_, hZ, fun i hi => ?_⟩⟩⟩)
  · rw [if_neg (by omega)]; simp [add_none, hs1]
  · obtain ⟨y, hy1, hy2⟩ := hr (1 + i) (by omega)
    exact ⟨y, by rw [Nat.add_assoc]; exact hy1, hy2⟩
end
set_option linter.unusedSimpArgs false
set_option linter.unusedVariables false
open Go.RowKit
section
variable {P : Program}
end
end Go.Proofs.Ytlomkebhopaliaa
namespace Go.Proofs.Ytlomkebhopaliaa
set_option linter.unusedSimpArgs false
set_option linter.unusedVariables false
def wOk (N n : Nat) (W : Nat → Nat → Prop) : Prop := (∀ i, i < n → ∀ b, W i b → N ≤ b) ∧ ∀ i j, i < n → j < n → j ≠ i → Disj (W i) (W j)
theorem wOk.snoc {N n : Nat} {W : Nat → Nat → Prop} {Z : Nat → Prop} (h : wOk N n W) (hZ : ∀ b, Z b → N ≤ b) (hd : ∀ i, i < n → Disj (W i) Z) : wOk N (n + 1) (fun i => if i = n then Z else W i) := by
  refine ⟨fun i hi b hb => ?_, fun i j hi hj e => ?_⟩
  · by_cases hin : i = n
    · exact hZ b (by simpa [hin] using hb)
    · exact h.1 i (by omega) b (by simpa [hin] using hb)
  · by_cases hin : i = n
    · have hjn : ¬ j = n := by omega
      simp only [hin, hjn, if_true, if_false]
      exact fun b hb hb' => hd j (by omega) b hb' hb
    · by_cases hjn : j = n
      · simp only [hin, hjn, if_true, if_false]; exact hd i (by omega)
      · simp only [hin, hjn, if_false]; exact h.2 i j (by omega) (by omega) e
end Go.Proofs.Ytlomkebhopaliaa
namespace Go.Proofs.Ytlomkebhopaliaa
open Go.RowKit Go.Proofs
set_option linter.unusedSimpArgs false
set_option linter.unusedVariables false
def MarkedO (b off : Nat) (cur : Array Value) (e : TypeId) (w : World) (k : Nat) (m : Int) (wr : World) : Prop :=
  AllBut b w wr ∧ ∃ cur' : Array Value, wr.heap[b]? = some (.cells cur' e (0, 0)) ∧ cur'.size = cur.size ∧ ∀ i, i < k → cur'[off + i]? = some (.int .i64 (m + i))
theorem MarkedO.cell {b off : Nat} {cur : Array Value} {e : TypeId} {w wr : World} {k : Nat} {m : Int} (h : MarkedO b off cur e w k m wr) (hk : off + k < cur.size) : (∃ x, wr.cell? ⟨b, off + k, none⟩ = some x) ∧ wr.frozen? ⟨b, off + k, none⟩ = false := by
  obtain ⟨_, cur', h1, h2, _⟩ := h
  exact ⟨⟨cur'[off + k], cell_of_blk h1 (Array.getElem?_eq_getElem (by omega))⟩, by simp [World.frozen?, h1]⟩
theorem MarkedO.step {b off : Nat} {cur : Array Value} {e : TypeId} {w wr : World} {k : Nat} {m : Int} (h : MarkedO b off cur e w k m wr) (hk : off + k < cur.size) :
    MarkedO b off cur e w (k + 1) m (wr.setCell ⟨b, off + k, none⟩ (.int .i64 (m + k))) := by
  obtain ⟨ha, cur', h1, h2, h3⟩ := h
  refine ⟨⟨ha.os, ha.tape, ha.output, by rw [setCell_size]; exact ha.size, fun j hj hne => (Below.heap_setCell _ _ _ _ hne).trans (ha.oth j hj hne)⟩, _, setCell_at h1, by simpa using h2, fun i hi => ?_⟩
  by_cases e : i = k
  · subst e; simp [show off + i < cur'.size by omega]
  · rw [Array.getElem?_setIfInBounds_ne (by show off + k ≠ off + i; omega)]; exact h3 i (by omega)
def cnt (k : Int) : Nat → V := fun i => vi (k + i)
structure MkL where
  F : Nat → V
  G : Nat → Int → V
  c : Nat → Nat
  T : Nat → Nat → Prop
namespace MkL
def off (D : MkL) : Nat → Nat
  | 0 => 0
  | i + 1 => D.off i + D.c i
end MkL
structure MkA where
  F : Nat → V
  G : Nat → Int → V
  c : Nat → Nat
  T : Nat → Nat → Prop
def BoxI (w W : World) (x0 x1 x2 : Value) : Prop := w.heap.size < W.heap.size ∧ W.cell? ⟨w.heap.size, 0, none⟩ = some x0 ∧ W.cell? ⟨w.heap.size, 1, none⟩ = some x1 ∧ W.cell? ⟨w.heap.size, 2, none⟩ = some x2
theorem BoxI.step {w W W' : World} {x0 x1 x2 : Value} {T : Nat → Prop} (h : BoxI w W x0 x1 x2) (ho : OnlyIn T W W') (hT : ∀ b, T b → b < w.heap.size) : BoxI w W' x0 x1 x2 := by
  obtain ⟨h1, h2, h3, h4⟩ := h
  have e : W'.heap[w.heap.size]? = W.heap[w.heap.size]? := ho.oth _ h1 fun h => by have := hT _ h; omega
  have c : ∀ i, W'.cell? ⟨w.heap.size, i, none⟩ = W.cell? ⟨w.heap.size, i, none⟩ := fun i => World.cell?_of_block (w := W) (a := ⟨w.heap.size, i, none⟩) e
  exact ⟨Nat.lt_of_lt_of_le h1 ho.size, by rw [c]; exact h2, by rw [c]; exact h3, by rw [c]; exact h4⟩
theorem BoxI.start (w : World) (x0 x1 x2 : Value) (t : TypeId) : BoxI w (w.alloc (.cells #[x0, x1, x2] t)) x0 x1 x2 ∧ Below w.heap.size w (w.alloc (.cells #[x0, x1, x2] t)) := by
  have e : (w.alloc (.cells #[x0, x1, x2] t)).heap[w.heap.size]? = some (.cells #[x0, x1, x2] t (0, 0)) := by
    show (w.heap.push _)[w.heap.size]? = _
    simp
  exact ⟨⟨block_lt e, cell_of_blk e rfl, cell_of_blk e rfl, cell_of_blk e rfl⟩, (Below.refl _ _).alloc (Nat.le_refl _) _⟩
end Go.Proofs.Ytlomkebhopaliaa
namespace Go.Proofs.Ytlomkebhopaliaa
open Go.RowKit Go.Proofs
set_option linter.unusedSimpArgs false
set_option linter.unusedVariables false
def Apart (v v' : V) : Prop := Disj (Zof v) (Zof v')
theorem Apart.symm {v v' : V} (h : Apart v v') : Apart v' v := Disj.symm h
def isL (n : Nat) (p : Nat → V → Prop) (v : V) : Prop := ∃ (u0 : Value) (Zh : Nat → Prop) (F : Nat → V), v = .row u0 Zh 1 n F ∧ ∀ i, i < n → p i (F i) ∧ Disj Zh (Zof (F i)) ∧ ∀ j, j < n → j ≠ i → Apart (F i) (F j)
def isRow (l : List Int) (v : V) : Prop := ∃ (u : Value) (Z : Nat → Prop), v = .row u Z 1 l.length fun j => vi (l.getD j 0)
def isMat (m : List (List Int)) (v : V) : Prop := isL m.length (fun i => isRow (rowAt m i)) v
def isMats (s : List (List (List Int))) (v : V) : Prop := isL s.length (fun i => isMat (matAt s i)) v
theorem NewV.zin {p : (Nat → Prop) → Prop} {Z : Nat → Prop} {v : V} (h : ZIn Z v) : NewV p v → p Z := by
  induction h with
  | old v => exact fun h => h
  | row u sz n f => exact fun h => h.1
  | inRow u Z' sz n f i hi h ih => exact fun h => ih (h.2 i hi)
  | grow u e sz n f => exact fun h => h.1
  | inGrow u Z' e sz n f i hi h ih => exact fun h => ih (h.2 i hi)
  | inAgg n f i hi h ih => exact fun h => ih (h i hi)
  | cur => exact fun h => h.elim
theorem NewV.ge {N : Nat} {q : (Nat → Prop) → Prop} {v : V} (h : NewV (fun Z => (∀ b, Z b → N ≤ b) ∧ q Z) v) : ∀ b, Zof v b → N ≤ b := fun b ⟨Z, hZ, hb⟩ => (NewV.zin hZ h).1 b hb
theorem Zof.val (x : Value) (b : Nat) : ¬ Zof (.val x) b := fun ⟨Z, h, _⟩ => by cases h
theorem Zof.agg {n : Nat} {F : Nat → V} {b : Nat} (h : Zof (.agg n F) b) : ∃ i, i < n ∧ Zof (F i) b := by
  obtain ⟨Z, h, hb⟩ := h
  cases h with
  | inAgg _ _ i hi h => exact ⟨i, hi, Z, h, hb⟩
theorem Zof.row {u : Value} {Z : Nat → Prop} {n : Nat} {F : Nat → V} {b : Nat} (h : Zof (.row u Z 1 n F) b) : Z b ∨ ∃ i, i < n ∧ Zof (F i) b := by
  obtain ⟨Z', h, hb⟩ := h
  cases h with
  | row => exact .inl hb
  | inRow _ _ _ _ _ i hi h => exact .inr ⟨i, by omega, Z', h, hb⟩
theorem Zof.head {u : Value} {Z : Nat → Prop} {n : Nat} {F : Nat → V} {b : Nat} (h : Z b) : Zof (.row u Z 1 n F) b := ⟨Z, .row _ _ _ _, h⟩
theorem Keeps.of_apart {T : Nat → Prop} : ∀ v : V, NewV (fun _ => True) v → Disj (Zof v) T → Keeps T v
  | .val _, _, _ => trivial
  | .row u Z sz n f, hv, h => ⟨fun b hb => h b ⟨Z, .row _ _ _ _, hb⟩, fun i hi => Keeps.of_apart (f i) (hv.2 i hi) fun b ⟨Z', hZ, hb⟩ => h b ⟨Z', .inRow _ _ _ _ _ i hi hZ, hb⟩⟩
  | .grow u Z e sz n f, hv, h => ⟨fun b hb => h b ⟨Z, .grow _ _ _ _ _, hb⟩, fun i hi => Keeps.of_apart (f i) (hv.2 i hi) fun b ⟨Z', hZ, hb⟩ => h b ⟨Z', .inGrow _ _ _ _ _ _ i hi hZ, hb⟩⟩
  | .agg n f, hv, h => fun i hi => Keeps.of_apart (f i) (hv i hi) fun b ⟨Z', hZ, hb⟩ => h b ⟨Z', .inAgg _ _ i hi hZ, hb⟩
  | .seq _ _ _, hv, _ => hv.elim
  | .pin _ _, hv, _ => hv.elim
  | .clo _ _ _, hv, _ => hv.elim
  | .old Z v, hv, h => fun b hb => h b ⟨Z, .old _, hb⟩
  | .cur _ _ _ _, hv, _ => hv.elim
theorem isRow.new {l : List Int} {v : V} (h : isRow l v) : NewV (fun _ => True) v := by
  obtain ⟨u, Z, rfl⟩ := h; exact ⟨trivial, fun _ _ => trivial⟩
theorem isL.new {n : Nat} {p : Nat → V → Prop} {v : V} (hp : ∀ i v, p i v → NewV (fun _ => True) v) (h : isL n p v) : NewV (fun _ => True) v := by
  obtain ⟨u, Z, F, rfl, h⟩ := h; exact ⟨trivial, fun i hi => hp i _ (h i (by omega)).1⟩
theorem isMat.new {m : List (List Int)} {v : V} (h : isMat m v) : NewV (fun _ => True) v := isL.new (fun _ _ h => h.new) h
theorem isMats.new {s : List (List (List Int))} {v : V} (h : isMats s v) : NewV (fun _ => True) v := isL.new (fun _ _ h => h.new) h
theorem isRow.one {l : List Int} {v : V} (h : isRow l v) : v.one = true := by obtain ⟨u, Z, rfl⟩ := h; rfl
theorem isL.one {n : Nat} {p : Nat → V → Prop} {v : V} (h : isL n p v) : v.one = true := by obtain ⟨u, Z, F, rfl, h⟩ := h; rfl
theorem isRow.bare {l : List Int} {v : V} (h : isRow l v) : Bare v (ints l) := by obtain ⟨u, Z, rfl⟩ := h; exact ⟨rfl, rfl, fun i hi => rfl⟩
theorem isL.bare {n : Nat} {p : Nat → V → Prop} {v : V} {g : Nat → V} (hp : ∀ i v, i < n → p i v → Bare v (g i)) (h : isL n p v) : Bare v (.seq 1 n g) := by
  obtain ⟨u, Z, F, rfl, h⟩ := h; exact ⟨rfl, rfl, fun i hi => hp i _ (by omega) (h i (by omega)).1⟩
theorem isMat.bare {m : List (List Int)} {v : V} (h : isMat m v) : Bare v (rows m) := isL.bare (fun _ _ _ h => h.bare) h
theorem isMats.bare {s : List (List (List Int))} {v : V} (h : isMats s v) : Bare v (mats s) := isL.bare (fun _ _ _ h => h.bare) h
/-! ### Marked -/
def rng (k : Int) (n : Nat) : List Int := tab n fun i => k + i
@[simp] theorem rng_len (k : Int) (n : Nat) : (rng k n).length = n := tab_len _ _
def isAut (a e : List Int) (s : List (List (List Int))) (F : Nat → V) : Prop := isRow a (F 0) ∧ isRow e (F 1) ∧ isMats s (F 2) ∧ ∀ i, i < 3 → ∀ j, j < 3 → j ≠ i → Apart (F i) (F j)
theorem isAut.bare {a e : List Int} {s : List (List (List Int))} {F : Nat → V} (h : isAut a e s F) : Bare (.agg 3 F) (autV a e s) := ⟨rfl, fun i hi => by
  rcases (show i = 0 ∨ i = 1 ∨ i = 2 by omega) with rfl | rfl | rfl
  · exact h.1.bare
  · exact h.2.1.bare
  · exact h.2.2.1.bare⟩
theorem isAut.one {a e : List Int} {s : List (List (List Int))} {F : Nat → V} (h : isAut a e s F) (i : Nat) (hi : i < 3) : (F i).one = true := by
  rcases (show i = 0 ∨ i = 1 ∨ i = 2 by omega) with rfl | rfl | rfl
  · exact h.1.one
  · exact h.2.1.one
  · exact isL.one h.2.2.1
theorem isAut.new {a e : List Int} {s : List (List (List Int))} {F : Nat → V} (h : isAut a e s F) (i : Nat) (hi : i < 3) : NewV (fun _ => True) (F i) := by
  rcases (show i = 0 ∨ i = 1 ∨ i = 2 by omega) with rfl | rfl | rfl
  · exact h.1.new
  · exact h.2.1.new
  · exact h.2.2.1.new
end Go.Proofs.Ytlomkebhopaliaa
namespace Go.Proofs.Ytlomkebhopaliaa
open Go.RowKit Go.Proofs
set_option linter.unusedSimpArgs false
set_option linter.unusedVariables false
theorem isVector_fn (l : List Int) (hl : l.length ≤ 1099511627776) : Fn Try.prog 89 [ints l] (.one (.pv (vb (vecB l)))) := by
  refine Fn.of_body Try.call89 Try.func89 rfl Try.ntmps89 (ts := [2]) rfl (by simp) rfl (fun N => ?_)
  repeat' (first | (with_reducible first | refine then_normal ?_ | refine then_ret ?_ | refine then_exit ?_ | refine block_normal ?_ | refine block_ret ?_) | ((with_reducible show blockQ _ _ _ _); first | refine block_exit ?_ | refine block_exit_ne rfl ?_) | ((with_reducible show AWP _ _ _ _ _); first | (with_reducible first | refine AWP.seq ?_ | refine AWP.block ?_ | refine AWP.region ?_ | refine AWP.ret ?_ | refine AWP.exit ?_ | refine AWP.skip ?_) | refine AWP.drawn rfl (by kernel_rfl) ?_ | refine AWP.cond rfl ?_ ?_) | with_reducible refine ev_nil ?_ | ((first | ((with_reducible show evOps _ _ _ _ _ _); (first | refine ev_step rfl ?_ | refine ev_undef rfl rfl rfl ?_); intro K hK) | ((with_reducible show EvOpen _ _ _ _ _ _ _); refine ev_open ?_; intro K hK) | ((with_reducible show SkOpen _ _ _ _ _ _ _); refine sk_open ?_; intro K hK) | ((with_reducible show callK _ _ _ _ _ _ _ _); first  | (refine call_scalar (within_fn _ _ _) (Nat.le_of_ble_eq_true rfl) rfl ?_) | (refine call_scalar (areNumbers_fn l hl) (Nat.le_of_ble_eq_true rfl) rfl ?_))); simp only [evOp, evQ, evB, withS, opd, kput, putS, upd, lookup, skipOp, argsK, bringIn, bring, Res.list, Res.slot, slotsOf, sz_ints, List.reverse_cons, List.reverse_nil, List.nil_append, List.cons_append, Nat.reduceEqDiff, Nat.reduceLT, ↓reduceIte, eq_self, true_and, and_true, Bool.not_true, Bool.true_eq_false, Bool.false_eq_true, false_implies, forall_const, Option.isSome_some]) | refine ev_guard rfl rfl rfl ?_ ?_ | ((with_reducible show retQ _ _ _ _); simp only [retQ, retOk, getL, lookup, Option.map_some, fitsL, fits, ND, srcs, Res.list, VE, Value.bool.injEq, Nat.reduceEqDiff, ↓reduceIte, and_true]) | (with_reducible refine hK _ ?_; clear hK K) | (with_reducible refine And.intro ?_ ?_) | (with_reducible intro hc; try simp only [Bool.not_true, reduceCtorEq, inB_true, inB_false, Bool.true_eq_false] at hc) | omega)
  all_goals first
    | exact (vecB_is ‹_›).symm
    | exact (vecB_in ‹_›).symm
    | trace_state
theorem mxVector_fn (l : List Int) (hl : l.length ≤ 1099511627776) : Fn Try.prog 99 [ints l] (.one (.pv (vb (vecB l)))) := by
  refine Fn.of_body Try.call99 Try.func99 rfl Try.ntmps99 (ts := [2]) rfl (by simp) rfl (fun N => ?_)
  repeat' (first | (with_reducible first | refine then_normal ?_ | refine then_ret ?_ | refine then_exit ?_ | refine block_normal ?_ | refine block_ret ?_) | ((with_reducible show blockQ _ _ _ _); first | refine block_exit ?_ | refine block_exit_ne rfl ?_) | ((with_reducible show AWP _ _ _ _ _); first | (with_reducible first | refine AWP.seq ?_ | refine AWP.block ?_ | refine AWP.region ?_ | refine AWP.ret ?_ | refine AWP.exit ?_ | refine AWP.skip ?_) | refine AWP.drawn rfl (by kernel_rfl) ?_ | refine AWP.cond rfl ?_ ?_) | with_reducible refine ev_nil ?_ | ((first | ((with_reducible show evOps _ _ _ _ _ _); (first | refine ev_step rfl ?_ | refine ev_undef rfl rfl rfl ?_); intro K hK) | ((with_reducible show EvOpen _ _ _ _ _ _ _); refine ev_open ?_; intro K hK) | ((with_reducible show SkOpen _ _ _ _ _ _ _); refine sk_open ?_; intro K hK) | ((with_reducible show callK _ _ _ _ _ _ _ _); first | fail)); simp only [evOp, evQ, evB, withS, opd, kput, putS, upd, lookup, slotsOf, sz_ints, Nat.reduceEqDiff, Nat.reduceLT, ↓reduceIte, eq_self, true_and, Option.isSome_some]) | refine ev_guard rfl rfl rfl ?_ ?_ | ((with_reducible show retQ _ _ _ _); simp only [eq_self]) | (with_reducible refine hK _ ?_; clear hK K) | (with_reducible refine And.intro ?_ ?_) | (with_reducible intro hc; try simp only [eq_self] at hc) | omega)
  refine AWP.loop_ent (fun k : Nat => ⟨[(0, .one (.pv (ints l))), (5, .one (.pv (ints l))), (6, sc (.int .i64 l.length)), (7, sc (.int .i64 k))], [], 18⟩)
    (fun k => k ≤ l.length ∧ ∀ j, j < k → numB (l.getD j 0) = true) (fun k => l.length - k) 0 ⟨by omega, by simp⟩ (by (simp [Ent, EntS, EntH, SlE, VE, lookup, BE])) ?_
  rintro k ⟨hk, hall⟩
  repeat' (first | (with_reducible first | refine then_normal ?_ | refine then_ret ?_ | refine then_exit ?_ | refine block_normal ?_ | refine block_ret ?_) | ((with_reducible show blockQ _ _ _ _); first | refine block_exit ?_ | refine block_exit_ne rfl ?_) | ((with_reducible show AWP _ _ _ _ _); first | (with_reducible first | refine AWP.seq ?_ | refine AWP.block ?_ | refine AWP.region ?_ | refine AWP.ret ?_ | refine AWP.exit ?_ | refine AWP.skip ?_) | refine AWP.drawn rfl (by kernel_rfl) ?_ | refine AWP.cond rfl ?_ ?_) | with_reducible refine ev_nil ?_ | ((first | ((with_reducible show evOps _ _ _ _ _ _); (first | refine ev_step rfl ?_ | refine ev_undef rfl rfl rfl ?_); intro K hK) | ((with_reducible show EvOpen _ _ _ _ _ _ _); refine ev_open ?_; intro K hK) | ((with_reducible show SkOpen _ _ _ _ _ _ _); refine sk_open ?_; intro K hK) | ((with_reducible show callK _ _ _ _ _ _ _ _); first  | (refine call_scalar (nuGood_fn _) (Nat.le_of_ble_eq_true rfl) rfl ?_) | (refine call_scalar (l1In_fn _ _ _) (Nat.le_of_ble_eq_true rfl) rfl ?_))); simp only [evOp, evQ, evB, binK, withS, opd, kput, putS, upd, lookup, argsK, bringIn, bring, Res.list, Res.slot, InK_i64, sz_ints, c_int, List.reverse_cons, List.reverse_nil, List.nil_append, List.cons_append, Nat.reduceEqDiff, Nat.reduceLT, Nat.mul_one, Nat.add_zero, ↓reduceIte, eq_self, true_and, Int.toNat_natCast, Option.isSome_some]) | refine ev_guard rfl rfl rfl ?_ ?_ | ((with_reducible show retQ _ _ _ _); simp only [retQ, retOk, getL, lookup, Option.map_some, fitsL, fits, ND, srcs, Res.list, VE, Value.bool.injEq, Nat.reduceEqDiff, ↓reduceIte, and_true]) | (with_reducible refine hK _ ?_; clear hK K) | (with_reducible refine And.intro ?_ ?_) | (with_reducible intro hc; try simp only [decide_eq_true_eq, decide_eq_false_iff_not, Bool.not_eq_true', Bool.not_eq_false', Int.not_lt] at hc) | omega)
  all_goals first
    | exact (vecB_no (allN_false (show k < l.length by omega) ‹_›)).symm
    | exact ⟨k + 1, ⟨by omega, upto_succ hall ‹_›⟩, by omega, by (simp [Ent, EntS, EntH, SlE, VE, lookup, BE])⟩
    | exact (vecB_yes (allN_true fun j hj => hall j (by omega))).symm
    | trace_state
theorem indexFunc_fn (n : Nat) (f : Nat → V) (c : FuncId) (k : Nat) (cs : Nat → V) (p : Nat → Bool) (hn : n ≤ 1099511627776) (hf : ∀ i, i < n → Fn Try.prog c (f i :: tabV k cs) (.one (.pv (vb (p i))))) :
    Fn Try.prog 33 [.seq 1 n f, .clo c k cs] (.one (.pv (vi (firstN p n)))) := by
  refine Fn.of_body Try.call33 Try.func33 rfl Try.ntmps33 (ts := [4]) rfl (by simp) rfl (fun N => ?_)
  repeat' (first | (with_reducible first | refine then_normal ?_ | refine then_ret ?_ | refine then_exit ?_ | refine block_normal ?_ | refine block_ret ?_) | ((with_reducible show blockQ _ _ _ _); first | refine block_exit ?_ | refine block_exit_ne rfl ?_) | ((with_reducible show AWP _ _ _ _ _); first | (with_reducible first | refine AWP.seq ?_ | refine AWP.block ?_ | refine AWP.region ?_ | refine AWP.ret ?_ | refine AWP.exit ?_ | refine AWP.skip ?_) | refine AWP.drawn rfl (by kernel_rfl) ?_ | refine AWP.cond rfl ?_ ?_) | with_reducible refine ev_nil ?_ | ((first | ((with_reducible show evOps _ _ _ _ _ _); (first | refine ev_step rfl ?_ | refine ev_undef rfl rfl rfl ?_); intro K hK) | ((with_reducible show EvOpen _ _ _ _ _ _ _); refine ev_open ?_; intro K hK) | ((with_reducible show SkOpen _ _ _ _ _ _ _); refine sk_open ?_; intro K hK) | ((with_reducible show callK _ _ _ _ _ _ _ _); first | fail)); simp only [evOp, evQ, evB, withS, opd, kput, putS, upd, lookup, slotsOf, sz_rows, Nat.reduceEqDiff, Nat.reduceLT, Nat.zero_add, ↓reduceIte, eq_self, true_and, Option.isSome_some]) | refine ev_guard rfl rfl rfl ?_ ?_ | ((with_reducible show retQ _ _ _ _); simp only [eq_self]) | (with_reducible refine hK _ ?_; clear hK K) | (with_reducible refine And.intro ?_ ?_) | (with_reducible intro hc; try simp only [eq_self] at hc) | omega)
  refine AWP.loop_ent (fun j : Nat => ⟨[(0, .one (.pv (.seq 1 n f))), (1, .one (.pv (.clo c k cs))), (6, .one (.pv (.seq 1 n f))), (7, sc (.int .i64 n)), (8, sc (.int .i64 j))], [], 19⟩)
    (fun j => j ≤ n ∧ ∀ i, i < j → p i = false) (fun j => n - j) 0 ⟨by omega, by simp⟩ (by simp [Ent, EntS, EntH, SlE, VE.rfl', lookup]) ?_
  rintro j ⟨hj, hall⟩
  repeat' (first | (with_reducible first | refine then_normal ?_ | refine then_ret ?_ | refine then_exit ?_ | refine block_normal ?_ | refine block_ret ?_) | ((with_reducible show blockQ _ _ _ _); first | refine block_exit ?_ | refine block_exit_ne rfl ?_) | ((with_reducible show AWP _ _ _ _ _); first | (with_reducible first | refine AWP.seq ?_ | refine AWP.block ?_ | refine AWP.region ?_ | refine AWP.ret ?_ | refine AWP.exit ?_ | refine AWP.skip ?_) | refine AWP.drawn rfl (by kernel_rfl) ?_ | refine AWP.cond rfl ?_ ?_) | with_reducible refine ev_nil ?_ | ((first | ((with_reducible show evOps _ _ _ _ _ _); (first | refine ev_step rfl ?_ | refine ev_undef rfl rfl rfl ?_); intro K hK) | ((with_reducible show EvOpen _ _ _ _ _ _ _); refine ev_open ?_; intro K hK) | ((with_reducible show SkOpen _ _ _ _ _ _ _); refine sk_open ?_; intro K hK) | ((with_reducible show callK _ _ _ _ _ _ _ _); first  | (refine call_scalar (hf j (by omega)) (Nat.le_of_ble_eq_true rfl) rfl ?_))); simp only [evOp, evQ, dynK, binK, withS, opd, kput, putS, upd, lookup, argsK, bringIn, bring, Res.list, Res.slot, InK_i64, sz_rows, c_ints, List.reverse_cons, List.reverse_nil, List.nil_append, List.cons_append, Nat.reduceEqDiff, Nat.reduceLT, Nat.mul_one, Nat.add_zero, ↓reduceIte, eq_self, true_and, Int.toNat_natCast]) | refine ev_guard rfl rfl rfl ?_ ?_ | ((with_reducible show retQ _ _ _ _); simp only [retQ, retOk, getL, lookup, Option.map_some, fitsL, fits, ND, srcs, Res.list, VE, Value.int.injEq, Nat.reduceEqDiff, ↓reduceIte, and_true, true_and]) | (with_reducible refine hK _ ?_; clear hK K) | (with_reducible refine And.intro ?_ ?_) | (with_reducible intro hc; try simp only [decide_eq_true_eq, decide_eq_false_iff_not, Int.not_lt] at hc) | omega)
  all_goals first
    | (rw [firstN_at hall ‹p j = true› (show j < n by omega)]; done)
    | exact ⟨j + 1, ⟨by omega, upto_succ hall ‹_›⟩, by omega, by simp [Ent, EntS, EntH, SlE, VE.rfl', lookup]⟩
    | (rw [firstN_none fun i hi => hall i (by omega)]; done)
    | trace_state
theorem containsFunc_fn (n : Nat) (f : Nat → V) (c : FuncId) (k : Nat) (cs : Nat → V) (p : Nat → Bool) (hn : n ≤ 1099511627776) (hf : ∀ i, i < n → Fn Try.prog c (f i :: tabV k cs) (.one (.pv (vb (p i))))) :
    Fn Try.prog 87 [.seq 1 n f, .clo c k cs] (.one (.pv (vb (anyN n p)))) := by
  refine Fn.of_body Try.call87 Try.func87 rfl Try.ntmps87 (ts := [4]) rfl (by simp) rfl (fun N => ?_)
  repeat' (first | (with_reducible first | refine then_normal ?_ | refine then_ret ?_ | refine then_exit ?_ | refine block_normal ?_ | refine block_ret ?_) | ((with_reducible show blockQ _ _ _ _); first | refine block_exit ?_ | refine block_exit_ne rfl ?_) | ((with_reducible show AWP _ _ _ _ _); first | (with_reducible first | refine AWP.seq ?_ | refine AWP.block ?_ | refine AWP.region ?_ | refine AWP.ret ?_ | refine AWP.exit ?_ | refine AWP.skip ?_) | refine AWP.drawn rfl (by kernel_rfl) ?_ | refine AWP.cond rfl ?_ ?_) | with_reducible refine ev_nil ?_ | ((first | ((with_reducible show evOps _ _ _ _ _ _); (first | refine ev_step rfl ?_ | refine ev_undef rfl rfl rfl ?_); intro K hK) | ((with_reducible show EvOpen _ _ _ _ _ _ _); refine ev_open ?_; intro K hK) | ((with_reducible show SkOpen _ _ _ _ _ _ _); refine sk_open ?_; intro K hK) | ((with_reducible show callK _ _ _ _ _ _ _ _); first  | (refine call_scalar (indexFunc_fn n f c k cs p hn hf) (Nat.le_of_ble_eq_true rfl) rfl ?_))); simp only [evOp, evQ, binK, withS, opd, kput, putS, upd, lookup, argsK, bringIn, bring, Res.list, Res.slot, slotsOf, List.reverse_cons, List.reverse_nil, List.nil_append, List.cons_append, Nat.reduceEqDiff, Nat.reduceLT, Nat.zero_add, ↓reduceIte, eq_self, true_and]) | refine ev_guard rfl rfl rfl ?_ ?_ | ((with_reducible show retQ _ _ _ _); simp only [retQ, retOk, getL, lookup, Option.map_some, fitsL, fits, ND, srcs, Res.list, VE, Value.bool.injEq, Nat.reduceEqDiff, ↓reduceIte, and_true]) | (with_reducible refine hK _ ?_; clear hK K) | (with_reducible refine And.intro ?_ ?_) | (with_reducible intro hc; try simp only [eq_self] at hc) | omega)
  all_goals first
    | exact anyN_first p n
    | trace_state
theorem isMatrix1_fn (l : List Int) (m : List (List Int)) (hl : l.length ≤ 1099511627776) (hm : 1 ≤ m.length) : Fn Try.prog 88 [ints l, .pin 1 fun _ => rows m] (.one (.pv (vb (!mrowB (rowAt m 0).length l)))) := by
  refine Fn.of_body Try.call88 Try.func88 rfl Try.ntmps88 (ts := [3]) rfl (by simp) rfl (fun N => ?_)
  repeat' (first | (with_reducible first | refine then_normal ?_ | refine then_ret ?_ | refine then_exit ?_ | refine block_normal ?_ | refine block_ret ?_) | ((with_reducible show blockQ _ _ _ _); first | refine block_exit ?_ | refine block_exit_ne rfl ?_) | ((with_reducible show AWP _ _ _ _ _); first | (with_reducible first | refine AWP.seq ?_ | refine AWP.block ?_ | refine AWP.region ?_ | refine AWP.ret ?_ | refine AWP.exit ?_ | refine AWP.skip ?_) | refine AWP.drawn rfl (by kernel_rfl) ?_ | refine AWP.cond rfl ?_ ?_) | with_reducible refine ev_nil ?_ | ((first | ((with_reducible show evOps _ _ _ _ _ _); (first | refine ev_step rfl ?_ | refine ev_undef rfl rfl rfl ?_); intro K hK) | ((with_reducible show EvOpen _ _ _ _ _ _ _); refine ev_open ?_; intro K hK) | ((with_reducible show SkOpen _ _ _ _ _ _ _); refine sk_open ?_; intro K hK) | ((with_reducible show callK _ _ _ _ _ _ _ _); first  | (refine call_scalar (isVector_fn l hl) (Nat.le_of_ble_eq_true rfl) rfl ?_))); simp only [evOp, evQ, evB, binK, withS, opd, kput, putS, upd, lookup, skipOp, argsK, bringIn, bring, Res.list, Res.slot, slotsOf, sz_ints, sz_rows, c_ints, c_rows, List.reverse_cons, List.reverse_nil, List.nil_append, Nat.reduceEqDiff, Nat.reduceLT, Nat.mul_one, Nat.zero_add, ↓reduceIte, eq_self, true_and, and_true, Bool.not_false, Bool.true_eq_false, Bool.false_eq_true, false_implies, forall_const, Int.toNat_zero, Option.isSome_some]) | refine ev_guard rfl rfl rfl ?_ ?_ | ((with_reducible show retQ _ _ _ _); simp only [retQ, retOk, getL, lookup, Option.map_some, fitsL, fits, ND, srcs, Res.list, VE, Value.bool.injEq, Nat.reduceEqDiff, ↓reduceIte, and_true]) | (with_reducible refine hK _ ?_; clear hK K) | (with_reducible refine And.intro ?_ ?_) | (with_reducible intro hc; try simp only [Bool.not_eq_true', Bool.not_eq_false', Bool.not_false, reduceCtorEq, Bool.true_eq_false] at hc) | omega)
  all_goals first
    | (rw [mrowB_vec ‹vecB l = false›]; rfl)
    | (rw [mrowB_is ‹vecB l = true›]; rfl)
    | trace_state
theorem isMatrix_fn (m : List (List Int)) (hm : m.length ≤ 1099511627776) (hr : ∀ i, i < m.length → (rowAt m i).length ≤ 1099511627776) : Fn Try.prog 65 [rows m] (.one (.pv (vb (matB m)))) := by
  refine Fn.of_body Try.call65 Try.func65 rfl Try.ntmps65 (ts := [2]) rfl (by simp) rfl (fun N => ?_)
  refine AWP.seq_cut ⟨[(0, .one (.pv (rows m))), (1, .one (.ptr 0 0))], [some ⟨24, 1, fun _ => rows m⟩], 11⟩ ?_ (AWP.freeze 1 0 rfl rfl ?_)
  · repeat' (first | (with_reducible first | refine then_normal ?_ | refine then_ret ?_ | refine then_exit ?_ | refine block_normal ?_ | refine block_ret ?_) | ((with_reducible show blockQ _ _ _ _); first | refine block_exit ?_ | refine block_exit_ne rfl ?_) | ((with_reducible show AWP _ _ _ _ _); first | (with_reducible first | refine AWP.seq ?_ | refine AWP.block ?_ | refine AWP.region ?_ | refine AWP.ret ?_ | refine AWP.exit ?_ | refine AWP.skip ?_) | refine AWP.drawn rfl (by kernel_rfl) ?_ | refine AWP.cond rfl ?_ ?_) | with_reducible refine ev_nil ?_ | ((first | ((with_reducible show evOps _ _ _ _ _ _); (first | refine ev_step rfl ?_ | refine ev_undef rfl rfl rfl ?_); intro K hK) | ((with_reducible show EvOpen _ _ _ _ _ _ _); refine ev_open ?_; intro K hK) | ((with_reducible show SkOpen _ _ _ _ _ _ _); refine sk_open ?_; intro K hK) | ((with_reducible show callK _ _ _ _ _ _ _ _); first | fail)); simp only [evOp, evQ, withS, opd, kput, putS, upd, lookup, slotsOf, frz, newBlk, boxV, V.one, List.nil_append, List.length_nil, Nat.reduceEqDiff, Nat.reduceLT, ↓reduceIte, eq_self, true_and]) | refine ev_guard rfl rfl rfl ?_ ?_ | ((with_reducible show retQ _ _ _ _); simp only [eq_self]) | (with_reducible refine hK _ ?_; clear hK K) | (with_reducible refine And.intro ?_ ?_) | (with_reducible intro hc; try simp only [eq_self] at hc) | omega)
    all_goals simp [Ent, EntS, EntH, SlE, VE.rfl', lookup, BE]
  · by_cases h1 : 1 ≤ (m.length : Int) ∧ (m.length : Int) ≤ 6
    · repeat' (first | (with_reducible first | refine then_normal ?_ | refine then_ret ?_ | refine then_exit ?_ | refine block_normal ?_ | refine block_ret ?_) | ((with_reducible show blockQ _ _ _ _); first | refine block_exit ?_ | refine block_exit_ne rfl ?_) | ((with_reducible show AWP _ _ _ _ _); first | (with_reducible first | refine AWP.seq ?_ | refine AWP.block ?_ | refine AWP.region ?_ | refine AWP.ret ?_ | refine AWP.exit ?_ | refine AWP.skip ?_) | refine AWP.drawn rfl (by kernel_rfl) ?_ | refine AWP.cond rfl ?_ ?_) | with_reducible refine ev_nil ?_ | ((first | ((with_reducible show evOps _ _ _ _ _ _); (first | refine ev_step rfl ?_ | refine ev_undef rfl rfl rfl ?_); intro K hK) | ((with_reducible show EvOpen _ _ _ _ _ _ _); refine ev_open ?_; intro K hK) | ((with_reducible show SkOpen _ _ _ _ _ _ _); refine sk_open ?_; intro K hK) | ((with_reducible show callK _ _ _ _ _ _ _ _); first  | (refine call_scalar (within_fn _ _ _) (Nat.le_of_ble_eq_true rfl) rfl ?_) | (refine call_scalar (containsFunc_fn m.length (fun i => ints (rowAt m i)) 88 1 (fun i => [V.pin 1 fun _ => rows m].getD i (.val undef)) (fun i => !mrowB (rowAt m 0).length (rowAt m i)) (by omega) (fun i hi => isMatrix1_fn (rowAt m i) m (hr i hi) (by omega))) (Nat.le_of_ble_eq_true rfl) rfl ?_))); simp only [evOp, evQ, evB, capsK, withS, opd, kput, putS, upd, lookup, argsK, bringIn, bring, Res.list, Res.slot, List.set_cons_zero, sz_rows, c_rows, List.reverse_cons, List.reverse_nil, List.nil_append, List.cons_append, List.length_cons, List.length_nil, Nat.reduceEqDiff, Nat.reduceLT, Nat.zero_add, ↓reduceIte, eq_self, true_and, Option.isSome_some]) | refine ev_guard rfl rfl rfl ?_ ?_ | ((with_reducible show retQ _ _ _ _); simp only [retQ, retOk, getL, lookup, Option.map_some, fitsL, fits, ND, srcs, Res.list, VE, Value.bool.injEq, Nat.reduceEqDiff, ↓reduceIte, and_true]) | (with_reducible refine hK _ ?_; clear hK K) | (with_reducible refine And.intro ?_ ?_) | (with_reducible intro hc; try simp only [Bool.not_eq_true', Bool.not_eq_false', inB_true, inB_false] at hc) | omega)
      all_goals first
        | (exfalso; omega)
        | (rw [matB_is h1]; simp [anyN]; done)
        | trace_state
    · repeat' (first | (with_reducible first | refine then_normal ?_ | refine then_ret ?_ | refine then_exit ?_ | refine block_normal ?_ | refine block_ret ?_) | ((with_reducible show blockQ _ _ _ _); first | refine block_exit ?_ | refine block_exit_ne rfl ?_) | ((with_reducible show AWP _ _ _ _ _); first | (with_reducible first | refine AWP.seq ?_ | refine AWP.block ?_ | refine AWP.region ?_ | refine AWP.ret ?_ | refine AWP.exit ?_ | refine AWP.skip ?_) | refine AWP.drawn rfl (by kernel_rfl) ?_ | refine AWP.cond rfl ?_ ?_) | with_reducible refine ev_nil ?_ | ((first | ((with_reducible show evOps _ _ _ _ _ _); (first | refine ev_step rfl ?_ | refine ev_undef rfl rfl rfl ?_); intro K hK) | ((with_reducible show EvOpen _ _ _ _ _ _ _); refine ev_open ?_; intro K hK) | ((with_reducible show SkOpen _ _ _ _ _ _ _); refine sk_open ?_; intro K hK) | ((with_reducible show callK _ _ _ _ _ _ _ _); first  | (refine call_scalar (within_fn _ _ _) (Nat.le_of_ble_eq_true rfl) rfl ?_))); simp only [evOp, evQ, evB, capsK, withS, opd, kput, putS, upd, lookup, argsK, bringIn, bring, Res.list, Res.slot, List.set_cons_zero, sz_rows, c_rows, List.reverse_cons, List.reverse_nil, List.nil_append, List.cons_append, List.length_cons, List.length_nil, Nat.reduceEqDiff, Nat.reduceLT, Nat.zero_add, ↓reduceIte, eq_self, true_and, Option.isSome_some]) | refine ev_guard rfl rfl rfl ?_ ?_ | ((with_reducible show retQ _ _ _ _); simp only [retQ, retOk, getL, lookup, Option.map_some, fitsL, fits, ND, srcs, Res.list, VE, Value.bool.injEq, Nat.reduceEqDiff, ↓reduceIte, and_true]) | (with_reducible refine hK _ ?_; clear hK K) | (with_reducible refine And.intro ?_ ?_) | (with_reducible intro hc; try simp only [Bool.not_eq_true', Bool.not_eq_false', inB_true, inB_false] at hc) | omega)
      all_goals first
        | (rw [matB_in h1]; done)
        | (exfalso; omega)
        | trace_state
theorem isSquare_fn (m : List (List Int)) (hm : m.length ≤ 1099511627776) (hr : ∀ i, i < m.length → (rowAt m i).length ≤ 1099511627776) : Fn Try.prog 31 [rows m] (.one (.pv (vb (squB m)))) := by
  refine Fn.of_body Try.call31 Try.func31 rfl Try.ntmps31 (ts := [2]) rfl (by simp) rfl (fun N => ?_)
  repeat' (first | (with_reducible first | refine then_normal ?_ | refine then_ret ?_ | refine then_exit ?_ | refine block_normal ?_ | refine block_ret ?_) | ((with_reducible show blockQ _ _ _ _); first | refine block_exit ?_ | refine block_exit_ne rfl ?_) | ((with_reducible show AWP _ _ _ _ _); first | (with_reducible first | refine AWP.seq ?_ | refine AWP.block ?_ | refine AWP.region ?_ | refine AWP.ret ?_ | refine AWP.exit ?_ | refine AWP.skip ?_) | refine AWP.drawn rfl (by kernel_rfl) ?_ | refine AWP.cond rfl ?_ ?_) | with_reducible refine ev_nil ?_ | ((first | ((with_reducible show evOps _ _ _ _ _ _); (first | refine ev_step rfl ?_ | refine ev_undef rfl rfl rfl ?_); intro K hK) | ((with_reducible show EvOpen _ _ _ _ _ _ _); refine ev_open ?_; intro K hK) | ((with_reducible show SkOpen _ _ _ _ _ _ _); refine sk_open ?_; intro K hK) | ((with_reducible show callK _ _ _ _ _ _ _ _); first  | (refine call_scalar (isMatrix_fn m hm hr) (Nat.le_of_ble_eq_true rfl) rfl ?_))); simp only [evOp, evQ, evB, binK, withS, opd, kput, putS, upd, lookup, skipOp, argsK, bringIn, bring, Res.list, Res.slot, slotsOf, sz_ints, sz_rows, c_ints, List.reverse_cons, List.reverse_nil, List.nil_append, Nat.reduceEqDiff, Nat.reduceLT, Nat.mul_one, Nat.zero_add, ↓reduceIte, eq_self, true_and, and_true, Bool.not_true, Bool.true_eq_false, Bool.false_eq_true, false_implies, forall_const, Int.toNat_zero, Option.isSome_some]) | refine ev_guard rfl rfl rfl ?_ ?_ | ((with_reducible show retQ _ _ _ _); simp only [retQ, retOk, getL, lookup, Option.map_some, fitsL, fits, ND, srcs, Res.list, VE, Value.bool.injEq, Nat.reduceEqDiff, ↓reduceIte, and_true]) | (with_reducible refine hK _ ?_; clear hK K) | (with_reducible refine And.intro ?_ ?_) | (with_reducible intro hc; try simp only [Bool.not_true, reduceCtorEq, Bool.true_eq_false] at hc) | omega)
  any_goals (have := matB_len ‹matB m = true›; omega)
  all_goals first
    | (rw [squB_no ‹matB m = false›]; done)
    | (rw [squB_is ‹matB m = true›]; done)
    | trace_state
theorem mxGood_fn (m : List (List Int)) (hm : m.length ≤ 1099511627776) (hr : ∀ i, i < m.length → (rowAt m i).length ≤ 1099511627776) : Fn Try.prog 85 [rows m] (.one (.pv (vb (matB m)))) := by
  refine Fn.of_body Try.call85 Try.func85 rfl Try.ntmps85 (ts := [2]) rfl (by simp) rfl (fun N => ?_)
  repeat' (first | (with_reducible first | refine then_normal ?_ | refine then_ret ?_ | refine then_exit ?_ | refine block_normal ?_ | refine block_ret ?_) | ((with_reducible show blockQ _ _ _ _); first | refine block_exit ?_ | refine block_exit_ne rfl ?_) | ((with_reducible show AWP _ _ _ _ _); first | (with_reducible first | refine AWP.seq ?_ | refine AWP.block ?_ | refine AWP.region ?_ | refine AWP.ret ?_ | refine AWP.exit ?_ | refine AWP.skip ?_) | refine AWP.drawn rfl (by kernel_rfl) ?_ | refine AWP.cond rfl ?_ ?_) | with_reducible refine ev_nil ?_ | ((first | ((with_reducible show evOps _ _ _ _ _ _); (first | refine ev_step rfl ?_ | refine ev_undef rfl rfl rfl ?_); intro K hK) | ((with_reducible show EvOpen _ _ _ _ _ _ _); refine ev_open ?_; intro K hK) | ((with_reducible show SkOpen _ _ _ _ _ _ _); refine sk_open ?_; intro K hK) | ((with_reducible show callK _ _ _ _ _ _ _ _); first  | (refine call_scalar (l1In_fn _ _ _) (Nat.le_of_ble_eq_true rfl) rfl ?_))); simp only [evOp, evQ, evB, withS, opd, kput, putS, upd, lookup, skipOp, argsK, bringIn, bring, Res.list, Res.slot, slotsOf, sz_ints, sz_rows, c_ints, List.reverse_cons, List.reverse_nil, List.nil_append, List.cons_append, Nat.reduceEqDiff, Nat.reduceLT, Nat.mul_one, Nat.zero_add, ↓reduceIte, eq_self, true_and, and_true, Bool.not_false, Bool.true_eq_false, Bool.false_eq_true, false_implies, forall_const, Int.toNat_zero, Option.isSome_some]) | refine ev_guard rfl rfl rfl ?_ ?_ | ((with_reducible show retQ _ _ _ _); simp only [retQ, retOk, getL, lookup, Option.map_some, fitsL, fits, ND, srcs, Res.list, VE, Value.bool.injEq, Nat.reduceEqDiff, ↓reduceIte, and_true]) | (with_reducible refine hK _ ?_; clear hK K) | (with_reducible refine And.intro ?_ ?_) | (with_reducible intro hc; try simp only [Bool.not_eq_true', Bool.not_eq_false', Bool.not_false, reduceCtorEq, inB_true, inB_false, Bool.true_eq_false] at hc) | omega)
  any_goals first
    | exact (matB_in ‹_›).symm
    | exact (matB_row0 ‹_›).symm
  refine AWP.loop_ent (fun k : Nat => ⟨[(0, .one (.pv (rows m))), (17, .one (.pv (rows m))), (18, sc (.int .i64 m.length)), (19, sc (.int .i64 k))], [], 36⟩)
    (fun k => k ≤ m.length ∧ ∀ j, j < k → mrowB (rowAt m 0).length (rowAt m j) = true) (fun k => m.length - k) 0 ⟨by omega, by simp⟩ (by (simp [Ent, EntS, EntH, SlE, VE, lookup, BE])) ?_
  rintro k ⟨hk, hall⟩
  repeat' (first | (with_reducible first | refine then_normal ?_ | refine then_ret ?_ | refine then_exit ?_ | refine block_normal ?_ | refine block_ret ?_) | ((with_reducible show blockQ _ _ _ _); first | refine block_exit ?_ | refine block_exit_ne rfl ?_) | ((with_reducible show AWP _ _ _ _ _); first | (with_reducible first | refine AWP.seq ?_ | refine AWP.block ?_ | refine AWP.region ?_ | refine AWP.ret ?_ | refine AWP.exit ?_ | refine AWP.skip ?_) | refine AWP.drawn rfl (by kernel_rfl) ?_ | refine AWP.cond rfl ?_ ?_) | with_reducible refine ev_nil ?_ | ((first | ((with_reducible show evOps _ _ _ _ _ _); (first | refine ev_step rfl ?_ | refine ev_undef rfl rfl rfl ?_); intro K hK) | ((with_reducible show EvOpen _ _ _ _ _ _ _); refine ev_open ?_; intro K hK) | ((with_reducible show SkOpen _ _ _ _ _ _ _); refine sk_open ?_; intro K hK) | ((with_reducible show callK _ _ _ _ _ _ _ _); first  | (refine call_scalar (mxVector_fn (rowAt m k) (hr k (by omega))) (Nat.le_of_ble_eq_true rfl) rfl ?_))); simp only [evOp, evQ, evB, binK, withS, opd, kput, putS, upd, lookup, skipOp, argsK, bringIn, bring, Res.list, Res.slot, InK_i64, sz_ints, sz_rows, c_ints, List.reverse_cons, List.reverse_nil, List.nil_append, Nat.reduceEqDiff, Nat.reduceLT, Nat.mul_one, Nat.add_zero, Nat.zero_add, ↓reduceIte, eq_self, true_and, and_true, Bool.not_false, Bool.true_eq_false, Bool.false_eq_true, false_implies, forall_const, Int.toNat_natCast, Int.toNat_zero, Option.isSome_some]) | refine ev_guard rfl rfl rfl ?_ ?_ | ((with_reducible show retQ _ _ _ _); simp only [retQ, retOk, getL, lookup, Option.map_some, fitsL, fits, ND, srcs, Res.list, VE, Value.bool.injEq, Nat.reduceEqDiff, ↓reduceIte, and_true]) | (with_reducible refine hK _ ?_; clear hK K) | (with_reducible refine And.intro ?_ ?_) | (with_reducible intro hc; try simp only [decide_eq_true_eq, decide_eq_false_iff_not, bne_iff_ne, bne_eq_false_iff_eq, Bool.not_eq_true', Bool.not_eq_false', Bool.not_false, Int.not_lt, ne_eq, reduceCtorEq, Bool.true_eq_false] at hc) | omega)
  all_goals first
    | exact (matB_row (show k < m.length by omega) (mrowB_len ‹_›)).symm
    | exact (matB_row (show k < m.length by omega) (mrowB_vec ‹_›)).symm
    | exact ⟨k + 1, ⟨by omega, upto_succ hall (mrowB_yes ‹_› ‹_›)⟩, by omega, by (simp [Ent, EntS, EntH, SlE, VE, lookup, BE])⟩
    | (rw [matB_is ‹1 ≤ (m.length : Int) ∧ (m.length : Int) ≤ 6›, allN_true fun j hj => hall j (by omega)]; done)
    | trace_state
theorem mxSquare_fn (m : List (List Int)) (hm : m.length ≤ 1099511627776) (hr : ∀ i, i < m.length → (rowAt m i).length ≤ 1099511627776) : Fn Try.prog 60 [rows m] (.one (.pv (vb (squB m)))) := by
  refine Fn.of_body Try.call60 Try.func60 rfl Try.ntmps60 (ts := [2]) rfl (by simp) rfl (fun N => ?_)
  repeat' (first | (with_reducible first | refine then_normal ?_ | refine then_ret ?_ | refine then_exit ?_ | refine block_normal ?_ | refine block_ret ?_) | ((with_reducible show blockQ _ _ _ _); first | refine block_exit ?_ | refine block_exit_ne rfl ?_) | ((with_reducible show AWP _ _ _ _ _); first | (with_reducible first | refine AWP.seq ?_ | refine AWP.block ?_ | refine AWP.region ?_ | refine AWP.ret ?_ | refine AWP.exit ?_ | refine AWP.skip ?_) | refine AWP.drawn rfl (by kernel_rfl) ?_ | refine AWP.cond rfl ?_ ?_) | with_reducible refine ev_nil ?_ | ((first | ((with_reducible show evOps _ _ _ _ _ _); (first | refine ev_step rfl ?_ | refine ev_undef rfl rfl rfl ?_); intro K hK) | ((with_reducible show EvOpen _ _ _ _ _ _ _); refine ev_open ?_; intro K hK) | ((with_reducible show SkOpen _ _ _ _ _ _ _); refine sk_open ?_; intro K hK) | ((with_reducible show callK _ _ _ _ _ _ _ _); first  | (refine call_scalar (mxGood_fn m hm hr) (Nat.le_of_ble_eq_true rfl) rfl ?_))); simp only [evOp, evQ, evB, binK, withS, opd, kput, putS, upd, lookup, skipOp, argsK, bringIn, bring, Res.list, Res.slot, slotsOf, sz_ints, sz_rows, c_ints, List.reverse_cons, List.reverse_nil, List.nil_append, Nat.reduceEqDiff, Nat.reduceLT, Nat.mul_one, Nat.zero_add, ↓reduceIte, eq_self, true_and, and_true, Bool.not_true, Bool.true_eq_false, Bool.false_eq_true, false_implies, forall_const, Int.toNat_zero, Option.isSome_some]) | refine ev_guard rfl rfl rfl ?_ ?_ | ((with_reducible show retQ _ _ _ _); simp only [retQ, retOk, getL, lookup, Option.map_some, fitsL, fits, ND, srcs, Res.list, VE, Value.bool.injEq, Nat.reduceEqDiff, ↓reduceIte, and_true]) | (with_reducible refine hK _ ?_; clear hK K) | (with_reducible refine And.intro ?_ ?_) | (with_reducible intro hc; try simp only [Bool.not_true, reduceCtorEq, Bool.true_eq_false] at hc) | omega)
  any_goals (have := matB_len ‹matB m = true›; omega)
  all_goals first
    | (rw [squB_no ‹matB m = false›]; done)
    | (rw [squB_is ‹matB m = true›]; done)
    | trace_state
end Go.Proofs.Ytlomkebhopaliaa
namespace Go.Proofs.Ytlomkebhopaliaa
open Go.RowKit Go.Proofs
set_option linter.unusedSimpArgs false
set_option linter.unusedVariables false
end Go.Proofs.Ytlomkebhopaliaa
namespace Go.Proofs.Ytlomkebhopaliaa
open Go.RowKit Go.Proofs
set_option linter.unusedSimpArgs false
set_option linter.unusedVariables false
def partL (N n k : Nat) (p : Nat → V → Prop) (F : Nat → V) : Prop := k ≤ n ∧ ∀ i, i < k → p i (F i) ∧ (∀ b, Zof (F i) b → N ≤ b) ∧ ∀ j, j < k → j ≠ i → Apart (F i) (F j)
def fullL (n : Nat) (e : TypeId) (p : Nat → V → Prop) : Res → Prop := fun r => ∃ F : Nat → V, (∀ i, i < n → p i (F i) ∧ ∀ j, j < n → j ≠ i → Apart (F i) (F j)) ∧ r = .one (.fr 1 n ⟨e, n, F⟩)
theorem fullL.shape {n : Nat} {e : TypeId} {p : Nat → V → Prop} (r : Res) (h : fullL n e p r) : r.shape 1 = true := by obtain ⟨F, _, rfl⟩ := h; rfl
def oneL (p : V → Prop) : Res → Prop := fun r => ∃ v, p v ∧ r = .one (.pv v)
theorem oneL.shape {p : V → Prop} (r : Res) (h : oneL p r) : r.shape 1 = true := by obtain ⟨F, _, rfl⟩ := h; rfl
theorem partL.grow {N n k : Nat} {p : Nat → V → Prop} {F : Nat → V} {v : V} (h : partL N n k p F) (hk : k < n) (hp : p k v) (hN : ∀ b, Zof v b → N ≤ b) (hd : ∀ i, i < k → Apart (F i) v) : partL N n (k + 1) p (fun i => if i = k then v else F i) := by
  refine ⟨by omega, fun i hi => ?_⟩
  by_cases e : i = k
  · subst e
    simp only [if_true]
    exact ⟨hp, hN, fun j hj hne => by rw [if_neg hne]; exact (hd j (by omega)).symm⟩
  · simp only [if_neg e]
    obtain ⟨h1, h2, h3⟩ := h.2 i (by omega)
    refine ⟨h1, h2, fun j hj hne => ?_⟩
    by_cases e2 : j = k
    · subst e2; rw [if_pos rfl]; exact hd i (by omega)
    · rw [if_neg e2]; exact h3 j (by omega) hne
theorem FnE.row1 {P : Program} {f : FuncId} {vs : List V} {l : List Int} (h : Fn P f vs (.one (.fr 1 l.length (bints l)))) : FnE P f vs (oneL (isRow l)) :=
  (h.toRow (by simp [bints]) (fun i _ => ⟨_, rfl⟩)).weaken fun r ⟨u0, Z, hr⟩ => ⟨_, ⟨u0, Z, rfl⟩, hr⟩
theorem zst_blk {s : ASt} {id : Nat} {blk : Blk} {i : Nat} {v : V} {Z : Nat → Prop} (h1 : s.h[id]? = some (some blk)) (h2 : i < blk.n) (h3 : blk.f i = v) (h4 : ZIn Z v) : ZSt Z s := .inr ⟨id, blk, i, h1, h2, by rw [h3]; exact h4⟩
theorem zst_slot {s : ASt} {t : Nat} {v : V} {Z : Nat → Prop} (h1 : lookup s.σ t = some (.one (.pv v))) (h4 : ZIn Z v) : ZSt Z s := .inl ⟨t, v, h1, h4⟩
theorem NewV.apart {N : Nat} {s : ASt} {v v' : V} (h : NewV (fun Z => (∀ b, Z b → N ≤ b) ∧ ∀ Z', ZSt Z' s → Disj Z' Z) v) (h' : ∀ Z, ZIn Z v' → ZSt Z s) : Apart v' v := fun b ⟨Z', hZ', hb'⟩ ⟨Z, hZ, hb⟩ => (NewV.zin hZ h).2 Z' (h' Z' hZ') b hb' hb
theorem NewV.of_zof {N : Nat} : ∀ {v : V}, NewV (fun _ => True) v → (∀ b, Zof v b → N ≤ b) → NewV (fun Z => ∀ b, Z b → N ≤ b) v
  | .val _, _, _ => trivial
  | .row u Z sz n f, hv, h => ⟨fun b hb => h b ⟨Z, .row _ _ _ _, hb⟩, fun i hi => NewV.of_zof (hv.2 i hi) fun b ⟨Z', hZ, hb⟩ => h b ⟨Z', .inRow _ _ _ _ _ i hi hZ, hb⟩⟩
  | .grow u Z e sz n f, hv, h => ⟨fun b hb => h b ⟨Z, .grow _ _ _ _ _, hb⟩, fun i hi => NewV.of_zof (hv.2 i hi) fun b ⟨Z', hZ, hb⟩ => h b ⟨Z', .inGrow _ _ _ _ _ _ i hi hZ, hb⟩⟩
  | .agg n f, hv, h => fun i hi => NewV.of_zof (hv i hi) fun b ⟨Z', hZ, hb⟩ => h b ⟨Z', .inAgg _ _ i hi hZ, hb⟩
  | .seq _ _ _, hv, _ => hv.elim
  | .pin _ _, hv, _ => hv.elim
  | .clo _ _ _, hv, _ => hv.elim
  | .old Z v, hv, h => fun b hb => h b ⟨Z, .old _, hb⟩
  | .cur _ _ _ _, hv, _ => hv.elim
theorem isAut.mk {a e : List Int} {s : List (List (List Int))} {v0 v1 v2 : V} (h0 : isRow a v0) (h1 : isRow e v1) (h2 : isMats s v2) (a01 : Apart v0 v1) (a02 : Apart v0 v2) (a12 : Apart v1 v2) : isAut a e s (fun i => if i = 0 then v0 else if i = 1 then v1 else v2) := by
  refine ⟨h0, h1, h2, fun i hi j hj hne => ?_⟩
  rcases (show i = 0 ∨ i = 1 ∨ i = 2 by omega) with rfl | rfl | rfl <;> rcases (show j = 0 ∨ j = 1 ∨ j = 2 by omega) with rfl | rfl | rfl <;>
    first | exact (hne rfl).elim | exact a01 | exact a02 | exact a12 | exact a01.symm | exact a02.symm | exact a12.symm
theorem isAut.ge {N : Nat} {q : (Nat → Prop) → Prop} {F : Nat → V} (h : NewV (fun Z => (∀ b, Z b → N ≤ b) ∧ q Z) (.agg 3 F)) : ∀ b, Zof (.agg 3 F) b → N ≤ b := NewV.ge h
open Go.RowKit Go.Proofs
set_option linter.unusedSimpArgs false
set_option linter.unusedVariables false
end Go.Proofs.Ytlomkebhopaliaa
namespace Go.Proofs.Ytlomkebhopaliaa
open Go.RowKit Go.Proofs
set_option linter.unusedSimpArgs false
set_option linter.unusedVariables false
def isG (l : List Int) (v : V) : Prop := ∃ (u : Value) (Z : Nat → Prop), v = .grow u Z 3 1 l.length fun j => vi (l.getD j 0)
def gL (N n : Nat) (p : Nat → List Int) (F : Nat → V) : Prop := ∀ q, q < n → isG (p q) (F q) ∧ (∀ b, Zof (F q) b → N ≤ b) ∧ ∀ r, r < n → r ≠ q → Apart (F q) (F r)
theorem isG.one {l : List Int} {v : V} (h : isG l v) : v.one = true := by obtain ⟨u, Z, rfl⟩ := h; rfl
theorem Zof.grow {u : Value} {Z : Nat → Prop} {e : TypeId} {n : Nat} {g : Nat → Int} {b : Nat} : Zof (.grow u Z e 1 n fun j => vi (g j)) b ↔ Z b := by
  constructor
  · rintro ⟨Z', h, hb⟩
    cases h with
    | grow => exact hb
    | inGrow _ _ _ _ _ _ i _ h => cases h
  · intro h; exact ⟨Z, .grow _ _ _ _ _, h⟩
theorem isG.new {l : List Int} {v : V} (h : isG l v) : NewV (fun _ => True) v := by obtain ⟨u, Z, rfl⟩ := h; exact ⟨trivial, fun _ _ => trivial⟩
def rowOfG : V → V
  | .grow u Z _ sz n f => .row u Z sz n f
  | v => v
theorem isG.row {l : List Int} {v : V} (h : isG l v) : isRow l (rowOfG v) ∧ VE v (rowOfG v) ∧ ∀ b, Zof (rowOfG v) b ↔ Zof v b := by
  obtain ⟨u, Z, rfl⟩ := h
  refine ⟨⟨u, Z, rfl⟩, ⟨rfl, rfl, rfl, rfl, fun i _ => VE.rfl' _⟩, fun b => ⟨?_, ?_⟩⟩
  · rintro ⟨Z', h, hb⟩
    cases h with
    | row => exact Zof.grow.2 hb
    | inRow _ _ _ _ _ i _ h => cases h
  · intro h; exact ⟨Z, .row _ _ _ _, Zof.grow.1 h⟩
theorem gL.step {N n k : Nat} {p p' : Nat → List Int} {F : Nat → V} {u1 : Value} {Z1 : Nat → Prop} (h : gL N n p F) (hk : k < n) (hp : ∀ q, q < n → q ≠ k → p' q = p q) (hN : ∀ b, Z1 b → N ≤ b) (hd : ∀ q, q < n → q ≠ k → Disj (Zof (F q)) Z1) :
    gL N n p' fun q => if q = k then .grow u1 Z1 3 1 (p' k).length fun j => vi ((p' k).getD j 0) else F q := by
  intro q hq
  by_cases e : q = k
  · subst e
    simp only [if_pos]
    refine ⟨⟨u1, Z1, rfl⟩, fun b hb => hN b (Zof.grow.1 hb), fun r hr hne => ?_⟩
    rw [if_neg hne]
    exact fun b hb hb' => hd r hr hne b hb' (Zof.grow.1 hb)
  · obtain ⟨h1, h2, h3⟩ := h q hq
    simp only [if_neg e]
    refine ⟨by rw [hp q hq e]; exact h1, h2, fun r hr hne => ?_⟩
    by_cases e' : r = k
    · rw [if_pos e']
      exact fun b hb hb' => hd q hq e b hb (Zof.grow.1 hb')
    · rw [if_neg e']; exact h3 r hr hne
theorem letRow_go {N t : Nat} {s : ASt} {K : ASt → Prop} {id sz len : Nat} {blk : Blk} (ht : lookup s.σ t = some (.one (.own id sz 0 len))) (hb : s.h[id]? = some (some blk)) (hl : len * sz ≤ blk.n)
    (h : ∀ (u0 : Value) (Z : Nat → Prop), (∀ b, Z b → N ≤ b) → (∀ Z', ZSt Z' s → Disj Z' Z) → K ⟨upd s.σ t (.one (.pv (.row u0 Z sz len blk.f))), s.h.set id none, s.nt⟩) : letRowK N t s K := ⟨id, sz, len, blk, ht, hb, hl, h⟩
theorem grow_if {e : TypeId} {k : Nat} {F : Nat → V} {v v' z : V} (h : VE v v') : BE ⟨e, k + 1, fun i => if i < k then F i else if i - k = 0 then v else z⟩ ⟨e, k + 1, fun i => if i = k then v' else F i⟩ := by
  refine ⟨rfl, Nat.le_refl _, fun i hi => ?_⟩
  have hi : i < k + 1 := hi
  show VE (if i < k then F i else if i - k = 0 then v else z) (if i = k then v' else F i)
  by_cases e : i = k
  · subst e; rw [if_neg (by omega), if_pos (by omega), if_pos rfl]; exact h
  · rw [if_pos (by omega), if_neg e]; exact VE.rfl' _
theorem zofRow {u : Value} {Z : Nat → Prop} {n : Nat} {g : Nat → Int} {b : Nat} : Zof (.row u Z 1 n fun j => vi (g j)) b ↔ Z b := by
  constructor
  · rintro ⟨Z', h, hb⟩
    cases h with
    | row => exact hb
    | inRow _ _ _ _ _ i _ h => cases h
  · intro h; exact ⟨Z, .row _ _ _ _, h⟩
open Go.RowKit Go.Proofs
set_option linter.unusedSimpArgs false
set_option linter.unusedVariables false
theorem clone_fn (l : List Int) (hl : l.length ≤ 1099511627776) : Fn Try.prog 69 [ints l] (.one (.fr 1 l.length (bints l))) := by
  refine Fn.of_body Try.call69 Try.func69 rfl Try.ntmps69 (ts := [2]) rfl (by simp) rfl (fun N => ?_)
  repeat' (first | ((with_reducible show eqNilK _ _ _ _); refine eqNil_go rfl (Nat.le_of_ble_eq_true rfl) ?_; intro nb hnb; simp only [putS, upd, bints, Nat.reduceEqDiff, ↓reduceIte]) | (with_reducible first | refine then_normal ?_ | refine then_ret ?_ | refine then_exit ?_ | refine block_normal ?_ | refine block_ret ?_) | ((with_reducible show blockQ _ _ _ _); first | refine block_exit ?_ | refine block_exit_ne rfl ?_) | ((with_reducible show AWP _ _ _ _ _); first | (refine AWP.region_eqNil  u_ints ?_) | (with_reducible first | refine AWP.seq ?_ | refine AWP.block ?_ | refine AWP.region ?_ | refine AWP.ret ?_ | refine AWP.exit ?_ | refine AWP.skip ?_) | refine AWP.drawn rfl (by kernel_rfl) ?_ | refine AWP.cond rfl ?_ ?_) | with_reducible refine ev_nil ?_ | ((first | ((with_reducible show evOps _ _ _ _ _ _); (first | refine ev_step rfl ?_ | refine ev_undef rfl rfl rfl ?_); intro K hK) | ((with_reducible show EvOpen _ _ _ _ _ _ _); refine ev_open ?_; intro K hK) | ((with_reducible show SkOpen _ _ _ _ _ _ _); refine sk_open ?_; intro K hK) | ((with_reducible show callK _ _ _ _ _ _ _ _); first  | fail)); simp only [evOp, evQ, withS, opd, kput, putS, upd, lookup, slotsOf, appendK, srcK, growK, newBlk, partsK, buildSliceK, V.one, Value.oneCell', List.set_cons_zero, ei_ints, ea_ints, Nat.zero_le, List.getElem?_cons_zero, List.nil_append, List.cons_append, List.length_cons, List.length_nil, Nat.reduceEqDiff, Nat.reduceLT, Nat.reduceLeDiff, Nat.mul_one, Nat.zero_add, Nat.sub_zero, Nat.mod_one, Nat.not_lt_zero, List.getD_cons_zero, ↓reduceIte, eq_self, true_and, forall_const, implies_true]) | refine ev_guard rfl rfl rfl ?_ ?_ | ((with_reducible show retQ _ _ _ _); simp only [retQ, retOk, getL, lookup, Option.map_some, fitsL, fits, ND, srcs, Res.list, List.getElem?_cons_zero, List.getElem?_cons_succ, Nat.reduceEqDiff, ↓reduceIte, and_true, true_and]) | (with_reducible refine hK _ ?_; clear hK K) | (with_reducible refine And.intro ?_ ?_) | (with_reducible intro hc; try simp only [eq_self] at hc) | omega)
  all_goals first
    | (have := hnb ‹_›; omega)
    | exact ⟨_, rfl, BE.rfl' _⟩
    | simp
theorem l1Own_fn' (l : List Int) (hl : l.length ≤ 1099511627776) : Fn Try.prog 71 [ints l] (.one (.fr 1 l.length (bints l))) := by
  refine Fn.of_body Try.call71 Try.func71 rfl Try.ntmps71 (ts := [2]) rfl (by simp) rfl (fun N => ?_)
  repeat' (first | (with_reducible first | refine then_normal ?_ | refine then_ret ?_ | refine then_exit ?_ | refine block_normal ?_ | refine block_ret ?_) | ((with_reducible show blockQ _ _ _ _); first | refine block_exit ?_ | refine block_exit_ne rfl ?_) | ((with_reducible show AWP _ _ _ _ _); first | (with_reducible first | refine AWP.seq ?_ | refine AWP.block ?_ | refine AWP.region ?_ | refine AWP.ret ?_ | refine AWP.exit ?_ | refine AWP.skip ?_) | refine AWP.drawn rfl (by kernel_rfl) ?_ | refine AWP.cond rfl ?_ ?_) | with_reducible refine ev_nil ?_ | ((first | ((with_reducible show evOps _ _ _ _ _ _); (first | refine ev_step rfl ?_ | refine ev_undef rfl rfl rfl ?_); intro K hK) | ((with_reducible show EvOpen _ _ _ _ _ _ _); refine ev_open ?_; intro K hK) | ((with_reducible show SkOpen _ _ _ _ _ _ _); refine sk_open ?_; intro K hK) | ((with_reducible show callK _ _ _ _ _ _ _ _); first | fail)); simp only [evOp, evQ, withS, opd, kput, putS, upd, lookup, slotsOf, appendK, srcK, growK, newBlk, partsK, buildSliceK, V.one, Value.oneCell', List.set_cons_zero, ei_ints, ea_ints, Nat.zero_le, List.getElem?_cons_zero, List.nil_append, List.cons_append, List.length_cons, List.length_nil, Nat.reduceEqDiff, Nat.reduceLT, Nat.reduceLeDiff, Nat.mul_one, Nat.zero_add, Nat.sub_zero, Nat.mod_one, Nat.not_lt_zero, List.getD_cons_zero, ↓reduceIte, eq_self, true_and, forall_const, implies_true]) | refine ev_guard rfl rfl rfl ?_ ?_ | ((with_reducible show retQ _ _ _ _); simp only [retQ, retOk, getL, lookup, Option.map_some, fitsL, fits, ND, srcs, Res.list, List.getElem?_cons_zero, List.getElem?_cons_succ, Nat.reduceEqDiff, ↓reduceIte, and_true, true_and]) | (with_reducible refine hK _ ?_; clear hK K) | (with_reducible refine And.intro ?_ ?_) | (with_reducible intro hc; try simp only [eq_self] at hc) | omega)
  all_goals first
    | exact ⟨_, rfl, rfl, by simp [bints], fun i hi => VE.of_eq (by simp [bints])⟩
    | (simp; done)
    | omega
    | trace_state
def gS (N k : Nat) (p : Nat → V → Prop) (v : V) : Prop := ∃ (u : Value) (Z : Nat → Prop) (F : Nat → V), v = .grow u Z 24 1 k F ∧ (∀ b, Z b → N ≤ b) ∧ ∀ i, i < k → p i (F i) ∧ (∀ b, Zof (F i) b → N ≤ b) ∧ Disj Z (Zof (F i)) ∧ ∀ j, j < k → j ≠ i → Apart (F i) (F j)
theorem Zof.growF {u : Value} {Z : Nat → Prop} {e : TypeId} {n : Nat} {F : Nat → V} {b : Nat} : Zof (.grow u Z e 1 n F) b ↔ Z b ∨ ∃ i, i < n ∧ Zof (F i) b := by
  constructor
  · rintro ⟨Z', h, hb⟩
    cases h with
    | grow => exact .inl hb
    | inGrow _ _ _ _ _ _ i hi h => exact .inr ⟨i, by omega, Z', h, hb⟩
  · rintro (h | ⟨i, hi, Z', h, hb⟩)
    · exact ⟨Z, .grow _ _ _ _ _, h⟩
    · exact ⟨Z', .inGrow _ _ _ _ _ _ i (by omega) h, hb⟩
theorem gS.nil (N : Nat) (p : Nat → V → Prop) : gS N 0 p (.grow (.slice none 0 0) (fun _ => False) 24 1 0 fun _ => .val undef) := ⟨_, _, _, rfl, fun _ h => h.elim, fun i hi => by omega⟩
theorem gS.step {N k : Nat} {p : Nat → V → Prop} {Z Z2 : Nat → Prop} {u2 : Value} {F : Nat → V} {v : V} (h : ∀ i, i < k → p i (F i) ∧ (∀ b, Zof (F i) b → N ≤ b) ∧ Disj Z (Zof (F i)) ∧ ∀ j, j < k → j ≠ i → Apart (F i) (F j)) (hv : p k v) (hN : ∀ b, Zof v b → N ≤ b) (ha : ∀ i, i < k → Apart (F i) v)
    (hZ : ∀ b, Z2 b → N ≤ b) (hd : ∀ i, i < k → Disj Z2 (Zof (F i))) (hdv : Disj Z2 (Zof v)) : gS N (k + 1) p (.grow u2 Z2 24 1 (k + 1) fun i => if i = k then v else F i) := by
  refine ⟨u2, Z2, _, rfl, hZ, fun i hi => ?_⟩
  by_cases e : i = k
  · subst e
    simp only [if_pos]
    exact ⟨hv, hN, hdv, fun j hj hne => by rw [if_neg hne]; exact (ha j (by omega)).symm⟩
  · obtain ⟨q1, q2, q3, q4⟩ := h i (by omega)
    simp only [if_neg e]
    refine ⟨q1, q2, hd i (by omega), fun j hj hne => ?_⟩
    by_cases e' : j = k
    · rw [if_pos e']; exact ha i (by omega)
    · rw [if_neg e']; exact q4 j (by omega) hne
theorem gS.new {N k : Nat} {p : Nat → V → Prop} {v : V} (hp : ∀ i v, p i v → NewV (fun _ => True) v) (h : gS N k p v) : NewV (fun _ => True) v := by
  obtain ⟨u, Z, F, rfl, h1, h2⟩ := h
  exact ⟨trivial, fun i hi => hp i _ (h2 i (by omega)).1⟩
theorem gS.ge {N k : Nat} {p : Nat → V → Prop} {v : V} (h : gS N k p v) : ∀ b, Zof v b → N ≤ b := by
  obtain ⟨u, Z, F, rfl, h1, h2⟩ := h
  intro b hb
  rcases Zof.growF.1 hb with hb | ⟨i, hi, hb⟩
  · exact h1 b hb
  · exact (h2 i hi).2.1 b hb
theorem gS.one {N k : Nat} {p : Nat → V → Prop} {v : V} (h : gS N k p v) : v.one = true := by obtain ⟨u, Z, F, rfl, h⟩ := h; rfl
def pU (N n cnt : Nat) (m : List (List Int)) (O : Nat → V) (F : Nat → V) : Prop := partL N n cnt (fun q => isRow (rowAt m q)) F ∧ ∀ q, q < cnt → ∀ i, i < 3 → Apart (O i) (F q)
theorem pU.nil (N n : Nat) (m : List (List Int)) (O F : Nat → V) : pU N n 0 m O F := ⟨⟨by omega, fun i hi => by omega⟩, fun q hq => by omega⟩
theorem pU.grow {N n cnt : Nat} {m : List (List Int)} {O F : Nat → V} {v : V} (h : pU N n cnt m O F) (hc : cnt < n) (hv : isRow (rowAt m cnt) v) (hN : ∀ b, Zof v b → N ≤ b) (hd : ∀ i, i < cnt → Apart (F i) v) (ho : ∀ i, i < 3 → Apart (O i) v) : pU N n (cnt + 1) m O (fun i => if i = cnt then v else F i) := by
  refine ⟨h.1.grow hc hv hN hd, fun q hq i hi => ?_⟩
  show Apart (O i) (if q = cnt then v else F q)
  by_cases e : q = cnt
  · rw [if_pos e]; exact ho i hi
  · rw [if_neg e]; exact h.2 q (by omega) i hi
end Go.Proofs.Ytlomkebhopaliaa
namespace Go.Proofs.Ytlomkebhopaliaa
open Go.RowKit Go.Proofs
set_option linter.unusedSimpArgs false
set_option linter.unusedVariables false
set_option maxHeartbeats 2000000 in
set_option maxRecDepth 20000 in
theorem mxOwn_full (m : List (List Int)) (hl : m.length ≤ 1099511627776) (hr : ∀ i, i < m.length → (rowAt m i).length ≤ 1099511627776) : FnE Try.prog 42 [rows m] (fullL m.length 30 fun i => isRow (rowAt m i)) := by
  refine FnE.of_body (fun N => [rows m]) (fun _ _ h => h) Try.call42 Try.func42 rfl Try.ntmps42 (ts := [2]) rfl (fun _ => by simp) (fullL.shape) (fun N => ?_)
  repeat' (first | (with_reducible first | refine then_normal ?_ | refine then_ret ?_ | refine then_exit ?_ | refine block_normal ?_ | refine block_ret ?_) | ((with_reducible show blockQ _ _ _ _); first | refine block_exit ?_ | refine block_exit_ne rfl ?_) | ((with_reducible show AWP _ _ _ _ _); first | (with_reducible first | refine AWP.seq ?_ | refine AWP.block ?_ | refine AWP.region ?_ | refine AWP.ret ?_ | refine AWP.exit ?_ | refine AWP.skip ?_) | refine AWP.drawn rfl (by kernel_rfl) ?_ | refine AWP.cond rfl ?_ ?_) | with_reducible refine ev_nil ?_ | ((first | ((with_reducible show evOps _ _ _ _ _ _); (first | refine ev_step rfl ?_ | refine ev_undef rfl rfl rfl ?_); intro K hK) | ((with_reducible show EvOpen _ _ _ _ _ _ _); refine ev_open ?_; intro K hK) | ((with_reducible show SkOpen _ _ _ _ _ _ _); refine sk_open ?_; intro K hK) | ((with_reducible show callK _ _ _ _ _ _ _ _); first | fail)); simp only [evOp, evQ, evB, withS, opd, kput, putS, upd, lookup, slotsOf, sz_rows, Nat.reduceEqDiff, Nat.reduceLT, ↓reduceIte, eq_self, true_and, Option.isSome_some]) | refine ev_guard rfl rfl rfl ?_ ?_ | ((with_reducible show retQ _ _ _ _); simp only [eq_self]) | (with_reducible refine hK _ ?_; clear hK K) | (with_reducible refine And.intro ?_ ?_) | (with_reducible intro hc; try simp only [eq_self] at hc) | omega)
  refine AWP.virtual 3 30 1 rfl ?_
  refine AWP.loop_entR [0] (fun x : Nat × (Nat → V) => ⟨[(3, .one (.own 0 1 0 x.1)), (6, .one (.pv (rows m))), (7, sc (.int .i64 m.length)), (8, sc (.int .i64 x.1))], [some ⟨30, x.1, x.2⟩], 19⟩)
    (fun x => partL N m.length x.1 (fun i => isRow (rowAt m i)) x.2) (fun x => m.length - x.1) (0, fun _ => .val undef) ⟨by omega, fun i hi => by omega⟩ (by simp [EntR, EntSR, EntHR, SlR, VE, lookup, BE, upd, sc, VE.rfl']) ?_
  rintro ⟨k, F⟩ hG
  have hk := hG.1
  by_cases hkm : k < m.length
  · repeat' (first | ((with_reducible show evNx _ _ _ _ _ _); first | (with_reducible refine nx_done ?_) | (refine nx_one rfl ?_) | (refine nx_alt rfl ?_ ?_) | (with_reducible refine nx_st ?_)) | ((with_reducible show evSx _ _ _ _ _ _); first | (with_reducible refine sx_done ?_) | (with_reducible refine sx_st ?_) | (with_reducible refine sx_op ?_)) | ((with_reducible show evTake _ _ _ _ _); with_reducible refine take_nil ?_) | ((with_reducible show evSy _ _ _ _ _ _ _); first | (with_reducible refine sy_done ?_) | (refine sy_last rfl ?_) | (refine sy_one (by decide) rfl ?_) | (refine sy_alt (by decide) rfl ?_ ?_) | (with_reducible refine sy_st ?_)) | ((with_reducible show StK _ _ _); first | fail) | (with_reducible first | refine then_normal ?_ | refine then_ret ?_ | refine then_exit ?_ | refine block_normal ?_ | refine block_ret ?_) | ((with_reducible show blockQ _ _ _ _); first | refine block_exit ?_ | refine block_exit_ne rfl ?_) | ((with_reducible show AWP _ _ _ _ _); first | (refine AWP.region_sx (id := 5) [.op, .op, .op, .op, .op, .op] ?_) | (with_reducible first | refine AWP.seq ?_ | refine AWP.block ?_ | refine AWP.region ?_ | refine AWP.ret ?_ | refine AWP.exit ?_ | refine AWP.skip ?_) | refine AWP.drawn rfl (by kernel_rfl) ?_ | refine AWP.cond rfl ?_ ?_) | with_reducible refine ev_nil ?_ | ((first | ((with_reducible show evNx _ _ _ _ _ _); refine nx_take rfl ?_; intro K hK) | ((with_reducible show Ax _ _ _ _ _); first | (refine ax_callE (f := 71) ?_) | (refine ax_op rfl ?_; intro K hK)) | ((with_reducible show evTake _ _ _ _ _); refine take_step rfl ?_; intro K hK) | ((with_reducible show evSy _ _ _ _ _ _ _); refine sy_take rfl ?_; intro K hK) | ((with_reducible show AxB _ _ _ _ _); first | (refine axb_callE (f := 71) ?_) | (refine axb_op rfl rfl ?_; intro K hK)) | (refine ⟨_, FnE.row1 (l1Own_fn' (rowAt m k) (hr k (by omega))), ?_⟩; rintro _ ⟨_, ⟨u0, Z, rfl⟩, rfl⟩ hnew; simp only [Res.list, NewL, and_true, true_and] at hnew) | ((with_reducible show evOps _ _ _ _ _ _); (first | refine ev_step rfl ?_ | refine ev_undef rfl rfl rfl ?_); intro K hK) | ((with_reducible show EvOpen _ _ _ _ _ _ _); refine ev_open ?_; intro K hK) | ((with_reducible show SkOpen _ _ _ _ _ _ _); refine sk_open ?_; intro K hK) | ((with_reducible show callK _ _ _ _ _ _ _ _); first  | fail)); simp only [callEK, evOp, evQ, binK, withS, opd, kput, putS, upd, lookup, argsK, bringIn, bring, Res.list, Res.slot, InK_i64, appendK, srcK, growK, frz, newBlk, partsK, buildSliceK, plSlice, V.one, List.set_cons_zero, sz_rows, c_ints, ei_rows, ea_rows, List.getElem?_cons_zero, List.getElem?_cons_succ, List.reverse_cons, List.reverse_nil, List.nil_append, List.cons_append, List.length_cons, List.length_nil, Nat.reduceEqDiff, Nat.reduceAdd, Nat.reduceLT, Nat.reduceLeDiff, Nat.mul_one, Nat.add_zero, Nat.zero_add, Nat.mod_one, List.getD_cons_zero, ↓reduceIte, eq_self, true_and, Bool.false_eq_true, Int.toNat_natCast]) | refine ev_guard rfl rfl rfl ?_ ?_ | ((with_reducible show retQ _ _ _ _); simp only [eq_self]) | (with_reducible refine hK _ ?_; clear hK K) | (with_reducible refine And.intro ?_ ?_) | (with_reducible intro hc; try simp only [decide_eq_true_eq, decide_eq_false_iff_not, Int.not_lt] at hc) | omega)
    all_goals first
      | (exfalso; omega)
      | exact (hG.2 _ (by assumption)).1.one
      | (rename_i q; obtain rfl : q = 0 := (by omega); rfl)
      | skip
    exact ⟨(k + 1, _), hG.grow hkm (v := .row u0 Z 1 (rowAt m k).length fun j => vi ((rowAt m k).getD j 0)) ⟨u0, Z, rfl⟩ hnew.ge (fun i hi => hnew.apart fun Z' hZ' => zst_blk (id := 0) (i := i) rfl hi rfl hZ'), by show m.length - (k + 1) < m.length - k; omega, [2], rfl, by decide, by simp [EntSR, SlR, VE, lookup, sc, VE.rfl'], grow_if (VE.rfl' _), trivial⟩
  · have e : k = m.length := by omega
    subst e
    repeat' (first | (with_reducible first | refine then_normal ?_ | refine then_ret ?_ | refine then_exit ?_ | refine block_normal ?_ | refine block_ret ?_) | ((with_reducible show blockQ _ _ _ _); first | refine block_exit ?_ | refine block_exit_ne rfl ?_) | ((with_reducible show AWP _ _ _ _ _); first | (with_reducible first | refine AWP.seq ?_ | refine AWP.block ?_ | refine AWP.region ?_ | refine AWP.ret ?_ | refine AWP.exit ?_ | refine AWP.skip ?_) | refine AWP.drawn rfl (by kernel_rfl) ?_ | refine AWP.cond rfl ?_ ?_) | with_reducible refine ev_nil ?_ | ((first | ((with_reducible show evOps _ _ _ _ _ _); (first | refine ev_step rfl ?_ | refine ev_undef rfl rfl rfl ?_); intro K hK) | ((with_reducible show EvOpen _ _ _ _ _ _ _); refine ev_open ?_; intro K hK) | ((with_reducible show SkOpen _ _ _ _ _ _ _); refine sk_open ?_; intro K hK) | ((with_reducible show callK _ _ _ _ _ _ _ _); first | fail)); simp only [evOp, evQ, binK, withS, opd, kput, putS, upd, lookup, argsK, sz_rows, c_ints, List.reverse_cons, List.reverse_nil, List.nil_append, Nat.reduceEqDiff, Nat.reduceLT, Nat.mul_one, Nat.add_zero, ↓reduceIte, eq_self, true_and, Int.toNat_natCast]) | refine ev_guard rfl rfl rfl ?_ ?_ | ((with_reducible show retQ _ _ _ _); simp only [eq_self]) | (with_reducible refine hK _ ?_; clear hK K) | (with_reducible refine And.intro ?_ ?_) | (with_reducible intro hc; try simp only [decide_eq_true_eq, decide_eq_false_iff_not, Int.not_lt] at hc) | omega)
    refine ⟨_, ⟨F, fun i hi => ⟨(hG.2 i hi).1, (hG.2 i hi).2.2⟩, rfl⟩, ⟨fun i hi => NewV.of_zof (isRow.new (hG.2 i hi).1) (hG.2 i hi).2.1, trivial⟩, ?_⟩
    simp only [retOk, getL, lookup, Option.map_some, fitsL, fits, ND, srcs, Res.list, List.getElem?_cons_zero, Nat.reduceEqDiff, ↓reduceIte, and_true, true_and]
    exact ⟨⟨_, rfl, BE.rfl' _⟩, by simp⟩
    all_goals trace_state
set_option maxHeartbeats 2000000 in
set_option maxRecDepth 20000 in
theorem clones_full (m : List (List Int)) (hl : m.length ≤ 1099511627776) (hr : ∀ i, i < m.length → (rowAt m i).length ≤ 1099511627776) : FnE Try.prog 40 [rows m] (fullL m.length 30 fun i => isRow (rowAt m i)) := by
  refine FnE.of_body (fun N => [rows m]) (fun _ _ h => h) Try.call40 Try.func40 rfl Try.ntmps40 (ts := [2]) rfl (fun _ => by simp) (fullL.shape) (fun N => ?_)
  repeat' (first | (with_reducible first | refine then_normal ?_ | refine then_ret ?_ | refine then_exit ?_ | refine block_normal ?_ | refine block_ret ?_) | ((with_reducible show blockQ _ _ _ _); first | refine block_exit ?_ | refine block_exit_ne rfl ?_) | ((with_reducible show AWP _ _ _ _ _); first | (with_reducible first | refine AWP.seq ?_ | refine AWP.block ?_ | refine AWP.region ?_ | refine AWP.ret ?_ | refine AWP.exit ?_ | refine AWP.skip ?_) | refine AWP.drawn rfl (by kernel_rfl) ?_ | refine AWP.cond rfl ?_ ?_) | with_reducible refine ev_nil ?_ | ((first | ((with_reducible show evOps _ _ _ _ _ _); (first | refine ev_step rfl ?_ | refine ev_undef rfl rfl rfl ?_); intro K hK) | ((with_reducible show EvOpen _ _ _ _ _ _ _); refine ev_open ?_; intro K hK) | ((with_reducible show SkOpen _ _ _ _ _ _ _); refine sk_open ?_; intro K hK) | ((with_reducible show callK _ _ _ _ _ _ _ _); first | fail)); simp only [evOp, evQ, evB, withS, opd, kput, putS, upd, lookup, slotsOf, newBlk, partsK, buildSliceK, sz_rows, ei_rows, ea_rows, Nat.zero_le, List.nil_append, List.length_cons, List.length_nil, Nat.reduceEqDiff, Nat.reduceLT, Nat.reduceLeDiff, Nat.mul_one, Nat.zero_add, Nat.mod_one, List.getD_cons_zero, ↓reduceIte, eq_self, true_and, Option.isSome_some]) | refine ev_guard rfl rfl rfl ?_ ?_ | ((with_reducible show retQ _ _ _ _); simp only [eq_self]) | (with_reducible refine hK _ ?_; clear hK K) | (with_reducible refine And.intro ?_ ?_) | (with_reducible intro hc; try simp only [eq_self] at hc) | omega)
  refine AWP.loop_entR [0] (fun x : Nat × (Nat → V) => ⟨[(3, .one (.own 0 1 0 x.1)), (7, .one (.pv (rows m))), (8, sc (.int .i64 m.length)), (9, sc (.int .i64 x.1))], [some ⟨30, x.1, x.2⟩], 20⟩)
    (fun x => partL N m.length x.1 (fun i => isRow (rowAt m i)) x.2) (fun x => m.length - x.1) (0, fun _ => .val undef) ⟨by omega, fun i hi => by omega⟩ (by simp [EntR, EntSR, EntHR, SlR, VE, lookup, BE, upd, sc, VE.rfl']) ?_
  rintro ⟨k, F⟩ hG
  have hk := hG.1
  by_cases hkm : k < m.length
  · repeat' (first | ((with_reducible show evNx _ _ _ _ _ _); first | (with_reducible refine nx_done ?_) | (refine nx_one rfl ?_) | (refine nx_alt rfl ?_ ?_) | (with_reducible refine nx_st ?_)) | ((with_reducible show evSx _ _ _ _ _ _); first | (with_reducible refine sx_done ?_) | (with_reducible refine sx_st ?_) | (with_reducible refine sx_op ?_)) | ((with_reducible show evTake _ _ _ _ _); with_reducible refine take_nil ?_) | ((with_reducible show evSy _ _ _ _ _ _ _); first | (with_reducible refine sy_done ?_) | (refine sy_last rfl ?_) | (refine sy_one (by decide) rfl ?_) | (refine sy_alt (by decide) rfl ?_ ?_) | (with_reducible refine sy_st ?_)) | ((with_reducible show StK _ _ _); first | fail) | (with_reducible first | refine then_normal ?_ | refine then_ret ?_ | refine then_exit ?_ | refine block_normal ?_ | refine block_ret ?_) | ((with_reducible show blockQ _ _ _ _); first | refine block_exit ?_ | refine block_exit_ne rfl ?_) | ((with_reducible show AWP _ _ _ _ _); first | (refine AWP.region_sx (id := 5) [.op, .op, .op, .op, .op, .op] ?_) | (with_reducible first | refine AWP.seq ?_ | refine AWP.block ?_ | refine AWP.region ?_ | refine AWP.ret ?_ | refine AWP.exit ?_ | refine AWP.skip ?_) | refine AWP.drawn rfl (by kernel_rfl) ?_ | refine AWP.cond rfl ?_ ?_) | with_reducible refine ev_nil ?_ | ((first | ((with_reducible show evNx _ _ _ _ _ _); refine nx_take rfl ?_; intro K hK) | ((with_reducible show Ax _ _ _ _ _); first | (refine ax_callE (f := 69) ?_) | (refine ax_op rfl ?_; intro K hK)) | ((with_reducible show evTake _ _ _ _ _); refine take_step rfl ?_; intro K hK) | ((with_reducible show evSy _ _ _ _ _ _ _); refine sy_take rfl ?_; intro K hK) | ((with_reducible show AxB _ _ _ _ _); first | (refine axb_callE (f := 69) ?_) | (refine axb_op rfl rfl ?_; intro K hK)) | (refine ⟨_, FnE.row1 (clone_fn (rowAt m k) (hr k (by omega))), ?_⟩; rintro _ ⟨_, ⟨u0, Z, rfl⟩, rfl⟩ hnew; simp only [Res.list, NewL, and_true, true_and] at hnew) | ((with_reducible show evOps _ _ _ _ _ _); (first | refine ev_step rfl ?_ | refine ev_undef rfl rfl rfl ?_); intro K hK) | ((with_reducible show EvOpen _ _ _ _ _ _ _); refine ev_open ?_; intro K hK) | ((with_reducible show SkOpen _ _ _ _ _ _ _); refine sk_open ?_; intro K hK) | ((with_reducible show callK _ _ _ _ _ _ _ _); first  | fail)); simp only [callEK, evOp, evQ, binK, withS, opd, kput, putS, upd, lookup, argsK, bringIn, bring, Res.list, Res.slot, InK_i64, appendK, srcK, growK, frz, newBlk, partsK, buildSliceK, plSlice, V.one, List.set_cons_zero, sz_rows, c_ints, ei_rows, ea_rows, List.getElem?_cons_zero, List.getElem?_cons_succ, List.reverse_cons, List.reverse_nil, List.nil_append, List.cons_append, List.length_cons, List.length_nil, Nat.reduceEqDiff, Nat.reduceAdd, Nat.reduceLT, Nat.reduceLeDiff, Nat.mul_one, Nat.add_zero, Nat.zero_add, Nat.mod_one, List.getD_cons_zero, ↓reduceIte, eq_self, true_and, Bool.false_eq_true, Int.toNat_natCast]) | refine ev_guard rfl rfl rfl ?_ ?_ | ((with_reducible show retQ _ _ _ _); simp only [eq_self]) | (with_reducible refine hK _ ?_; clear hK K) | (with_reducible refine And.intro ?_ ?_) | (with_reducible intro hc; try simp only [decide_eq_true_eq, decide_eq_false_iff_not, Int.not_lt] at hc) | omega)
    all_goals first
      | (exfalso; omega)
      | exact (hG.2 _ (by assumption)).1.one
      | (rename_i q; obtain rfl : q = 0 := (by omega); rfl)
      | skip
    exact ⟨(k + 1, _), hG.grow hkm (v := .row u0 Z 1 (rowAt m k).length fun j => vi ((rowAt m k).getD j 0)) ⟨u0, Z, rfl⟩ hnew.ge (fun i hi => hnew.apart fun Z' hZ' => zst_blk (id := 0) (i := i) rfl hi rfl hZ'), by show m.length - (k + 1) < m.length - k; omega, [2], rfl, by decide, by simp [EntSR, SlR, VE, lookup, sc, VE.rfl'], grow_if (VE.rfl' _), trivial⟩
  · have e : k = m.length := by omega
    subst e
    repeat' (first | (with_reducible first | refine then_normal ?_ | refine then_ret ?_ | refine then_exit ?_ | refine block_normal ?_ | refine block_ret ?_) | ((with_reducible show blockQ _ _ _ _); first | refine block_exit ?_ | refine block_exit_ne rfl ?_) | ((with_reducible show AWP _ _ _ _ _); first | (with_reducible first | refine AWP.seq ?_ | refine AWP.block ?_ | refine AWP.region ?_ | refine AWP.ret ?_ | refine AWP.exit ?_ | refine AWP.skip ?_) | refine AWP.drawn rfl (by kernel_rfl) ?_ | refine AWP.cond rfl ?_ ?_) | with_reducible refine ev_nil ?_ | ((first | ((with_reducible show evOps _ _ _ _ _ _); (first | refine ev_step rfl ?_ | refine ev_undef rfl rfl rfl ?_); intro K hK) | ((with_reducible show EvOpen _ _ _ _ _ _ _); refine ev_open ?_; intro K hK) | ((with_reducible show SkOpen _ _ _ _ _ _ _); refine sk_open ?_; intro K hK) | ((with_reducible show callK _ _ _ _ _ _ _ _); first | fail)); simp only [evOp, evQ, binK, withS, opd, kput, putS, upd, lookup, argsK, sz_rows, c_ints, List.reverse_cons, List.reverse_nil, List.nil_append, Nat.reduceEqDiff, Nat.reduceLT, Nat.mul_one, Nat.add_zero, ↓reduceIte, eq_self, true_and, Int.toNat_natCast]) | refine ev_guard rfl rfl rfl ?_ ?_ | ((with_reducible show retQ _ _ _ _); simp only [eq_self]) | (with_reducible refine hK _ ?_; clear hK K) | (with_reducible refine And.intro ?_ ?_) | (with_reducible intro hc; try simp only [decide_eq_true_eq, decide_eq_false_iff_not, Int.not_lt] at hc) | omega)
    refine ⟨_, ⟨F, fun i hi => ⟨(hG.2 i hi).1, (hG.2 i hi).2.2⟩, rfl⟩, ⟨fun i hi => NewV.of_zof (isRow.new (hG.2 i hi).1) (hG.2 i hi).2.1, trivial⟩, ?_⟩
    simp only [retOk, getL, lookup, Option.map_some, fitsL, fits, ND, srcs, Res.list, List.getElem?_cons_zero, Nat.reduceEqDiff, ↓reduceIte, and_true, true_and]
    exact ⟨⟨_, rfl, BE.rfl' _⟩, by simp⟩
    all_goals trace_state
end Go.Proofs.Ytlomkebhopaliaa
namespace Go.Proofs.Ytlomkebhopaliaa
open Go.RowKit Go.Proofs
set_option linter.unusedSimpArgs false
set_option linter.unusedVariables false
end Go.Proofs.Ytlomkebhopaliaa
namespace Go.Proofs.Ytlomkebhopaliaa
set_option linter.unusedSimpArgs false
set_option linter.unusedVariables false
abbrev Mx := Nat → Nat → Int
def updM (X : Mx) (i c : Nat) (v : Int) : Mx := fun q r => if q = i ∧ r = c then v else X q r
def rndC (g : Mx → Nat → Nat → Int) (X : Mx) (i : Nat) : Nat → Mx
  | 0 => X
  | c + 1 => updM (rndC g X i c) i c (g (rndC g X i c) i c)
def foldM (h : Mx → Nat → Mx) (X : Mx) : Nat → Mx
  | 0 => X
  | k + 1 => h (foldM h X k) k
theorem updM_ne {X : Mx} {i c q : Nat} {v : Int} (h : q ≠ i) : updM X i c v q = X q := funext fun r => by unfold updM; rw [if_neg fun e => h e.1]
theorem updM_eq {X : Mx} {i c : Nat} {v : Int} : updM X i c v i = fun r => if r = c then v else X i r := funext fun r => by unfold updM; simp
def gWy (m D : Mx) (j : Nat) : Mx → Nat → Nat → Int := fun Y i c => if Y i c < plusI (D i j) (m j c) then Y i c else plusI (D i j) (m j c)
def stJ (m D : Mx) (n i : Nat) (Y : Mx) (j : Nat) : Mx := foldM (fun Y j => rndC (gWy m D j) Y i n) Y j
def stI (m D : Mx) (n : Nat) (X : Mx) (i : Nat) : Mx := foldM (fun Y i => stJ m D n i Y n) X i
def stepM (m D : Mx) (n : Nat) : Mx := stI m D n D n
end Go.Proofs.Ytlomkebhopaliaa
