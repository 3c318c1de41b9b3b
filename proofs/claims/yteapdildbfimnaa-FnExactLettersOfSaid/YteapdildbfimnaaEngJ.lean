/- A region whose order is open: pure operations are taken first, the rest comes in the orders of a tree. No conditions. -/
import Derived.Test.YteapdildbfimnaaEngH
import Derived.Orders
namespace Go.Proofs.Yteapdildbfimnaa
set_option linter.unusedSimpArgs false
set_option linter.unusedVariables false
open Go.RowKit

/-- The orders in which what is left may come: at most two operations may come up at a time. -/
inductive Tr where
  | done
  | one (i : Nat) (t : Tr)
  | two (i : Nat) (t : Tr) (j : Nat) (u : Tr)

/-- The tree tells all orders. -/
def okTr (ops : Array Oper) : Nat → Array Bool → Tr → Bool
  | _, listed, .done => decide (Region.ready .any ops listed = [])
  | f + 1, listed, .one i t => decide (Region.ready .any ops listed = [i]) && okTr ops f (listed.setIfInBounds i true) t
  | f + 1, listed, .two i t j u => decide (Region.ready .any ops listed = [i, j]) && okTr ops f (listed.setIfInBounds i true) t && okTr ops f (listed.setIfInBounds j true) u
  | _, _, _ => false

/-- Operations that may be taken first, one after the other, then a tree. -/
def okTake (ops : Array Oper) (t : Tr) : Nat → Array Bool → List Nat → Bool
  | f, listed, [] => okTr ops f listed t
  | f + 1, listed, k :: ks => (match ops[k]? with | some o => noCall o && noLoad o | none => false) && (Region.ready .any ops listed).contains k && Region.free .any ops listed k && okTake ops t f (listed.setIfInBounds k true) ks
  | _, _, _ => false

def unguarded (ops : List Oper) : Bool := ops.all fun o => o.guard.isNone

/-- One operation, by its number. -/
def evAt (P : Program) (q : Bool) (ops : List Oper) (i : Nat) (K : ASt → Prop) (s : ASt) : Prop :=
  match ops[i]? with
  | some o => evOp P q o K s
  | none => False

def evTr (P : Program) (ops : List Oper) (K : ASt → Prop) : Tr → ASt → Prop
  | .done, s => K s
  | .one i t, s => evAt P false ops i (evTr P ops K t) s
  | .two i t j u, s => evAt P false ops i (evTr P ops K t) s ∧ evAt P false ops j (evTr P ops K u) s

def evTake (P : Program) (ops : List Oper) (K : ASt → Prop) : List Nat → ASt → Prop
  | [], s => K s
  | k :: ks, s => evAt P true ops k (evTake P ops K ks) s

section
variable {P : Program} {w0 : World} {S0 : Nat → Prop}

/-- The post-condition of a region that ends well. -/
def Ends (w0 : World) (S0 : Nat → Prop) (K : ASt → Prop) : Exit → Act → World → Prop := fun e a w => e = .normal ∧ ∃ s, K s ∧ Sim w0 S0 s a w

theorem unguarded_get {ops : List Oper} (h : unguarded ops = true) {i : Nat} {o : Oper} (hi : ops[i]? = some o) : o.guard = none := by
  have := List.all_eq_true.1 h o (List.mem_of_getElem? hi)
  simpa using this

theorem evAt_ok {ops : List Oper} (hu : unguarded ops = true) {i : Nat} {K : ASt → Prop} {s : ASt} {φ : List (Option (Nat × Nat))} {a : Act} {w : World} (sim : SimAt w0 S0 s φ a w) (h : evAt P false ops i K s)
    {next : Act → World → Prop} {Q : Exit → Act → World → Prop} (hn : ∀ s' a' w', K s' → Sim w0 S0 s' a' w' → next a' w') : wpOp P ops.toArray Q i next a w := by
  unfold evAt at h
  split at h
  · rename_i o ho
    unfold wpOp
    rw [show ops.toArray[i]? = some o by simpa using ho]
    simp only []
    rw [if_pos (by simp [Region.wanted, unguarded_get hu ho])]
    exact .inl (evOp_plain sim h hn)
  · exact h.elim

theorem evTr_ok {ops : List Oper} (hu : unguarded ops = true) {K : ASt → Prop} : ∀ (t : Tr) (f : Nat) (listed : Array Bool) (s : ASt) (φ : List (Option (Nat × Nat))) (a : Act) (w : World), okTr ops.toArray f listed t = true → SimAt w0 S0 s φ a w → evTr P ops K t s →
    wpAny P .any ops.toArray (Ends w0 S0 K) f listed a w
  | .done, f, listed, s, φ, a, w, hB, sim, h => by
    unfold okTr at hB
    exact wpAny_done (of_decide_eq_true hB) ⟨rfl, s, h, φ, sim⟩ f
  | .one i t, 0, listed, s, φ, a, w, hB, sim, h => by simp [okTr] at hB
  | .one i t, f + 1, listed, s, φ, a, w, hB, sim, h => by
    unfold okTr at hB
    simp only [Bool.and_eq_true, decide_eq_true_eq] at hB
    refine wpAny_all hB.1 (by simp) fun j hj => ?_
    obtain rfl : j = i := by simpa using hj
    exact evAt_ok hu sim h fun s' a' w' hK ⟨φ', sim'⟩ => evTr_ok hu t f _ s' φ' a' w' hB.2 sim' hK
  | .two i t j u, 0, listed, s, φ, a, w, hB, sim, h => by simp [okTr] at hB
  | .two i t j u, f + 1, listed, s, φ, a, w, hB, sim, h => by
    unfold okTr at hB
    simp only [Bool.and_eq_true, decide_eq_true_eq] at hB
    refine wpAny_all hB.1.1 (by simp) fun k hk => ?_
    rcases (by simpa using hk : k = i ∨ k = j) with rfl | rfl
    · exact evAt_ok hu sim h.1 fun s' a' w' hK ⟨φ', sim'⟩ => evTr_ok hu t f _ s' φ' a' w' hB.1.2 sim' hK
    · exact evAt_ok hu sim h.2 fun s' a' w' hK ⟨φ', sim'⟩ => evTr_ok hu u f _ s' φ' a' w' hB.2 sim' hK

/-- A pure operation yields its value whatever the world. -/
theorem evOp_pure {ops : Array Oper} {o : Oper} {K : ASt → Prop} {s : ASt} {φ : List (Option (Nat × Nat))} {a : Act} {w : World} (sim : SimAt w0 S0 s φ a w) (hg : o.guard = none) (hc : noCall o = true) (hl : noLoad o = true) (h : evOp P true o K s) :
    ∃ s' v, K s' ∧ SimAt w0 S0 s' φ (a.put o.dst v) w ∧ Go.Yields P ops o v a := by
  obtain ⟨dst, op, ty, pos, after, guard⟩ := o
  unfold evOp at h
  split at h
  · rename_i f args ts d hop hdst
    simp only at hop hdst
    subst hop hdst
    simp [noCall] at hc
  · rename_i t args ts d hop hdst
    simp only at hop hdst
    subst hop hdst
    simp [noCall] at hc
  · exact absurd h.1 (by simp)
  · exact absurd h.1 (by simp)
  · exact absurd h.1 (by simp)
  · exact absurd h.1 (by simp)
  · exact absurd h.1 (by simp)
  · exact absurd h.1 (by simp)
  · exact absurd h.1 (by simp)
  · rename_i d hdst _ _ _ _ _ _ _ _
    simp only at hdst
    subst hdst
    obtain ⟨r, v, hK, hr, hrun⟩ := evQ_ok (o := ⟨some d, op, ty, pos, after, guard⟩) h.2 sim
    exact ⟨_, v, hK, sim.put h.1 hr, .inl ⟨by simp only at hg; simp [Region.wanted, hg], fun w' => hrun w' (.inl hl)⟩⟩
  · exact h.elim

theorem evTake_ok {ops : List Oper} (hu : unguarded ops = true) (hs : Region.noSelect ops.toArray = true) {K : ASt → Prop} {t : Tr} : ∀ (ks : List Nat) (f : Nat) (listed : Array Bool) (s : ASt) (φ : List (Option (Nat × Nat))) (a : Act) (w : World),
    okTake ops.toArray t f listed ks = true → SimAt w0 S0 s φ a w → evTake P ops (evTr P ops K t) ks s → wpAny P .any ops.toArray (Ends w0 S0 K) f listed a w
  | [], f, listed, s, φ, a, w, hB, sim, h => evTr_ok hu t f listed s φ a w (by cases f <;> exact hB) sim h
  | k :: ks, 0, listed, s, φ, a, w, hB, sim, h => by simp [okTake] at hB
  | k :: ks, f + 1, listed, s, φ, a, w, hB, sim, h => by
    unfold okTake at hB
    simp only [Bool.and_eq_true] at hB
    obtain ⟨⟨⟨h1, hr⟩, hf⟩, hB⟩ := hB
    change evAt P true ops k (evTake P ops (evTr P ops K t) ks) s at h
    unfold evAt at h
    split at h
    · rename_i o ho
      have ho' : ops.toArray[k]? = some o := by simpa using ho
      rw [ho'] at h1
      simp only [Bool.and_eq_true] at h1
      obtain ⟨s', v, hK, sim', hy⟩ := evOp_pure (ops := ops.toArray) sim (unguarded_get hu ho) h1.1 h1.2 h
      exact wpAny_take ho' hs hf hr (fun c a w hq => by cases hq.1) hy (evTake_ok hu hs ks f _ s' φ _ w hB sim' hK)
    · exact h.elim

/-- A region whose order is open: ks are taken first, what is left comes in one of the orders of t. -/
theorem AWP.drawn_tree [Cx] {N : Nat} {id : Nat} {ops : List Oper} {Q : Exit → ASt → Prop} {s : ASt} (ks : List Nat) (t : Tr) (hm : P.follows .mixedOrders = true)
    (hB : (unguarded ops && Region.noSelect ops.toArray && okTake ops.toArray t ops.toArray.size (Array.replicate ops.toArray.size false) ks) = true)
    (h : evTake P ops (evTr P ops (Q .normal) t) ks s) : AWP N P (.region id ops.toArray true) Q s := by
  simp only [Bool.and_eq_true] at hB
  refine AWP.of0 ?_
  rintro w0 S0 a w hN ⟨φ, sim⟩
  have sim1 : SimAt w0 S0 s φ a { w with drawn := w.drawn + 1 } := sim.after ⟨rfl, rfl, rfl, Nat.le_refl _, fun _ _ => rfl⟩
  have := wp_region_any (P := P) (id := id) hm (evTake_ok hB.1.1 hB.1.2 ks _ _ s φ a _ hB.2 sim1 h)
  refine wp_mono this fun e a' w' ⟨he, s', hK, hsim⟩ => ?_
  subst he
  exact ⟨s', hK, hsim⟩

/-- One of them, what stands behind it out of sight. -/
theorem take_step {ops : List Oper} {K : ASt → Prop} {k : Nat} {ks : List Nat} {s : ASt} {o : Oper} (ho : ops[k]? = some o) (h : ∀ K' : ASt → Prop, (∀ s', evTake P ops K ks s' → K' s') → evOp P true o K' s) : evTake P ops K (k :: ks) s := by
  show evAt P true ops k (evTake P ops K ks) s
  unfold evAt; rw [ho]; exact h _ fun _ h => h
theorem take_nil {ops : List Oper} {K : ASt → Prop} {s : ASt} (h : K s) : evTake P ops K [] s := h
theorem tr_done {ops : List Oper} {K : ASt → Prop} {s : ASt} (h : K s) : evTr P ops K .done s := h
theorem tr_one {ops : List Oper} {K : ASt → Prop} {k : Nat} {t : Tr} {s : ASt} {o : Oper} (ho : ops[k]? = some o) (h : ∀ K' : ASt → Prop, (∀ s', evTr P ops K t s' → K' s') → evOp P false o K' s) : evTr P ops K (.one k t) s := by
  show evAt P false ops k (evTr P ops K t) s
  unfold evAt; rw [ho]; exact h _ fun _ h => h
/-- One operation, what stands behind it to be put out of sight. -/
def TrOpen (P : Program) (ops : List Oper) (K : ASt → Prop) (t : Tr) (o : Oper) (s : ASt) : Prop := ∀ K' : ASt → Prop, (∀ s', evTr P ops K t s' → K' s') → evOp P false o K' s
theorem tr_open {ops : List Oper} {K : ASt → Prop} {t : Tr} {o : Oper} {s : ASt} (h : ∀ K' : ASt → Prop, (∀ s', evTr P ops K t s' → K' s') → evOp P false o K' s) : TrOpen P ops K t o s := h
theorem tr_two {ops : List Oper} {K : ASt → Prop} {i j : Nat} {t u : Tr} {s : ASt} {o o' : Oper} (ho : ops[i]? = some o) (ho' : ops[j]? = some o') (h : TrOpen P ops K t o s) (h' : TrOpen P ops K u o' s) : evTr P ops K (.two i t j u) s := by
  refine ⟨?_, ?_⟩
  · unfold evAt; rw [ho]; exact h _ fun _ h => h
  · unfold evAt; rw [ho']; exact h' _ fun _ h => h

end

set_option linter.unusedSimpArgs false
set_option linter.unusedVariables false
open Go.RowKit

/-- Orders: an operation is taken; one alone may come up; one may come up, or another (told by u). -/
inductive Nd where
  | done
  | take (i : Nat) (t : Nd)
  | one (i : Nat) (t : Nd)
  | alt (i : Nat) (t u : Nd)

/-- What may come up. -/
def Nd.heads : Nd → List Nat
  | .one i _ => [i]
  | .alt i _ u => i :: u.heads
  | _ => []

/-- The tree tells all orders. b: what may come up has been looked at. -/
def okNd (ops : Array Oper) : Bool → Nat → Array Bool → Nd → Bool
  | _, _, listed, .done => decide (Region.ready .any ops listed = [])
  | false, f + 1, listed, .take i t => (match ops[i]? with | some o => noCall o && noLoad o | none => false) && (Region.ready .any ops listed).contains i && Region.free .any ops listed i && okNd ops false f (listed.setIfInBounds i true) t
  | b, f + 1, listed, .one i t => (b || decide (Region.ready .any ops listed = [i])) && okNd ops false f (listed.setIfInBounds i true) t
  | b, f + 1, listed, .alt i t u => (b || decide (Region.ready .any ops listed = i :: u.heads)) && okNd ops false f (listed.setIfInBounds i true) t && okNd ops true (f + 1) listed u
  | _, _, _, _ => false

def evNd (P : Program) (ops : List Oper) (K : ASt → Prop) : Nd → ASt → Prop
  | .done, s => K s
  | .take i t, s => evAt P true ops i (evNd P ops K t) s
  | .one i t, s => evAt P false ops i (evNd P ops K t) s
  | .alt i t u, s => evAt P false ops i (evNd P ops K t) s ∧ evNd P ops K u s

section
variable {P : Program} {w0 : World} {S0 : Nat → Prop}

theorem evNd_ok {ops : List Oper} (hu : unguarded ops = true) (hs : Region.noSelect ops.toArray = true) {K : ASt → Prop} : ∀ (t : Nd) (b : Bool) (f : Nat) (listed : Array Bool) (s : ASt) (φ : List (Option (Nat × Nat))) (a : Act) (w : World),
    okNd ops.toArray b f listed t = true → SimAt w0 S0 s φ a w → evNd P ops K t s →
    (b = false → wpAny P .any ops.toArray (Ends w0 S0 K) f listed a w) ∧
    (b = true → ∀ g, f = g + 1 → ∀ j ∈ t.heads, wpOp P ops.toArray (Ends w0 S0 K) j (fun a' w' => wpAny P .any ops.toArray (Ends w0 S0 K) g (listed.setIfInBounds j true) a' w') a w)
  | .done, b, f, listed, s, φ, a, w, hB, sim, h => by
    refine ⟨fun _ => ?_, fun _ g _ j hj => by simp [Nd.heads] at hj⟩
    have hr : Region.ready .any ops.toArray listed = [] := by
      cases b <;> cases f <;> exact of_decide_eq_true hB
    exact wpAny_done hr ⟨rfl, s, h, φ, sim⟩ f
  | .take i t, true, f, listed, s, φ, a, w, hB, sim, h => by cases f <;> simp [okNd] at hB
  | .take i t, false, 0, listed, s, φ, a, w, hB, sim, h => by simp [okNd] at hB
  | .take i t, false, f + 1, listed, s, φ, a, w, hB, sim, h => by
    refine ⟨fun _ => ?_, fun hb => by cases hb⟩
    simp only [okNd, Bool.and_eq_true] at hB
    obtain ⟨⟨⟨h1, hr⟩, hf⟩, hB⟩ := hB
    change evAt P true ops i (evNd P ops K t) s at h
    unfold evAt at h
    split at h
    · rename_i o ho
      have ho' : ops.toArray[i]? = some o := by simpa using ho
      rw [ho'] at h1
      simp only [Bool.and_eq_true] at h1
      obtain ⟨s', v, hK, sim', hy⟩ := evOp_pure (ops := ops.toArray) sim (unguarded_get hu ho) h1.1 h1.2 h
      exact wpAny_take ho' hs hf hr (fun c a w hq => by cases hq.1) hy ((evNd_ok hu hs t false f _ s' φ _ w hB sim' hK).1 rfl)
    · exact h.elim
  | .one i t, b, 0, listed, s, φ, a, w, hB, sim, h => by cases b <;> simp [okNd] at hB
  | .one i t, b, f + 1, listed, s, φ, a, w, hB, sim, h => by
    have hB' : (b || decide (Region.ready .any ops.toArray listed = [i])) = true ∧ okNd ops.toArray false f (listed.setIfInBounds i true) t = true := by
      cases b <;> simpa [okNd] using hB
    have hop : wpOp P ops.toArray (Ends w0 S0 K) i (fun a' w' => wpAny P .any ops.toArray (Ends w0 S0 K) f (listed.setIfInBounds i true) a' w') a w :=
      evAt_ok hu sim h fun s' a' w' hK ⟨φ', sim'⟩ => (evNd_ok hu hs t false f _ s' φ' a' w' hB'.2 sim' hK).1 rfl
    refine ⟨fun hb => ?_, fun _ g hg j hj => ?_⟩
    · subst hb
      have hr : Region.ready .any ops.toArray listed = [i] := by simpa using hB'.1
      refine wpAny_all hr (by simp) fun j hj => ?_
      obtain rfl : j = i := by simpa using hj
      exact hop
    · obtain rfl : f = g := by omega
      obtain rfl : j = i := by simpa [Nd.heads] using hj
      exact hop
  | .alt i t u, b, 0, listed, s, φ, a, w, hB, sim, h => by cases b <;> simp [okNd] at hB
  | .alt i t u, b, f + 1, listed, s, φ, a, w, hB, sim, h => by
    have hB' : ((b || decide (Region.ready .any ops.toArray listed = i :: u.heads)) = true ∧ okNd ops.toArray false f (listed.setIfInBounds i true) t = true) ∧ okNd ops.toArray true (f + 1) listed u = true := by
      cases b <;> simpa [okNd] using hB
    have hop : wpOp P ops.toArray (Ends w0 S0 K) i (fun a' w' => wpAny P .any ops.toArray (Ends w0 S0 K) f (listed.setIfInBounds i true) a' w') a w :=
      evAt_ok hu sim h.1 fun s' a' w' hK ⟨φ', sim'⟩ => (evNd_ok hu hs t false f _ s' φ' a' w' hB'.1.2 sim' hK).1 rfl
    have hoth := (evNd_ok hu hs u true (f + 1) listed s φ a w hB'.2 sim h.2).2 rfl f rfl
    refine ⟨fun hb => ?_, fun _ g hg j hj => ?_⟩
    · subst hb
      have hr : Region.ready .any ops.toArray listed = i :: u.heads := by simpa using hB'.1.1
      refine wpAny_all hr (by simp) fun j hj => ?_
      rcases List.mem_cons.1 hj with rfl | hj
      · exact hop
      · exact hoth j hj
    · obtain rfl : f = g := by omega
      rcases List.mem_cons.1 (show j ∈ i :: u.heads from hj) with rfl | hj
      · exact hop
      · exact hoth j hj

/-- A region whose order is open: the tree tells all its orders. -/
theorem AWP.drawn_nd [Cx] {N : Nat} {id : Nat} {ops : List Oper} {Q : Exit → ASt → Prop} {s : ASt} (t : Nd) (hm : P.follows .mixedOrders = true)
    (hB : (unguarded ops && Region.noSelect ops.toArray && okNd ops.toArray false ops.toArray.size (Array.replicate ops.toArray.size false) t) = true)
    (h : evNd P ops (Q .normal) t s) : AWP N P (.region id ops.toArray true) Q s := by
  simp only [Bool.and_eq_true] at hB
  refine AWP.of0 ?_
  rintro w0 S0 a w hN ⟨φ, sim⟩
  have sim1 : SimAt w0 S0 s φ a { w with drawn := w.drawn + 1 } := sim.after ⟨rfl, rfl, rfl, Nat.le_refl _, fun _ _ => rfl⟩
  have := wp_region_any (P := P) (id := id) hm ((evNd_ok hB.1.1 hB.1.2 t false _ _ s φ a _ hB.2 sim1 h).1 rfl)
  refine wp_mono this fun e a' w' ⟨he, s', hK, hsim⟩ => ?_
  subst he
  exact ⟨s', hK, hsim⟩

theorem nd_done {ops : List Oper} {K : ASt → Prop} {s : ASt} (h : K s) : evNd P ops K .done s := h
theorem nd_take {ops : List Oper} {K : ASt → Prop} {k : Nat} {t : Nd} {s : ASt} {o : Oper} (ho : ops[k]? = some o) (h : ∀ K' : ASt → Prop, (∀ s', evNd P ops K t s' → K' s') → evOp P true o K' s) : evNd P ops K (.take k t) s := by
  show evAt P true ops k _ s
  unfold evAt; rw [ho]; exact h _ fun _ h => h
theorem nd_one {ops : List Oper} {K : ASt → Prop} {k : Nat} {t : Nd} {s : ASt} {o : Oper} (ho : ops[k]? = some o) (h : ∀ K' : ASt → Prop, (∀ s', evNd P ops K t s' → K' s') → evOp P false o K' s) : evNd P ops K (.one k t) s := by
  show evAt P false ops k _ s
  unfold evAt; rw [ho]; exact h _ fun _ h => h
def NdOpen (P : Program) (ops : List Oper) (K : ASt → Prop) (t : Nd) (o : Oper) (s : ASt) : Prop := ∀ K' : ASt → Prop, (∀ s', evNd P ops K t s' → K' s') → evOp P false o K' s
theorem nd_open {ops : List Oper} {K : ASt → Prop} {t : Nd} {o : Oper} {s : ASt} (h : ∀ K' : ASt → Prop, (∀ s', evNd P ops K t s' → K' s') → evOp P false o K' s) : NdOpen P ops K t o s := h
theorem nd_alt {ops : List Oper} {K : ASt → Prop} {k : Nat} {t u : Nd} {s : ASt} {o : Oper} (ho : ops[k]? = some o) (h : NdOpen P ops K t o s) (h' : evNd P ops K u s) : evNd P ops K (.alt k t u) s := by
  refine ⟨?_, h'⟩
  unfold evAt; rw [ho]; exact h _ fun _ h => h

end

end Go.Proofs.Yteapdildbfimnaa
