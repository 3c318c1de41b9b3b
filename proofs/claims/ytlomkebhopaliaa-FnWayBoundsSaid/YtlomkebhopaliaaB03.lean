/- Parts of the proof of LawFnWayBounds: contracts of functions, laws of an abstract state, plain facts. No conditions. -/
import Derived.Test.YtlomkebhopaliaaB02
import Derived.Orders
import Derived.Test.YtlomkebhopaliaaChecked
namespace Go.Proofs.Ytlomkebhopaliaa
set_option linter.unusedSimpArgs false
set_option linter.unusedVariables false
open Go.RowKit
inductive Tr where
  | done
  | one (i : Nat) (t : Tr)
  | two (i : Nat) (t : Tr) (j : Nat) (u : Tr)
def okTr (ops : Array Oper) : Nat → Array Bool → Tr → Bool
  | _, listed, .done => decide (Region.ready .any ops listed = [])
  | f + 1, listed, .one i t => decide (Region.ready .any ops listed = [i]) && okTr ops f (listed.setIfInBounds i true) t
  | f + 1, listed, .two i t j u => decide (Region.ready .any ops listed = [i, j]) && okTr ops f (listed.setIfInBounds i true) t && okTr ops f (listed.setIfInBounds j true) u
  | _, _, _ => false
def okTake (ops : Array Oper) (t : Tr) : Nat → Array Bool → List Nat → Bool
  | f, listed, [] => okTr ops f listed t
  | f + 1, listed, k :: ks => (match ops[k]? with | some o => noCall o && noLoad o | none => false) && (Region.ready .any ops listed).contains k && Region.free .any ops listed k && okTake ops t f (listed.setIfInBounds k true) ks
  | _, _, _ => false
def unguarded (ops : List Oper) : Bool := ops.all fun o => o.guard.isNone
def evAt (P : Program) (q : Bool) (ops : List Oper) (i : Nat) (K : ASt → Prop) (s : ASt) : Prop :=
  match ops[i]? with
  | some o => evOp P q o K s
  | none => False
def evTr (P : Program) (ops : List Oper) (K : ASt → Prop) : Tr → ASt → Prop
  | .done, s => K s
  | .one i t, s => evAt P false ops i (evTr P ops K t) s
  | .two i t j u, s => evAt P false ops i (evTr P ops K t) s ∧ evAt P false ops j (evTr P ops K u) s
def evTake (P : Program) (ops : List Oper) (K : ASt → Prop) : List Nat → ASt → Prop
  | [], s => K s
  | k :: ks, s => evAt P true ops k (evTake P ops K ks) s
section
variable {P : Program} {w0 : World} {S0 : Nat → Prop}
def Ends (w0 : World) (S0 : Nat → Prop) (K : ASt → Prop) : Exit → Act → World → Prop := fun e a w => e = .normal ∧ ∃ s, K s ∧ Sim w0 S0 s a w
theorem unguarded_get {ops : List Oper} (h : unguarded ops = true) {i : Nat} {o : Oper} (hi : ops[i]? = some o) : o.guard = none := by
  have := List.all_eq_true.1 h o (List.mem_of_getElem? hi)
  simpa using this
theorem evAt_ok {ops : List Oper} (hu : unguarded ops = true) {i : Nat} {K : ASt → Prop} {s : ASt} {φ : List (Option (Nat × Nat))} {a : Act} {w : World} (sim : SimAt w0 S0 s φ a w) (h : evAt P false ops i K s)
    {next : Act → World → Prop} {Q : Exit → Act → World → Prop} (hn : ∀ s' a' w', K s' → Sim w0 S0 s' a' w' → next a' w') : wpOp P ops.toArray Q i next a w := by
  unfold evAt at h
  split at h
  · rename_i o ho
    unfold wpOp
    rw [show ops.toArray[i]? = some o by simpa using ho]
    simp only []
    rw [if_pos (by simp [Region.wanted, unguarded_get hu ho])]
    exact .inl (evOp_plain sim h hn)
  · exact h.elim
theorem evTr_ok {ops : List Oper} (hu : unguarded ops = true) {K : ASt → Prop} : ∀ (t : Tr) (f : Nat) (listed : Array Bool) (s : ASt) (φ : List (Option (Nat × Nat))) (a : Act) (w : World), okTr ops.toArray f listed t = true → SimAt w0 S0 s φ a w → evTr P ops K t s →
    wpAny P .any ops.toArray (Ends w0 S0 K) f listed a w
  | .done, f, listed, s, φ, a, w, hB, sim, h => by
    unfold okTr at hB
    exact wpAny_done (of_decide_eq_true hB) ⟨rfl, s, h, φ, sim⟩ f
  | .one i t, 0, listed, s, φ, a, w, hB, sim, h => by simp [okTr] at hB
  | .one i t, f + 1, listed, s, φ, a, w, hB, sim, h => by
    unfold okTr at hB
    simp only [Bool.and_eq_true, decide_eq_true_eq] at hB
    refine wpAny_all hB.1 (by simp) fun j hj => ?_
    obtain rfl : j = i := by simpa using hj
    exact evAt_ok hu sim h fun s' a' w' hK ⟨φ', sim'⟩ => evTr_ok hu t f _ s' φ' a' w' hB.2 sim' hK
  | .two i t j u, 0, listed, s, φ, a, w, hB, sim, h => by simp [okTr] at hB
  | .two i t j u, f + 1, listed, s, φ, a, w, hB, sim, h => by
    unfold okTr at hB
    simp only [Bool.and_eq_true, decide_eq_true_eq] at hB
    refine wpAny_all hB.1.1 (by simp) fun k hk => ?_
    rcases (by simpa using hk : k = i ∨ k = j) with rfl | rfl
    · exact evAt_ok hu sim h.1 fun s' a' w' hK ⟨φ', sim'⟩ => evTr_ok hu t f _ s' φ' a' w' hB.1.2 sim' hK
    · exact evAt_ok hu sim h.2 fun s' a' w' hK ⟨φ', sim'⟩ => evTr_ok hu u f _ s' φ' a' w' hB.2 sim' hK
theorem evOp_pure {ops : Array Oper} {o : Oper} {K : ASt → Prop} {s : ASt} {φ : List (Option (Nat × Nat))} {a : Act} {w : World} (sim : SimAt w0 S0 s φ a w) (hg : o.guard = none) (hc : noCall o = true) (hl : noLoad o = true) (h : evOp P true o K s) :
    ∃ s' v, K s' ∧ SimAt w0 S0 s' φ (a.put o.dst v) w ∧ Go.Yields P ops o v a := by
  obtain ⟨dst, op, ty, pos, after, guard⟩ := o
  unfold evOp at h
  split at h
  · rename_i f args ts d hop hdst
    simp only at hop hdst
    subst hop hdst
    simp [noCall] at hc
  · rename_i t args ts d hop hdst
    simp only at hop hdst
    subst hop hdst
    simp [noCall] at hc
  · exact absurd h.1 (by simp)
  · exact absurd h.1 (by simp)
  · exact absurd h.1 (by simp)
  · exact absurd h.1 (by simp)
  · exact absurd h.1 (by simp)
  · exact absurd h.1 (by simp)
  · exact absurd h.1 (by simp)
  · rename_i d hdst _ _ _ _ _ _ _ _
    simp only at hdst
    subst hdst
    obtain ⟨r, v, hK, hr, hrun⟩ := evQ_ok (o := ⟨some d, op, ty, pos, after, guard⟩) h.2 sim
    exact ⟨_, v, hK, sim.put h.1 hr, .inl ⟨by simp only at hg; simp [Region.wanted, hg], fun w' => hrun w' (.inl hl)⟩⟩
  · exact h.elim
theorem evTake_ok {ops : List Oper} (hu : unguarded ops = true) (hs : Region.noSelect ops.toArray = true) {K : ASt → Prop} {t : Tr} : ∀ (ks : List Nat) (f : Nat) (listed : Array Bool) (s : ASt) (φ : List (Option (Nat × Nat))) (a : Act) (w : World),
    okTake ops.toArray t f listed ks = true → SimAt w0 S0 s φ a w → evTake P ops (evTr P ops K t) ks s → wpAny P .any ops.toArray (Ends w0 S0 K) f listed a w
  | [], f, listed, s, φ, a, w, hB, sim, h => evTr_ok hu t f listed s φ a w (by cases f <;> exact hB) sim h
  | k :: ks, 0, listed, s, φ, a, w, hB, sim, h => by simp [okTake] at hB
  | k :: ks, f + 1, listed, s, φ, a, w, hB, sim, h => by
    unfold okTake at hB
    simp only [Bool.and_eq_true] at hB
    obtain ⟨⟨⟨h1, hr⟩, hf⟩, hB⟩ := hB
    change evAt P true ops k (evTake P ops (evTr P ops K t) ks) s at h
    unfold evAt at h
    split at h
    · rename_i o ho
      have ho' : ops.toArray[k]? = some o := by simpa using ho
      rw [ho'] at h1
      simp only [Bool.and_eq_true] at h1
      obtain ⟨s', v, hK, sim', hy⟩ := evOp_pure (ops := ops.toArray) sim (unguarded_get hu ho) h1.1 h1.2 h
      exact wpAny_take ho' hs hf hr (fun c a w hq => by cases hq.1) hy (evTake_ok hu hs ks f _ s' φ _ w hB sim' hK)
    · exact h.elim
theorem AWP.drawn_tree [Cx] {N : Nat} {id : Nat} {ops : List Oper} {Q : Exit → ASt → Prop} {s : ASt} (ks : List Nat) (t : Tr) (hm : P.follows .mixedOrders = true)
    (hB : (unguarded ops && Region.noSelect ops.toArray && okTake ops.toArray t ops.toArray.size (Array.replicate ops.toArray.size false) ks) = true)
    (h : evTake P ops (evTr P ops (Q .normal) t) ks s) : AWP N P (.region id ops.toArray true) Q s := by
  simp only [Bool.and_eq_true] at hB
  refine AWP.of0 ?_
  rintro w0 S0 a w hN ⟨φ, sim⟩
  have sim1 : SimAt w0 S0 s φ a { w with drawn := w.drawn + 1 } := sim.after ⟨rfl, rfl, rfl, Nat.le_refl _, fun _ _ => rfl⟩
  have := wp_region_any (P := P) (id := id) hm (evTake_ok hB.1.1 hB.1.2 ks _ _ s φ a _ hB.2 sim1 h)
  refine wp_mono this fun e a' w' ⟨he, s', hK, hsim⟩ => ?_
  subst he
  exact ⟨s', hK, hsim⟩
theorem take_step {ops : List Oper} {K : ASt → Prop} {k : Nat} {ks : List Nat} {s : ASt} {o : Oper} (ho : ops[k]? = some o) (h : ∀ K' : ASt → Prop, (∀ s', evTake P ops K ks s' → K' s') → evOp P true o K' s) : evTake P ops K (k :: ks) s := by
  show evAt P true ops k (evTake P ops K ks) s
  unfold evAt; rw [ho]; exact h _ fun _ h => h
theorem take_nil {ops : List Oper} {K : ASt → Prop} {s : ASt} (h : K s) : evTake P ops K [] s := h
theorem tr_done {ops : List Oper} {K : ASt → Prop} {s : ASt} (h : K s) : evTr P ops K .done s := h
theorem tr_one {ops : List Oper} {K : ASt → Prop} {k : Nat} {t : Tr} {s : ASt} {o : Oper} (ho : ops[k]? = some o) (h : ∀ K' : ASt → Prop, (∀ s', evTr P ops K t s' → K' s') → evOp P false o K' s) : evTr P ops K (.one k t) s := by
  show evAt P false ops k (evTr P ops K t) s
  unfold evAt; rw [ho]; exact h _ fun _ h => h
def TrOpen (P : Program) (ops : List Oper) (K : ASt → Prop) (t : Tr) (o : Oper) (s : ASt) : Prop := ∀ K' : ASt → Prop, (∀ s', evTr P ops K t s' → K' s') → evOp P false o K' s
theorem tr_open {ops : List Oper} {K : ASt → Prop} {t : Tr} {o : Oper} {s : ASt} (h : ∀ K' : ASt → Prop, (∀ s', evTr P ops K t s' → K' s') → evOp P false o K' s) : TrOpen P ops K t o s := h
theorem tr_two {ops : List Oper} {K : ASt → Prop} {i j : Nat} {t u : Tr} {s : ASt} {o o' : Oper} (ho : ops[i]? = some o) (ho' : ops[j]? = some o') (h : TrOpen P ops K t o s) (h' : TrOpen P ops K u o' s) : evTr P ops K (.two i t j u) s := by
  refine ⟨?_, ?_⟩
  · unfold evAt; rw [ho]; exact h _ fun _ h => h
  · unfold evAt; rw [ho']; exact h' _ fun _ h => h
end
set_option linter.unusedSimpArgs false
set_option linter.unusedVariables false
open Go.RowKit
inductive Nd where
  | done
  | take (i : Nat) (t : Nd)
  | one (i : Nat) (t : Nd)
  | alt (i : Nat) (t u : Nd)
def Nd.heads : Nd → List Nat
  | .one i _ => [i]
  | .alt i _ u => i :: u.heads
  | _ => []
section
variable {P : Program} {w0 : World} {S0 : Nat → Prop}
end
end Go.Proofs.Ytlomkebhopaliaa
namespace Go.Proofs.Ytlomkebhopaliaa
set_option linter.unusedSimpArgs false
set_option linter.unusedVariables false
open Go.RowKit
end Go.Proofs.Ytlomkebhopaliaa
namespace Go.Proofs.Ytlomkebhopaliaa
set_option linter.unusedSimpArgs false
set_option linter.unusedVariables false
open Go.RowKit
def Disj (Z Z' : Nat → Prop) : Prop := ∀ b, Z b → ¬ Z' b
theorem Disj.symm {Z Z' : Nat → Prop} (h : Disj Z Z') : Disj Z' Z := fun b h1 h2 => h b h2 h1
inductive ZIn (Z : Nat → Prop) : V → Prop where
  | old (v : V) : ZIn Z (.old Z v)
  | row (u : Value) (sz n : Nat) (f : Nat → V) : ZIn Z (.row u Z sz n f)
  | inRow (u : Value) (Z' : Nat → Prop) (sz n : Nat) (f : Nat → V) (i : Nat) (hi : i < n * sz) (h : ZIn Z (f i)) : ZIn Z (.row u Z' sz n f)
  | grow (u : Value) (e : TypeId) (sz n : Nat) (f : Nat → V) : ZIn Z (.grow u Z e sz n f)
  | inGrow (u : Value) (Z' : Nat → Prop) (e : TypeId) (sz n : Nat) (f : Nat → V) (i : Nat) (hi : i < n * sz) (h : ZIn Z (f i)) : ZIn Z (.grow u Z' e sz n f)
  | inAgg (n : Nat) (f : Nat → V) (i : Nat) (hi : i < n) (h : ZIn Z (f i)) : ZIn Z (.agg n f)
  | cur (b k : Nat) (Z' : Nat → Prop) (c : V) (hZ : ∀ j, Z j → j = b ∨ Z' j) : ZIn Z (.cur b k Z' c)
theorem Wr.lt {w : World} {b : Nat} (h : Wr w b) : b < w.heap.size := by
  obtain ⟨cur, e, h⟩ := h; exact h.lt
theorem ZIn.there {w : World} {S : Nat → Prop} {Z : Nat → Prop} {v : V} (h : ZIn Z v) : ∀ {u : Value}, Rd w S v u → ∀ b, Z b → S b ∧ b < w.heap.size := by
  induction h with
  | old v => intro u hr b hb; exact hr.1 b hb
  | row u sz n f => intro u hr b hb; have := hr.2.1 b hb; exact ⟨this.1, this.2.lt⟩
  | inRow u Z' sz n f i hi h ih =>
    intro u' hr b hb
    obtain ⟨_, _, A, c, _, _, hr⟩ := hr
    obtain ⟨b', off, _, _, hr⟩ := hr (by omega)
    obtain ⟨x, _, hr⟩ := hr i hi
    exact ih hr b hb
  | grow u e sz n f => intro u hr b hb; have := hr.2.1 b hb; exact ⟨this.1, this.2.lt⟩
  | inGrow u Z' e sz n f i hi h ih =>
    intro u' hr b hb
    obtain ⟨_, _, ⟨_, hn⟩ | ⟨b', c, cur, _, _, _, _, _, _, hr⟩⟩ := hr
    · rw [hn] at hi; omega
    · obtain ⟨x, _, hr⟩ := hr i hi
      exact ih hr b hb
  | inAgg n f i hi h ih =>
    intro u' hr b hb
    obtain ⟨cs, _, _, hr⟩ := hr
    obtain ⟨x, _, hr⟩ := hr i hi
    exact ih hr b hb
  | cur b0 k Z' c hZ =>
    intro u hr b hb
    obtain ⟨_, h1, h2, cur, cv, p, q, e, h3, _⟩ := hr
    rcases hZ b hb with rfl | h
    · exact ⟨h1, block_lt h3⟩
    · exact ⟨(h2 b h).1, (h2 b h).2.1⟩
def ZSt (Z : Nat → Prop) (s : ASt) : Prop := (∃ t v, lookup s.σ t = some (.one (.pv v)) ∧ ZIn Z v) ∨ ∃ (id : Nat) (blk : Blk) (i : Nat), s.h[id]? = some (some blk) ∧ i < blk.n ∧ ZIn Z (blk.f i)
theorem ZSt.there {w0 : World} {S0 : Nat → Prop} {s : ASt} {φ : List (Option (Nat × Nat))} {a : Act} {w : World} {Z : Nat → Prop} (h : ZSt Z s) (sim : SimAt w0 S0 s φ a w) : ∀ b, Z b → Stab w0 S0 s.h φ b ∧ b < w.heap.size := by
  rcases h with ⟨t, v, h1, h2⟩ | ⟨id, blk, i, h1, h2, h3⟩
  · obtain ⟨u, _, hr⟩ := sim.slots t _ h1
    exact h2.there hr
  · rcases sim.heap.blk id blk h1 with ⟨_, h4⟩ | ⟨b, cur, _, _, _, _, h5⟩
    · omega
    · obtain ⟨x, _, hr⟩ := h5 i h2
      exact h3.there hr
def NewV (p : (Nat → Prop) → Prop) : V → Prop
  | .val _ => True
  | .row _ Z sz n f => p Z ∧ ∀ i, i < n * sz → NewV p (f i)
  | .grow _ Z _ sz n f => p Z ∧ ∀ i, i < n * sz → NewV p (f i)
  | .agg n f => ∀ i, i < n → NewV p (f i)
  | .old Z _ => p Z
  | _ => False
def NewL (p : (Nat → Prop) → Prop) : List RV → Prop
  | [] => True
  | .pv v :: r => NewV p v ∧ NewL p r
  | .fr _ _ b :: r => (∀ i, i < b.n → NewV p (b.f i)) ∧ NewL p r
theorem NewV.mono {p q : (Nat → Prop) → Prop} (h : ∀ Z, p Z → q Z) : ∀ v : V, NewV p v → NewV q v
  | .val _, _ => trivial
  | .row _ Z sz n f, hv => ⟨h _ hv.1, fun i hi => NewV.mono h (f i) (hv.2 i hi)⟩
  | .grow _ Z _ sz n f, hv => ⟨h _ hv.1, fun i hi => NewV.mono h (f i) (hv.2 i hi)⟩
  | .agg n f, hv => fun i hi => NewV.mono h (f i) (hv i hi)
  | .seq _ _ _, hv => hv.elim
  | .pin _ _, hv => hv.elim
  | .clo _ _ _, hv => hv.elim
  | .old Z _, hv => h Z hv
  | .cur _ _ _ _, hv => hv.elim
theorem NewL.mono {p q : (Nat → Prop) → Prop} (h : ∀ Z, p Z → q Z) : ∀ rs : List RV, NewL p rs → NewL q rs
  | [], _ => trivial
  | .pv v :: r, hv => ⟨NewV.mono h v hv.1, NewL.mono h r hv.2⟩
  | .fr _ _ b :: r, hv => ⟨fun i hi => NewV.mono h _ (hv.1 i hi), NewL.mono h r hv.2⟩
theorem NewV.rd {w : World} {S S' : Nat → Prop} {p : (Nat → Prop) → Prop} (hS : ∀ Z, p Z → (∀ b, Z b → S b) → ∀ b, Z b → S' b) : ∀ (v : V) (u : Value), NewV p v → Rd w S v u → Rd w S' v u
  | .val _, _, _, h => h
  | .row u0 Z sz n f, u, hv, h => by
    obtain ⟨e, hz, A, c, hu, hc, h⟩ := h
    refine ⟨e, fun b hb => ⟨hS Z hv.1 (fun b hb => (hz b hb).1) b hb, (hz b hb).2⟩, A, c, hu, hc, fun hp => ?_⟩
    obtain ⟨b, off, hA, hZ, h⟩ := h hp
    refine ⟨b, off, hA, hZ, fun i hi => ?_⟩
    obtain ⟨x, hx, hr⟩ := h i hi
    exact ⟨x, hx, NewV.rd hS (f i) x (hv.2 i hi) hr⟩
  | .grow u0 Z e sz n f, u, hv, h => by
    obtain ⟨hu, hz, h⟩ := h
    refine ⟨hu, fun b hb => ⟨hS Z hv.1 (fun b hb => (hz b hb).1) b hb, (hz b hb).2⟩, ?_⟩
    rcases h with h | ⟨b, c, cur, h1, h2, h3, h4, h5, h6, h7⟩
    · exact .inl h
    · refine .inr ⟨b, c, cur, h1, h2, h3, h4, h5, h6, fun i hi => ?_⟩
      obtain ⟨x, hx, hr⟩ := h7 i hi
      exact ⟨x, hx, NewV.rd hS (f i) x (hv.2 i hi) hr⟩
  | .agg n f, u, hv, h => by
    obtain ⟨cs, hu, hn, h⟩ := h
    refine ⟨cs, hu, hn, fun i hi => ?_⟩
    obtain ⟨x, hx, hr⟩ := h i hi
    exact ⟨x, hx, NewV.rd hS (f i) x (hv i hi) hr⟩
  | .seq _ _ _, _, hv, _ => hv.elim
  | .pin _ _, _, hv, _ => hv.elim
  | .clo _ _ _, _, hv, _ => hv.elim
  | .old Z _, _, hv, h => ⟨fun b hb => ⟨hS Z hv (fun b hb => (h.1 b hb).1) b hb, (h.1 b hb).2⟩, h.2⟩
  | .cur _ _ _ _, _, hv, _ => hv.elim
structure FnE (P : Program) (f : FuncId) (vs : List V) (R : Res → Prop) : Prop where
  entry : ∀ (args : Array Value) (w : World), (callFunc f args).run P w = .ok (.enter f args) w
  runs : ∀ (w : World) (us : List Value), RdL w (fun _ => True) vs us → Calls P f us.toArray w fun e w' =>
    ∃ r u φ, R r ∧ NewL (fun Z => ∀ b, Z b → w.heap.size ≤ b) r.list ∧ e = .returned u ∧ Heap w (fun _ => True) (bring r.list []).2 φ w' ∧ RdSlot w' (Stab w (fun _ => True) (bring r.list []).2 φ) φ (r.slot (bring r.list []).1) u
section
variable {P : Program} {w0 : World} {S0 : Nat → Prop} {s : ASt} {φ : List (Option (Nat × Nat))} {a : Act} {w : World}
theorem new_blk {p : (Nat → Prop) → Prop} {rs : List RV} (h : NewL p rs) : ∀ (g : List (Option Blk)) (id : Nat) (blk : Blk), (bring rs g).2[id]? = some (some blk) → (∀ (id : Nat) (blk : Blk), g[id]? = some (some blk) → ∀ i, i < blk.n → NewV p (blk.f i)) →
    ∀ i, i < blk.n → NewV p (blk.f i) := by
  induction rs with
  | nil => intro g id blk hi hg; exact hg id blk hi
  | cons r rs ih =>
    intro g id blk hi hg
    cases r with
    | pv v => exact ih h.2 g id blk hi hg
    | fr sz len b =>
      refine ih h.2 (g ++ [some b]) id blk hi fun id' blk' hi' => ?_
      rcases Nat.lt_or_ge id' g.length with hlt | hge
      · rw [List.getElem?_append_left hlt] at hi'; exact hg _ _ hi'
      · rw [List.getElem?_append_right hge] at hi'
        have : id' - g.length = 0 := by
          rcases Nat.eq_zero_or_pos (id' - g.length) with h0 | h0
          · exact h0
          · rw [List.getElem?_eq_none (by simp; omega)] at hi'; cases hi'
        rw [this] at hi'
        simp at hi'
        subst hi'
        exact h.1
theorem new_slots {p : (Nat → Prop) → Prop} {S S' : Nat → Prop} {w' : World} {ψ : List (Option (Nat × Nat))} (hS : ∀ Z, p Z → (∀ b, Z b → S b) → ∀ b, Z b → S' b) {rs : List RV} (h : NewL p rs) :
    ∀ (g : List (Option Blk)) (us : List Value), RdSs w' S ψ (bring rs g).1 us → RdSs w' S' ψ (bring rs g).1 us := by
  induction rs with
  | nil => intro g us hr; cases us with | nil => trivial | cons _ _ => exact hr.elim
  | cons r rs ih =>
    intro g us hr
    cases r with
    | pv v =>
      cases us with
      | nil => exact hr.elim
      | cons u us => exact ⟨NewV.rd hS v u h.1 hr.1, ih h.2 g us hr.2⟩
    | fr sz len b =>
      cases us with
      | nil => exact hr.elim
      | cons u us => exact ⟨hr.1, ih h.2 _ us hr.2⟩
theorem SimAt.call_new (sim : SimAt w0 S0 s φ a w) {d : Nat} (hd : d < s.nt) {r : Res} (hs : NewL (fun Z => ∀ b, Z b → w.heap.size ≤ b) r.list) {ψ : List (Option (Nat × Nat))} {w' : World} {u : Value}
    (hh : Heap w (fun _ => True) (bring r.list []).2 ψ w') (hr : RdSlot w' (Stab w (fun _ => True) (bring r.list []).2 ψ) ψ (r.slot (bring r.list []).1) u) :
    SimAt w0 S0 (bringIn s d r) (φ ++ ψ) (a.put (some d) u) w' := by
  have hw := sim.heap.below.size
  have key : ∀ Z : Nat → Prop, (∀ b, Z b → w.heap.size ≤ b) → (∀ b, Z b → Stab w (fun _ => True) (bring r.list []).2 ψ b) → ∀ b, Z b → Stab w0 S0 (s.h ++ (bring r.list []).2) (φ ++ ψ) b := fun Z hZ h1 b hb => by
    have h2 := hZ b hb
    refine ⟨.inr (by omega), fun hl => ?_⟩
    rcases (live_append sim.heap.len).1 hl with h3 | h3
    · have := (sim.heap.live_ge h3).2; omega
    · exact (h1 b hb).2 h3
  have hj := sim.join hh fun id blk i x hid hi hr => NewV.rd key _ _ (new_blk hs [] id blk hid (fun _ _ h => by simp at h) i hi) hr
  have e := bring_nil r.list s.h
  have hp := hj.put (d := d) hd (v := r.slot (bring r.list s.h).1) (u := u) (by
    refine rdSlot_bring (g := []) (g' := s.h) r (fun us hus => ?_) hr
    have h1 := new_slots (S' := Stab w (Stab w0 S0 s.h φ) (bring r.list []).2 ψ) (fun Z hZ h1 b hb => ⟨.inr (hZ b hb), (h1 b hb).2⟩) hs [] us hus
    have := bring_slots (S' := Stab w0 S0 (s.h ++ (bring r.list []).2) (φ ++ ψ)) r.list (fun b hb => sim.stab_callee b hb) s.h [] us sim.heap.len h1
    simpa using this)
  rw [← e] at hp
  exact hp
def callEK (N : Nat) (P : Program) (f : FuncId) (args : List Operand) (d : Nat) (s : ASt) (K : ASt → Prop) : Prop :=
  argsK s args true [] fun _ vs => ∃ R : Res → Prop, FnE P f vs R ∧ d < s.nt ∧ ∀ r, R r → NewL (fun Z => (∀ b, Z b → N ≤ b) ∧ ∀ Z', ZSt Z' s → Disj Z' Z) r.list → K (bringIn s d r)
theorem callE_rule {N : Nat} {f : FuncId} {args : Array Operand} {d ty : Nat} {ts : Array TypeId} {pos : String} {after : Array Edge} :
    OpRule N P ⟨some d, .call ⟨.value (.func f), args, ts⟩, ty, pos, after, none⟩ (fun s K => callEK N P f args.toList d s K) := by
  refine ⟨rfl, fun w0 S0 s φ a w K next Q hN sim h hn => ?_⟩
  obtain ⟨p', vs', ⟨R, hf, hd, hK⟩, h3, h4⟩ := argsK_ok sim args.toList true [] [] h sim.gl (fun _ => sim.gl)
  have hrun : (execOp a.eval ⟨some d, .call ⟨.value (.func f), args, ts⟩, ty, pos, after, none⟩).run P w = .ok (.enter f (args.toList.map a.eval).toArray) w := by
    have e : execOp a.eval ⟨some d, .call ⟨.value (.func f), args, ts⟩, ty, pos, after, none⟩ = callFunc f (#[] ++ args.map a.eval ++ #[]) := rfl
    rw [e, hf.1]
    congr 2
    rw [← Array.toList_inj]
    simp
  unfold Oper.wp
  rw [hrun, Oper.upon_enter]
  simp only [List.reverse_nil, List.nil_append] at h3 h4
  refine (hf.2 w _ h3).mono ?_
  rintro e w' ⟨r, u, ψ, hr, hnew, rfl, hh, hs⟩
  have hw := sim.heap.below.size
  refine hn _ _ _ (hK r hr (NewL.mono (fun Z hZ => ⟨fun b hb => by have := hZ b hb; omega, fun Z' hZ' b hb hb' => ?_⟩) _ hnew)) ⟨_, sim.call_new hd hnew hh hs⟩
  have h1 := (hZ'.there sim b hb).2
  have h2 := hZ b hb'
  omega
theorem AWP.region_callE [Cx] {N : Nat} {id : Nat} {f : FuncId} {args : Array Operand} {d ty : Nat} {ts : Array TypeId} {pos : String} {after : Array Edge} {os1 os2 : List Oper} {Q : Exit → ASt → Prop} {s : ASt}
    (h : evOps P false (os1 ++ ⟨some d, .call ⟨.value (.func f), args, ts⟩, ty, pos, after, none⟩ :: os2) os1 (fun s' => callEK N P f args.toList d s' (evOps P false (os1 ++ ⟨some d, .call ⟨.value (.func f), args, ts⟩, ty, pos, after, none⟩ :: os2) os2 (Q .normal))) s) :
    AWP N P (.region id (os1 ++ ⟨some d, .call ⟨.value (.func f), args, ts⟩, ty, pos, after, none⟩ :: os2).toArray false) Q s :=
  AWP.region_rule callE_rule h
/-! ### An own slice is let go as a row -/
def letRowK (N : Nat) (t : Nat) (s : ASt) (K : ASt → Prop) : Prop :=
  ∃ (id sz len : Nat) (blk : Blk), lookup s.σ t = some (.one (.own id sz 0 len)) ∧ s.h[id]? = some (some blk) ∧ len * sz ≤ blk.n ∧
    ∀ (u0 : Value) (Z : Nat → Prop), (∀ b, Z b → N ≤ b) → (∀ Z', ZSt Z' s → Disj Z' Z) → K ⟨upd s.σ t (.one (.pv (.row u0 Z sz len blk.f))), s.h.set id none, s.nt⟩
theorem letRow_ok {N : Nat} {t : Nat} {K : ASt → Prop} (hN : w0.heap.size = N) (sim : SimAt w0 S0 s φ a w) (h : letRowK N t s K) : ∃ s', K s' ∧ SimAt w0 S0 s' φ a w := by
  obtain ⟨id, sz, len, blk, ht, hb, hl, h⟩ := h
  obtain ⟨sv, hst⟩ := sim.letgo id
  obtain ⟨u, hu, hr⟩ := sim.slots t _ ht
  have fin : ∀ Z : Nat → Prop, (∀ b, Z b → N ≤ b) → (∀ Z', ZSt Z' s → Disj Z' Z) → Rd w (Stab w0 S0 (s.h.set id none) φ) (.row u Z sz len blk.f) u → ∃ s', K s' ∧ SimAt w0 S0 s' φ a w := fun Z h1 h2 h3 => by
    refine ⟨_, h u Z h1 h2, ⟨sv.heap, fun t' v hv => ?_, sv.defers, sv.size⟩⟩
    rw [lookup_upd] at hv
    split at hv
    · rename_i et; subst et; injection hv with hv; subst hv
      exact ⟨u, hu, h3⟩
    · exact sv.slots t' v hv
  rcases hr with ⟨hφ, _, hl0, rfl⟩ | ⟨b', c, z, hφ, rfl, hc, _, _⟩
  · subst hl0
    exact fin (fun _ => False) (fun _ h => h.elim) (fun _ _ _ _ h => h) ⟨rfl, fun _ h => h.elim, none, 0, rfl, Nat.le_refl _, fun hp => by simp at hp⟩
  · obtain ⟨cur, _, hB, hcur, hn, hx⟩ := sim.blkAt hb hφ
    have hlive : Live s.h φ b' := ⟨id, blk, _, hb, hφ⟩
    refine fin (fun b => b = b') (fun b hb' => by subst hb'; omega) (fun Z' hZ' b hz hb' => ?_) ⟨rfl, fun b hb' => ?_, _, c, rfl, hc, fun hp => ⟨b', 0, rfl, rfl, fun i hi => ?_⟩⟩
    · have hb' : b = b' := hb'
      subst hb'
      exact (hZ'.there sim b hz).1.2 hlive
    · have hb' : b = b' := hb'
      subst hb'
      refine ⟨⟨.inr hB, ?_⟩, cur, blk.elem, .inl hcur⟩
      rintro ⟨i, x, z', h1, h2⟩
      by_cases ei : id = i
      · subst ei
        have := (List.getElem?_eq_some_iff.1 hb).1
        simp [this] at h1
      · rw [List.getElem?_set_ne ei] at h1
        exact ei (sim.heap.inj id i blk x b _ _ hb h1 hφ h2)
    · obtain ⟨x, hx1, hx2⟩ := hx i (by omega)
      exact ⟨x, by rw [Nat.zero_add]; exact cell_of_blk hcur hx1, Rd.mono (fun b hb _ => ⟨hst b hb, rfl⟩) _ _ hx2⟩
theorem AWP.letRow [Cx] {N : Nat} {c : Code} {Q : Exit → ASt → Prop} {s : ASt} (t : Nat) (h : letRowK N t s (AWP N P c Q)) : AWP N P c Q s := by
  refine AWP.of_step fun w0 S0 φ a w hN sim => ?_
  obtain ⟨s', hK, sim'⟩ := letRow_ok hN sim h
  exact ⟨s', φ, hK, sim'⟩
/-! ### A function's body -/
def retE (ts : List Nat) (N : Nat) (R : Res → Prop) : Exit → ASt → Prop
  | .normal, s => ∃ r, R r ∧ NewL (fun Z => ∀ b, Z b → N ≤ b) r.list ∧ retOk ts r s
  | .ret, s => ∃ r, R r ∧ NewL (fun Z => ∀ b, Z b → N ≤ b) r.list ∧ retOk ts r s
  | _, _ => False
def oldV (N : Nat) : V → V
  | .seq sz n f => .old (fun b => b < N) (.seq sz n f)
  | .agg n f => .agg n fun i => oldV N (f i)
  | v => v
theorem oldV_rd {w : World} : ∀ (v : V) (u : Value), Rd w (fun _ => True) v u → Rd w (fun _ => True) (oldV w.heap.size v) u
  | .seq sz n f, u, h => ⟨fun b hb => ⟨trivial, hb⟩, Rd.mono (S' := fun b => b < w.heap.size) (fun b _ hlt => ⟨hlt, rfl⟩) _ _ h⟩
  | .agg n f, u, h => by
    obtain ⟨cs, hu, hn, h⟩ := h
    refine ⟨cs, hu, hn, fun i hi => ?_⟩
    obtain ⟨x, hx, hr⟩ := h i hi
    exact ⟨x, hx, oldV_rd (f i) x hr⟩
  | .val _, _, h => h
  | .pin _ _, _, h => h
  | .clo _ _ _, _, h => h
  | .old _ _, _, h => h
  | .row _ _ _ _ _, _, h => h
  | .grow _ _ _ _ _ _, _, h => h
  | .cur _ _ _ _, _, h => h
theorem oldL_rd {w : World} : ∀ (vs : List V) (us : List Value), RdL w (fun _ => True) vs us → RdL w (fun _ => True) (vs.map (oldV w.heap.size)) us
  | [], [], h => h
  | [], _ :: _, h => h.elim
  | _ :: _, [], h => h.elim
  | v :: vs, u :: us, h => ⟨oldV_rd v u h.1, oldL_rd vs us h.2⟩
theorem body_start {fn : Func} {nt : Nat} {vs : List V} {us : List Value} (hnt : fn.ntmps = nt) (hlen : vs.length ≤ nt) (hus : RdL w (fun _ => True) vs us) :
    SimAt w (fun _ => True) ⟨slotsOf 0 vs, [], nt⟩ [] { tmps := us.toArray ++ Array.replicate (fn.ntmps - us.toArray.size) undef, defers := [] } w := by
  have hul := hus.len
  refine ⟨⟨rfl, Below.refl _ _, fun id blk hi => by simp at hi, fun i j bi bj b z z' hi => by simp at hi⟩, fun t x ht => ?_, ⟨rfl, hus.gl⟩, by simp [hnt]; omega⟩
  obtain ⟨v, rfl, _, hv⟩ := slotsOf_get vs 0 t ht
  obtain ⟨u, hu, hr⟩ := RdL.get vs us t hus (by simpa using hv)
  refine ⟨u, ?_, ?_⟩
  · have : t < us.length := (List.getElem?_eq_some_iff.1 hu).1
    rw [Array.getElem?_append_left (by simpa using this)]; simpa using hu
  · refine Rd.mono (fun b hb hlt => ⟨⟨.inl hb, ?_⟩, rfl⟩) _ _ hr
    rintro ⟨id, blk, z, hi, _⟩; simp at hi
theorem FnE.of_body {f : FuncId} {fn : Func} {c : Code} {nt : Nat} {ts : List Nat} {vs : List V} {R : Res → Prop} (vs' : Nat → List V) (hvs : ∀ (w : World) (us : List Value), RdL w (fun _ => True) vs us → RdL w (fun _ => True) (vs' w.heap.size) us)
    (hcall : ∀ (args : Array Value) (w : World), (callFunc f args).run P w = .ok (.enter f args) w) (hf : P.funcs[f]? = some fn) (hb : fn.body = some c) (hnt : fn.ntmps = nt)
    (hres : fn.results = (ts.map ResultVar.tmp).toArray) (hlen : ∀ N, (vs' N).length ≤ nt) (hshape : ∀ r, R r → r.shape ts.length = true) (h : ∀ N, AWP N P c (retE ts N R) ⟨slotsOf 0 (vs' N), [], nt⟩) : FnE P f vs R := by
  refine ⟨hcall, fun w us hus => calls_of_wp hf hb ?_⟩
  have sim := body_start (w := w) (fn := fn) (vs := vs' w.heap.size) hnt (hlen _) (hvs w us hus)
  refine wp_mono (h _ w _ _ w rfl ⟨w, Reb.refl _, [], sim⟩) fun e a' w' ⟨s', hq, w1, hR, φ, sim'⟩ => ?_
  obtain rfl := hR.none
  have fin : (∃ r, R r ∧ NewL (fun Z => ∀ b, Z b → w.heap.size ≤ b) r.list ∧ retOk ts r s') → a'.defers = [] ∧ ∃ v, (results fn a'.tmps).run P w' = .ok v w' ∧
      ∃ r u φ, R r ∧ NewL (fun Z => ∀ b, Z b → w.heap.size ≤ b) r.list ∧ Ending.returned v = .returned u ∧ Heap w (fun _ => True) (bring r.list []).2 φ w' ∧ RdSlot w' (Stab w (fun _ => True) (bring r.list []).2 φ) φ (r.slot (bring r.list []).1) u := fun ⟨r, hR, hnew, hq⟩ => by
    unfold retOk at hq
    split at hq
    · rename_i vs' hvs
      obtain ⟨hfit, hnd⟩ := hq
      have hrd := getL_rd sim' ts vs' hvs
      obtain ⟨hh, hst⟩ := sim'.results_heap hfit hnd
      have hsl := results_slots hst vs' r.list _ [] [] rfl hfit hrd
      have eb : (bring r.list []).2 = (blksOf r.list).map some := by rw [bring_blks]; rfl
      refine ⟨sim'.defers.1, _, run_results hres _ _, r, _, _, hR, hnew, rfl, by rw [eb]; exact hh, ?_⟩
      rw [eb]
      simp only [List.nil_append] at hsl
      have hshape := hshape r hR
      cases r with
      | one r =>
        have h1 : ts.length = 1 := by simpa [Res.shape] using hshape
        rw [if_pos h1]
        match ts, h1 with
        | [t], _ => cases r <;> exact hsl.1
      | many l =>
        have h1 : ts.length ≠ 1 := by simpa [Res.shape] using hshape
        rw [if_neg h1]
        exact ⟨_, rfl, hsl⟩
    · exact hq.elim
  cases e with
  | normal => exact fin hq
  | ret => exact fin hq
  | _ => exact hq.elim
def Bare : V → V → Prop
  | .old _ v, v' => Bare v v'
  | .row _ _ sz n f, .seq sz' n' g => sz = sz' ∧ n = n' ∧ ∀ i, i < n * sz → Bare (f i) (g i)
  | .grow _ _ _ sz n f, .seq sz' n' g => sz = sz' ∧ n = n' ∧ ∀ i, i < n * sz → Bare (f i) (g i)
  | .agg n f, .agg n' g => n = n' ∧ ∀ i, i < n → Bare (f i) (g i)
  | v, v' => VE v v'
theorem Bare.rd {w : World} {S : Nat → Prop} : ∀ (v v' : V) (u : Value), Bare v v' → Rd w S v u → Rd w S v' u
  | .old Z v, v', u, h, hr => Bare.rd v v' u (by cases v' <;> exact h) (Rd.mono (S := Z) (fun b hb _ => ⟨(hr.1 b hb).1, rfl⟩) _ _ hr.2)
  | .row u0 Z sz n f, .seq sz' n' g, u, h, hr => by
    obtain ⟨rfl, rfl, h⟩ := h
    obtain ⟨_, hz, A, c, rfl, hc, hr⟩ := hr
    refine ⟨A, c, rfl, hc, fun hp => ?_⟩
    obtain ⟨b, off, hA, hZ, hr⟩ := hr hp
    refine ⟨b, off, hA, (hz b hZ).1, fun i hi => ?_⟩
    obtain ⟨x, hx, hr⟩ := hr i hi
    exact ⟨x, hx, Bare.rd (f i) (g i) x (h i hi) hr⟩
  | .grow u0 Z e sz n f, .seq sz' n' g, u, h, hr => by
    obtain ⟨rfl, rfl, h⟩ := h
    obtain ⟨_, hz, hr⟩ := hr
    rcases hr with ⟨rfl, hn⟩ | ⟨b, c, cur, rfl, h2, h3, h4, h5, h6, h7⟩
    · exact ⟨none, 0, by rw [hn], by omega, fun hp => by rw [hn] at hp; omega⟩
    · refine ⟨_, c, rfl, h2, fun _ => ⟨b, 0, rfl, (hz b h4).1, fun i hi => ?_⟩⟩
      obtain ⟨x, hx, hr⟩ := h7 i hi
      exact ⟨x, by rw [Nat.zero_add]; exact h5.cell hx, Bare.rd (f i) (g i) x (h i hi) hr⟩
  | .agg n f, .agg n' g, u, h, hr => by
    obtain ⟨rfl, h⟩ := h
    obtain ⟨cs, hu, hn, hr⟩ := hr
    refine ⟨cs, hu, hn, fun i hi => ?_⟩
    obtain ⟨x, hx, hr⟩ := hr i hi
    exact ⟨x, hx, Bare.rd (f i) (g i) x (h i hi) hr⟩
  | .val a, v', u, h, hr => VE.rd _ _ _ (by cases v' <;> exact h) hr
  | .seq a b c, v', u, h, hr => VE.rd _ _ _ (by cases v' <;> exact h) hr
  | .pin a b, v', u, h, hr => VE.rd _ _ _ (by cases v' <;> exact h) hr
  | .clo a b c, v', u, h, hr => VE.rd _ _ _ (by cases v' <;> exact h) hr
  | .row a b c d e, .val x, u, h, hr => h.elim
  | .row a b c d e, .agg x y, u, h, hr => h.elim
  | .row a b c d e, .pin x y, u, h, hr => h.elim
  | .row a b c d e, .clo x y z, u, h, hr => h.elim
  | .row a b c d e, .old x y, u, h, hr => h.elim
  | .row a b c d e, .row x y z i j, u, h, hr => VE.rd _ _ _ h hr
  | .row a b c d e, .grow x y z i j k, u, h, hr => h.elim
  | .grow a b c d e f, .val x, u, h, hr => h.elim
  | .grow a b c d e f, .agg x y, u, h, hr => h.elim
  | .grow a b c d e f, .pin x y, u, h, hr => h.elim
  | .grow a b c d e f, .clo x y z, u, h, hr => h.elim
  | .grow a b c d e f, .old x y, u, h, hr => h.elim
  | .grow a b c d e f, .row x y z i j, u, h, hr => VE.rd _ _ _ h hr
  | .grow a b c d e f, .grow x y z i j k, u, h, hr => VE.rd _ _ _ h hr
  | .agg a b, .grow x y z i j k, u, h, hr => h.elim
  | .agg a b, .val x, u, h, hr => h.elim
  | .agg a b, .seq x y z, u, h, hr => h.elim
  | .agg a b, .pin x y, u, h, hr => h.elim
  | .agg a b, .clo x y z, u, h, hr => h.elim
  | .agg a b, .old x y, u, h, hr => h.elim
  | .agg a b, .row x y z i j, u, h, hr => h.elim
  | .cur a b c d, v', u, h, hr => VE.rd _ _ _ (by cases v' <;> exact h) hr
  | .row a b c d e, .cur x y z i, u, h, hr => h.elim
  | .grow a b c d e f, .cur x y z i, u, h, hr => h.elim
  | .agg a b, .cur x y z i, u, h, hr => h.elim
def BareL : List V → List V → Prop
  | [], [] => True
  | v :: vs, v' :: vs' => Bare v v' ∧ BareL vs vs'
  | _, _ => False
theorem BareL.rd {w : World} {S : Nat → Prop} : ∀ (vs vs' : List V) (us : List Value), BareL vs vs' → RdL w S vs us → RdL w S vs' us
  | [], [], _, _, h => h
  | [], _ :: _, _, e, _ => e.elim
  | _ :: _, [], _, e, _ => e.elim
  | _ :: _, _ :: _, [], _, h => h.elim
  | v :: vs, v' :: vs', u :: us, e, h => ⟨Bare.rd v v' u e.1 h.1, BareL.rd vs vs' us e.2 h.2⟩
theorem Fn.bare {f : FuncId} {vs vs' : List V} {r : Res} (h : Fn P f vs r) (e : BareL vs' vs) : Fn P f vs' r := ⟨h.entry, fun w S us hr => h.runs w S us (BareL.rd vs' vs us e hr)⟩
theorem FnE.bare {f : FuncId} {vs vs' : List V} {R : Res → Prop} (h : FnE P f vs R) (e : BareL vs' vs) : FnE P f vs' R := ⟨h.entry, fun w us hr => h.runs w us (BareL.rd vs' vs us e hr)⟩
theorem Fn.toRow {f : FuncId} {vs : List V} {sz n : Nat} {b : Blk} (h : Fn P f vs (.one (.fr sz n b))) (hl : n * sz ≤ b.n) (hs : ∀ i, i < b.n → ∃ v, b.f i = .val v) :
    FnE P f vs (fun r => ∃ (u0 : Value) (Z : Nat → Prop), r = .one (.pv (.row u0 Z sz n b.f))) := by
  refine ⟨h.entry, fun w us hus => (h.runs w (fun _ => True) us hus).mono ?_⟩
  rintro e w' ⟨u, φ, he, hh, hr⟩
  have h0 : ∀ Z : Nat → Prop, Rd w' (Stab w (fun _ => True) [] []) (.row u Z sz n b.f) u → (∀ k, Z k → w.heap.size ≤ k) → ∃ r u φ, (∃ (u0 : Value) (Z : Nat → Prop), r = Res.one (.pv (.row u0 Z sz n b.f))) ∧ NewL (fun Z => ∀ b, Z b → w.heap.size ≤ b) r.list ∧ e = .returned u ∧ Heap w (fun _ => True) (bring r.list []).2 φ w' ∧ RdSlot w' (Stab w (fun _ => True) (bring r.list []).2 φ) φ (r.slot (bring r.list []).1) u :=
    fun Z h1 h2 => ⟨_, u, [], ⟨u, Z, rfl⟩, ⟨⟨h2, fun i hi => by obtain ⟨v, hv⟩ := hs i (by omega); rw [hv]; trivial⟩, trivial⟩, he, ⟨rfl, hh.below, fun id blk hi => by simp [bring, Res.list] at hi, fun i j bi bj b z z' hi => by simp [bring, Res.list] at hi⟩, h1⟩
  have hb : (bring (Res.one (.fr sz n b)).list []).2[0]? = some (some b) := rfl
  rcases hr with ⟨hφ, _, hl0, rfl⟩ | ⟨b', c, z, hφ, rfl, hc, _, _⟩
  · subst hl0
    exact h0 (fun _ => False) ⟨rfl, fun _ h => h.elim, none, 0, rfl, Nat.le_refl _, fun hp => by simp at hp⟩ (fun _ h => h.elim)
  · rcases hh.blk 0 b hb with ⟨h1, _⟩ | ⟨b'', cur, h1, h2, h3, h4, h5⟩
    · have : φ[0]? = some (some (b', z)) := hφ
      rw [this] at h1; cases h1
    · have e1 : φ[0]? = some (some (b', z)) := hφ
      rw [e1] at h1; injection h1 with h1; injection h1 with h1; injection h1 with h1 _
      subst h1
      refine h0 (fun k => k = b') ⟨rfl, fun k hk => ?_, _, c, rfl, hc, fun hp => ⟨b', 0, rfl, rfl, fun i hi => ?_⟩⟩ (fun k hk => by have hk : k = b' := hk; omega)
      · have hk : k = b' := hk
        subst hk
        exact ⟨⟨.inl trivial, fun ⟨i, x, z, h1, _⟩ => by simp at h1⟩, cur, b.elem, .inl h3⟩
      · obtain ⟨x, hx1, hx2⟩ := h5 i (by omega)
        obtain ⟨v, hv⟩ := hs i (by omega)
        rw [hv] at hx2 ⊢
        exact ⟨x, by rw [Nat.zero_add]; exact cell_of_blk h3 hx1, hx2⟩
theorem FnE.toRow {f : FuncId} {vs : List V} {R : Res → Prop} (h : FnE P f vs R) (hR : ∀ r, R r → ∃ sz n b, r = .one (.fr sz n b) ∧ n * sz ≤ b.n) :
    FnE P f vs (fun r' => ∃ (sz n : Nat) (b : Blk) (u0 : Value) (Z : Nat → Prop), R (.one (.fr sz n b)) ∧ (∀ i, i < n * sz → ∀ Z', ZIn Z' (b.f i) → Disj Z Z') ∧ r' = .one (.pv (.row u0 Z sz n b.f))) := by
  refine ⟨h.entry, fun w us hus => (h.runs w us hus).mono ?_⟩
  rintro e w' ⟨r, u, φ, hr0, hnew, he, hh, hr⟩
  obtain ⟨sz, n, b, rfl, hl⟩ := hR r hr0
  have hb : (bring (Res.one (.fr sz n b)).list []).2[0]? = some (some b) := rfl
  have hst : ∀ k, Stab w (fun _ => True) (bring (Res.one (.fr sz n b)).list []).2 φ k → Stab w (fun _ => True) [] [] k := fun k hk => ⟨hk.1, fun ⟨i, x, z, h1, _⟩ => by simp at h1⟩
  have h0 : ∀ Z : Nat → Prop, Rd w' (Stab w (fun _ => True) [] []) (.row u Z sz n b.f) u → (∀ k, Z k → w.heap.size ≤ k) → (∀ i, i < n * sz → ∀ Z', ZIn Z' (b.f i) → Disj Z Z') →
      ∃ r' u φ, (∃ (sz n : Nat) (b : Blk) (u0 : Value) (Z : Nat → Prop), R (.one (.fr sz n b)) ∧ (∀ i, i < n * sz → ∀ Z', ZIn Z' (b.f i) → Disj Z Z') ∧ r' = Res.one (.pv (.row u0 Z sz n b.f))) ∧ NewL (fun Z => ∀ b, Z b → w.heap.size ≤ b) r'.list ∧ e = .returned u ∧ Heap w (fun _ => True) (bring r'.list []).2 φ w' ∧ RdSlot w' (Stab w (fun _ => True) (bring r'.list []).2 φ) φ (r'.slot (bring r'.list []).1) u :=
    fun Z h1 h2 h3 => ⟨_, u, [], ⟨sz, n, b, u, Z, hr0, h3, rfl⟩, ⟨⟨h2, fun i hi => hnew.1 i (by omega)⟩, trivial⟩, he, ⟨rfl, hh.below, fun id blk hi => by simp [bring, Res.list] at hi, fun i j bi bj b z z' hi => by simp [bring, Res.list] at hi⟩, h1⟩
  rcases hr with ⟨hφ, _, hl0, rfl⟩ | ⟨b', c, z, hφ, rfl, hc, _, _⟩
  · subst hl0
    exact h0 (fun _ => False) ⟨rfl, fun _ h => h.elim, none, 0, rfl, Nat.le_refl _, fun hp => by simp at hp⟩ (fun _ h => h.elim) (fun i hi => by simp at hi)
  · have e1 : φ[0]? = some (some (b', z)) := hφ
    have hlive : Live (bring (Res.one (.fr sz n b)).list []).2 φ b' := ⟨0, b, z, hb, e1⟩
    rcases hh.blk 0 b hb with ⟨h1, _⟩ | ⟨b'', cur, h1, h2, h3, h4, h5⟩
    · rw [e1] at h1; cases h1
    · rw [e1] at h1; injection h1 with h1; injection h1 with h1; injection h1 with h1 _
      subst h1
      refine h0 (fun k => k = b') ⟨rfl, fun k hk => ?_, _, c, rfl, hc, fun hp => ⟨b', 0, rfl, rfl, fun i hi => ?_⟩⟩ (fun k hk => by have hk : k = b' := hk; omega) (fun i hi Z' hZ' k hk hk' => ?_)
      · have hk : k = b' := hk
        subst hk
        exact ⟨⟨.inl trivial, fun ⟨i, x, z, h1, _⟩ => by simp at h1⟩, cur, b.elem, .inl h3⟩
      · obtain ⟨x, hx1, hx2⟩ := h5 i (by omega)
        exact ⟨x, by rw [Nat.zero_add]; exact cell_of_blk h3 hx1, Rd.mono (fun k hk _ => ⟨hst k hk, rfl⟩) _ _ hx2⟩
      · have hk : k = b' := hk
        subst hk
        obtain ⟨x, _, hx2⟩ := h5 i (by omega)
        exact (hZ'.there hx2 k hk').1.2 hlive
theorem FnE.weaken {f : FuncId} {vs : List V} {R R' : Res → Prop} (h : FnE P f vs R) (hR : ∀ r, R r → R' r) : FnE P f vs R' :=
  ⟨h.entry, fun w us hus => (h.runs w us hus).mono fun e w' ⟨r, u, φ, h1, h2⟩ => ⟨r, u, φ, hR r h1, h2⟩⟩
/-! ### Marks -/
structure OnlyIn (T : Nat → Prop) (w w' : World) : Prop where
  os : w'.os = w.os
  tape : w'.tape = w.tape
  output : w'.output = w.output
  size : w.heap.size ≤ w'.heap.size
  oth : ∀ b, b < w.heap.size → ¬ T b → w'.heap[b]? = w.heap[b]?
  wr : ∀ b, Wr w b → Wr w' b
theorem OnlyIn.refl (T : Nat → Prop) (w : World) : OnlyIn T w w := ⟨rfl, rfl, rfl, Nat.le_refl _, fun _ _ _ => rfl, fun _ h => h⟩
theorem OnlyIn.trans {T : Nat → Prop} {a b c : World} (h : OnlyIn T a b) (k : OnlyIn T b c) : OnlyIn T a c :=
  ⟨k.os.trans h.os, k.tape.trans h.tape, k.output.trans h.output, Nat.le_trans h.size k.size, fun i hi hT => (k.oth i (by have := h.size; omega) hT).trans (h.oth i hi hT), fun i hi => k.wr i (h.wr i hi)⟩
theorem OnlyIn.mono {T T' : Nat → Prop} {a b : World} (h : OnlyIn T a b) (hT : ∀ b, T b → T' b) : OnlyIn T' a b := ⟨h.os, h.tape, h.output, h.size, fun i hi hn => h.oth i hi fun h' => hn (hT _ h'), h.wr⟩
theorem OnlyIn.below {T : Nat → Prop} {a b : World} (h : Below a.heap.size a b) : OnlyIn T a b := ⟨h.os, h.tape, h.output, h.size, fun i hi _ => h.block i hi, fun i ⟨cur, e, hi⟩ => ⟨cur, e, hi.congr (h.block i hi.lt)⟩⟩
def Keeps (T : Nat → Prop) : V → Prop
  | .val _ => True
  | .old Z _ => Disj Z T
  | .row _ Z sz n f => Disj Z T ∧ ∀ i, i < n * sz → Keeps T (f i)
  | .grow _ Z _ sz n f => Disj Z T ∧ ∀ i, i < n * sz → Keeps T (f i)
  | .agg n f => ∀ i, i < n → Keeps T (f i)
  | .cur b _ Z _ => ¬ T b ∧ Disj Z T
  | _ => False
theorem Keeps.rd {T : Nat → Prop} {w w' : World} (h : OnlyIn T w w') {S : Nat → Prop} : ∀ (v : V) (u : Value), Keeps T v → Rd w S v u → Rd w' S v u
  | .val _, _, _, hr => hr
  | .old Z v, u, hk, hr => ⟨fun b hb => ⟨(hr.1 b hb).1, Nat.lt_of_lt_of_le (hr.1 b hb).2 h.size⟩, Rd.mono (S' := Z) (fun b hb hlt => ⟨hb, h.oth b hlt (hk b hb)⟩) _ _ hr.2⟩
  | .row u0 Z sz n f, u, hk, hr => by
    obtain ⟨e, hz, A, c, hu, hc, hr⟩ := hr
    refine ⟨e, fun b hb => ⟨(hz b hb).1, h.wr b (hz b hb).2⟩, A, c, hu, hc, fun hp => ?_⟩
    obtain ⟨b, off, hA, hZ, hr⟩ := hr hp
    refine ⟨b, off, hA, hZ, fun i hi => ?_⟩
    obtain ⟨x, hx, hr⟩ := hr i hi
    exact ⟨x, by rw [World.cell?_of_block (w := w) (a := ⟨b, off + i, none⟩) (h.oth b (block_of_cell hx) (hk.1 b hZ))]; exact hx, Keeps.rd h (f i) x (hk.2 i hi) hr⟩
  | .grow u0 Z e sz n f, u, hk, hr => by
    obtain ⟨hu, hz, hr⟩ := hr
    refine ⟨hu, fun b hb => ⟨(hz b hb).1, h.wr b (hz b hb).2⟩, ?_⟩
    rcases hr with hr | ⟨b, c, cur, h1, h2, h3, h4, h5, h6, h7⟩
    · exact .inl hr
    · refine .inr ⟨b, c, cur, h1, h2, h3, h4, h5.congr (h.oth b h5.lt (hk.1 b h4)), h6, fun i hi => ?_⟩
      obtain ⟨x, hx, hr⟩ := h7 i hi
      exact ⟨x, hx, Keeps.rd h (f i) x (hk.2 i hi) hr⟩
  | .agg n f, u, hk, hr => by
    obtain ⟨cs, hu, hn, hr⟩ := hr
    refine ⟨cs, hu, hn, fun i hi => ?_⟩
    obtain ⟨x, hx, hr⟩ := hr i hi
    exact ⟨x, hx, Keeps.rd h (f i) x (hk i hi) hr⟩
  | .seq _ _ _, _, hk, _ => hk.elim
  | .pin _ _, _, hk, _ => hk.elim
  | .clo _ _ _, _, hk, _ => hk.elim
  | .cur b k Z c, u, hk, hr => by
    obtain ⟨hu, hb, hz, cur, cv, p, q, e, hc, h3, hp, hq, hr⟩ := hr
    exact ⟨hu, hb, fun j hj => ⟨(hz j hj).1, Nat.lt_of_lt_of_le (hz j hj).2.1 h.size, (hz j hj).2.2⟩, cur, cv, p, q, e, (h.oth b (block_lt hc) hk.1).trans hc, h3, hp, hq, Rd.mono (S' := Z) (fun j hj hlt => ⟨hj, h.oth j hlt (hk.2 j hj)⟩) _ _ hr⟩
def Goes (w w' : World) (v v' : V) : Prop := ∀ (S : Nat → Prop) (u : Value), Rd w S v u → Rd w' S v' u
def Zof (v : V) : Nat → Prop := fun b => ∃ Z, ZIn Z v ∧ Z b
theorem Goes.of_zof {w w' : World} {v v' : V} (h : ∀ u, Rd w (Zof v) v u → Rd w' (Zof v) v' u) (hv : ∀ (S : Nat → Prop) (u : Value), Rd w S v u → Rd w (Zof v) v u) : Goes w w' v v' := fun S u hr =>
  Rd.mono (S := Zof v) (fun b ⟨Z, hZ, hb⟩ _ => ⟨(hZ.there hr b hb).1, rfl⟩) _ _ (h u (hv S u hr))
structure FnMz (P : Program) (f : FuncId) (v : V) (k k' : Int) (T : Nat → Prop) (ps : List (V × V)) : Prop where
  entry : ∀ (args : Array Value) (w : World), (callFunc f args).run P w = .ok (.enter f args) w
  inz : ∀ b, T b → ∃ Z, ZIn Z v ∧ Z b
  runs : ∀ (w : World) (S : Nat → Prop) (u : Value), Rd w S v u → Calls P f #[u, .int .i64 k] w fun e w' => e = .returned (.int .i64 k') ∧ OnlyIn T w w' ∧ ∀ p ∈ ps, Goes w w' p.1 p.2
def ZStep (T : Nat → Prop) (ps : List (V × V)) (a b : V) : Prop := (Keeps T a ∧ a = b) ∨ (a, b) ∈ ps
def SwSl (T : Nat → Prop) (ps : List (V × V)) : Slot → Slot → Prop
  | .one (.pv a), .one (.pv b) => ZStep T ps a b
  | .one (.own i sz off len), .one (.own i' sz' off' len') => i = i' ∧ sz = sz' ∧ off = off' ∧ len = len'
  | .one (.ptr i off), .one (.ptr i' off') => i = i' ∧ off = off'
  | _, _ => False
def SwS (T : Nat → Prop) (ps : List (V × V)) (σ : List (Nat × Slot)) : List (Nat × Slot) → Prop
  | [] => True
  | (t, v) :: r => (match lookup σ t with | some v0 => SwSl T ps v0 v | none => False) ∧ SwS T ps σ r
def SwH (T : Nat → Prop) (ps : List (V × V)) : List (Option Blk) → List (Option Blk) → Prop
  | [], [] => True
  | _ :: h, none :: h' => SwH T ps h h'
  | some b :: h, some b' :: h' => (b.elem = b'.elem ∧ b'.n ≤ b.n ∧ ∀ i, i < b'.n → ZStep T ps (b.f i) (b'.f i)) ∧ SwH T ps h h'
  | _, _ => False
theorem SwS.get {T : Nat → Prop} {ps : List (V × V)} {σ : List (Nat × Slot)} : ∀ {τ : List (Nat × Slot)} {t : Nat} {v : Slot}, SwS T ps σ τ → lookup τ t = some v → ∃ v0, lookup σ t = some v0 ∧ SwSl T ps v0 v
  | [], _, _, _, h => by cases h
  | (k, x) :: r, t, v, he, h => by
    obtain ⟨h1, h2⟩ := he
    simp only [lookup] at h
    split at h
    · rename_i e; subst e; injection h with h; subst h
      split at h1
      · rename_i v0 hv; exact ⟨v0, hv, h1⟩
      · exact h1.elim
    · exact SwS.get h2 h
theorem SwH.len {T : Nat → Prop} {ps : List (V × V)} : ∀ {h h' : List (Option Blk)}, SwH T ps h h' → h.length = h'.length
  | [], [], _ => rfl
  | [], _ :: _, h => by cases ‹Option Blk› <;> exact h.elim
  | _ :: _, [], h => by cases ‹Option Blk› <;> exact h.elim
  | x :: h, none :: h', he => by simp [SwH.len (h := h) (h' := h') (by cases x <;> exact he)]
  | none :: _, some _ :: _, he => he.elim
  | some _ :: h, some _ :: h', he => by simp [SwH.len he.2]
theorem SwH.get {T : Nat → Prop} {ps : List (V × V)} : ∀ {h h' : List (Option Blk)} {id : Nat} {b' : Blk}, SwH T ps h h' → h'[id]? = some (some b') → ∃ b, h[id]? = some (some b) ∧ b.elem = b'.elem ∧ b'.n ≤ b.n ∧ ∀ i, i < b'.n → ZStep T ps (b.f i) (b'.f i)
  | [], [], _, _, _, hi => by simp at hi
  | [], _ :: _, _, _, h, _ => by cases ‹Option Blk› <;> exact h.elim
  | _ :: _, [], _, _, _, hi => by simp at hi
  | x :: h, none :: h', id, b', he, hi => by
    cases id with
    | zero => simp at hi
    | succ id =>
      obtain ⟨b, h1, h2⟩ := SwH.get (h := h) (h' := h') (by cases x <;> exact he) (by simpa using hi)
      exact ⟨b, by simpa using h1, h2⟩
  | none :: _, some _ :: _, _, _, he, _ => he.elim
  | some b0 :: h, some b0' :: h', id, b', he, hi => by
    cases id with
    | zero => simp at hi; subst hi; exact ⟨b0, by simp, he.1⟩
    | succ id =>
      obtain ⟨b, h1, h2⟩ := SwH.get he.2 (by simpa using hi)
      exact ⟨b, by simpa using h1, h2⟩
theorem SimAt.sweep {N : Nat} (hN : w0.heap.size = N) (sim : SimAt w0 S0 s φ a w) {T : Nat → Prop} {ps : List (V × V)} {w' : World} {s1 : ASt} (hT : ∀ b, T b → N ≤ b) (hL : ∀ b, T b → ¬ Live s.h φ b) (ho : OnlyIn T w w') (hp : ∀ p ∈ ps, Goes w w' p.1 p.2)
    (hnt : s1.nt = s.nt) (hσ : SwS T ps s.σ s1.σ) (hh : SwH T ps s.h s1.h) : SimAt w0 S0 s1 φ a w' := by
  have hst : ∀ b, Stab w0 S0 s.h φ b → Stab w0 S0 s1.h φ b := fun b hb => ⟨hb.1, fun ⟨id, blk, z, hi, hp⟩ => by
    obtain ⟨b0, h4, _⟩ := hh.get hi
    exact hb.2 ⟨id, b0, z, h4, hp⟩⟩
  have step : ∀ (v v' : V) (u : Value), ZStep T ps v v' → Rd w (Stab w0 S0 s.h φ) v u → Rd w' (Stab w0 S0 s1.h φ) v' u := fun v v' u hz hr => by
    refine Rd.mono (S := Stab w0 S0 s.h φ) (fun b hb _ => ⟨hst b hb, rfl⟩) _ _ ?_
    rcases hz with ⟨hk, rfl⟩ | hz
    · exact Keeps.rd ho v u hk hr
    · exact hp _ hz _ _ hr
  refine ⟨⟨by rw [sim.heap.len, hh.len], ⟨ho.os.trans sim.heap.below.os, ho.tape.trans sim.heap.below.tape, ho.output.trans sim.heap.below.output, Nat.le_trans sim.heap.below.size ho.size, fun b hb => ?_⟩, fun id blk hi => ?_, fun i j bi bj b z z' hi hj hi' hj' => ?_⟩, fun t v ht => ?_, sim.defers, by rw [sim.size, hnt]⟩
  · have h1 := sim.heap.below.size
    exact (ho.oth b (by omega) fun h => by have := hT b h; omega).trans (sim.heap.below.block b hb)
  · obtain ⟨b0, h4, h5, h6, h7⟩ := hh.get hi
    rcases sim.heap.blk id b0 h4 with ⟨h8, h9⟩ | ⟨b, cur, h8, h9, h10, h11, h12⟩
    · exact .inl ⟨h8, by omega⟩
    · refine .inr ⟨b, cur, h8, h9, by rw [ho.oth b (block_lt h10) fun h => hL b h ⟨id, b0, _, h4, h8⟩, ← h5]; exact h10, by omega, fun i hi' => ?_⟩
      obtain ⟨x, hx, hr⟩ := h12 i (by omega)
      exact ⟨x, hx, step _ _ _ (h7 i hi') hr⟩
  · obtain ⟨bi0, h4, _⟩ := hh.get hi
    obtain ⟨bj0, h5, _⟩ := hh.get hj
    exact sim.heap.inj i j bi0 bj0 b z z' h4 h5 hi' hj'
  · obtain ⟨v0, h4, h5⟩ := hσ.get ht
    obtain ⟨u, hu, hr⟩ := sim.slots t v0 h4
    refine ⟨u, hu, ?_⟩
    unfold SwSl at h5
    split at h5
    · exact step _ _ _ h5 hr
    · obtain ⟨rfl, rfl, rfl, rfl⟩ := h5; exact hr
    · obtain ⟨rfl, rfl⟩ := h5; exact hr
    · exact h5.elim
end
end Go.Proofs.Ytlomkebhopaliaa
namespace Go.Proofs.Ytlomkebhopaliaa
set_option linter.unusedSimpArgs false
set_option linter.unusedVariables false
open Go.RowKit
section
variable {P : Program} {w0 : World} {S0 : Nat → Prop} {s : ASt} {φ : List (Option (Nat × Nat))} {a : Act} {w : World}
/-! ### Let go -/
theorem Keeps.less {T S S' : Nat → Prop} (hS : ∀ b, S b → ¬ T b → S' b) : ∀ (v : V) (u : Value), Keeps T v → Rd w S v u → Rd w S' v u
  | .val _, _, _, hr => hr
  | .old Z v, u, hk, hr => ⟨fun b hb => ⟨hS b (hr.1 b hb).1 (hk b hb), (hr.1 b hb).2⟩, hr.2⟩
  | .row u0 Z sz n f, u, hk, hr => by
    obtain ⟨e, hz, A, c, hu, hc, hr⟩ := hr
    refine ⟨e, fun b hb => ⟨hS b (hz b hb).1 (hk.1 b hb), (hz b hb).2⟩, A, c, hu, hc, fun hp => ?_⟩
    obtain ⟨b, off, hA, hZ, hr⟩ := hr hp
    refine ⟨b, off, hA, hZ, fun i hi => ?_⟩
    obtain ⟨x, hx, hr⟩ := hr i hi
    exact ⟨x, hx, Keeps.less hS (f i) x (hk.2 i hi) hr⟩
  | .grow u0 Z e sz n f, u, hk, hr => by
    obtain ⟨hu, hz, hr⟩ := hr
    refine ⟨hu, fun b hb => ⟨hS b (hz b hb).1 (hk.1 b hb), (hz b hb).2⟩, ?_⟩
    rcases hr with hr | ⟨b, c, cur, h1, h2, h3, h4, h5, h6, h7⟩
    · exact .inl hr
    · refine .inr ⟨b, c, cur, h1, h2, h3, h4, h5, h6, fun i hi => ?_⟩
      obtain ⟨x, hx, hr⟩ := h7 i hi
      exact ⟨x, hx, Keeps.less hS (f i) x (hk.2 i hi) hr⟩
  | .agg n f, u, hk, hr => by
    obtain ⟨cs, hu, hn, hr⟩ := hr
    refine ⟨cs, hu, hn, fun i hi => ?_⟩
    obtain ⟨x, hx, hr⟩ := hr i hi
    exact ⟨x, hx, Keeps.less hS (f i) x (hk i hi) hr⟩
  | .seq _ _ _, _, hk, _ => hk.elim
  | .pin _ _, _, hk, _ => hk.elim
  | .clo _ _ _, _, hk, _ => hk.elim
  | .cur b k Z c, u, hk, hr => by
    obtain ⟨hu, hb, hz, h⟩ := hr
    exact ⟨hu, hS b hb hk.1, fun j hj => ⟨hS j (hz j hj).1 (hk.2 j hj), (hz j hj).2⟩, h⟩
def takeK (N : Nat) (t : Nat) (s : ASt) (K : ASt → Prop) : Prop :=
  ∃ (u0 : Value) (Z : Nat → Prop) (e : TypeId) (sz n : Nat) (f : Nat → V) (s1 : ASt), lookup s.σ t = some (.one (.pv (.grow u0 Z e sz n f))) ∧ (∀ b, Z b → N ≤ b) ∧ (∀ i, i < n * sz → Keeps Z (f i)) ∧
    s1.nt = s.nt ∧ SwS Z [(.grow u0 Z e sz n f, .val u0)] s.σ s1.σ ∧ SwH Z [(.grow u0 Z e sz n f, .val u0)] s.h s1.h ∧ K ⟨upd s1.σ t (.one (.own s1.h.length sz 0 n)), s1.h ++ [some ⟨e, n * sz, f⟩], s1.nt⟩ ∧ e < bigE
theorem take_ok {N : Nat} {t : Nat} {K : ASt → Prop} (hN : w0.heap.size = N) (sim : SimAt w0 S0 s φ a w) (h : takeK N t s K) : ∃ s' φ', K s' ∧ SimAt w0 S0 s' φ' a w := by
  obtain ⟨u0, Z, e, sz, n, f, s1, ht, hZ, hf, hnt, hσ, hh, hK, he⟩ := h
  obtain ⟨u, hu, hr⟩ := sim.slots t _ ht
  obtain ⟨hu0, hz, hr⟩ : Rd w (Stab w0 S0 s.h φ) (.grow u0 Z e sz n f) u := hr
  subst hu0
  have hlen : φ.length = s1.h.length := by rw [sim.heap.len, hh.len]
  -- the parts of a world that are read as before
  have gen : ∀ (x : Option (Nat × Nat)) (hx : ∀ b z, x = some (b, z) → Z b), ∀ b, Stab w0 S0 s.h φ b → ¬ Z b → Stab w0 S0 (s1.h ++ [some ⟨e, n * sz, f⟩]) (φ ++ [x]) b := fun x hx b hb hnz => by
    refine ⟨hb.1, fun hl => ?_⟩
    rcases (live_append hlen).1 hl with ⟨id, blk, z, hi, hp⟩ | ⟨id, blk, z, hi, hp⟩
    · obtain ⟨b0, h4, _⟩ := hh.get hi
      exact hb.2 ⟨id, b0, z, h4, hp⟩
    · have : id = 0 := by
        rcases Nat.eq_zero_or_pos id with h | h
        · exact h
        · rw [List.getElem?_eq_none (by simp; omega)] at hp; cases hp
      subst this
      have hp : x = some (b, z) := by simpa using hp
      exact hnz (hx b z hp)
  have main : ∀ (x : Option (Nat × Nat)) (hx : ∀ b z, x = some (b, z) → Z b),
      ((x = none ∧ n * sz = 0) ∨ ∃ b cur, x = some (b, cur.size) ∧ w0.heap.size ≤ b ∧ ¬ Live s.h φ b ∧ w.heap[b]? = some (.cells cur e (0, 0)) ∧ n * sz ≤ cur.size ∧ ∀ i, i < n * sz → ∃ y, cur[i]? = some y ∧ Rd w (Stab w0 S0 s.h φ) (f i) y) →
      RdS w (Stab w0 S0 (s1.h ++ [some ⟨e, n * sz, f⟩]) (φ ++ [x])) (φ ++ [x]) (.own s1.h.length sz 0 n) u → ∃ s' φ', K s' ∧ SimAt w0 S0 s' φ' a w := fun x hx hb hown => by
    have hst := gen x hx
    have step : ∀ (v v' : V) (y : Value), ZStep Z [(.grow u Z e sz n f, .val u)] v v' → Rd w (Stab w0 S0 s.h φ) v y → Rd w (Stab w0 S0 (s1.h ++ [some ⟨e, n * sz, f⟩]) (φ ++ [x])) v' y := fun v v' y hz hr => by
      rcases hz with ⟨hk, rfl⟩ | hz
      · exact Keeps.less hst v y hk hr
      · simp only [List.mem_singleton, Prod.mk.injEq] at hz
        obtain ⟨rfl, rfl⟩ := hz
        exact hr.1
    have hnew : ∀ {id : Nat} {blk : Blk}, (s1.h ++ [some ⟨e, n * sz, f⟩])[id]? = some (some blk) → (id < s1.h.length ∧ s1.h[id]? = some (some blk)) ∨ (id = s1.h.length ∧ blk = ⟨e, n * sz, f⟩) := fun {id blk} hi => by
      rcases Nat.lt_or_ge id s1.h.length with h | h
      · rw [List.getElem?_append_left h] at hi; exact .inl ⟨h, hi⟩
      · rw [List.getElem?_append_right h] at hi
        have h0 : id - s1.h.length = 0 := by
          rcases Nat.eq_zero_or_pos (id - s1.h.length) with h | h
          · exact h
          · rw [List.getElem?_eq_none (by simp; omega)] at hi; cases hi
        rw [h0] at hi
        simp at hi
        exact .inr ⟨by omega, hi.symm⟩
    refine ⟨_, φ ++ [x], hK, ⟨⟨by simp [hlen], sim.heap.below, fun id blk hi => ?_, fun i j bi bj b z z' hi hj hi' hj' => ?_⟩, fun t' v hv => ?_, sim.defers, by rw [sim.size, hnt]⟩⟩
    · rcases hnew hi with ⟨hlt, hi⟩ | ⟨rfl, rfl⟩
      · obtain ⟨b0, h4, h5, h6, h7⟩ := hh.get hi
        rcases sim.heap.blk id b0 h4 with ⟨h8, h9⟩ | ⟨b, cur, h8, h9, h10, h11, h12⟩
        · exact .inl ⟨by rw [List.getElem?_append_left (by omega)]; exact h8, by omega⟩
        · refine .inr ⟨b, cur, by rw [List.getElem?_append_left (by omega)]; exact h8, h9, by rw [← h5]; exact h10, by omega, fun i hi' => ?_⟩
          obtain ⟨y, hy, hr⟩ := h12 i (by omega)
          exact ⟨y, hy, step _ _ _ (h7 i hi') hr⟩
      · have hat : (φ ++ [x])[s1.h.length]? = some x := by rw [← hlen]; simp
        rcases hb with ⟨hx0, h0⟩ | ⟨b, cur, hx0, hB, hl, hcur, hle, hcells⟩
        · exact .inl ⟨by rw [hat, hx0], h0⟩
        · refine .inr ⟨b, cur, by rw [hat, hx0], hB, hcur, hle, fun i hi' => ?_⟩
          obtain ⟨y, hy, hr⟩ := hcells i hi'
          exact ⟨y, hy, Keeps.less hst _ _ (hf i hi') hr⟩
    · have hat : (φ ++ [x])[s1.h.length]? = some x := by rw [← hlen]; simp
      have old : ∀ {k : Nat} {bk : Blk} {zz : Nat}, k < s1.h.length → s1.h[k]? = some (some bk) → (φ ++ [x])[k]? = some (some (b, zz)) → Live s.h φ b ∧ φ[k]? = some (some (b, zz)) ∧ ∃ b0, s.h[k]? = some (some b0) := fun {k bk zz} h1 h2 h3 => by
        rw [List.getElem?_append_left (by omega)] at h3
        obtain ⟨b0, h4, _⟩ := hh.get h2
        exact ⟨⟨k, b0, _, h4, h3⟩, h3, b0, h4⟩
      have new : ∀ {zz : Nat}, (φ ++ [x])[s1.h.length]? = some (some (b, zz)) → ¬ Live s.h φ b := fun {zz} h => by
        rw [hat] at h
        injection h with h
        rcases hb with ⟨hx0, _⟩ | ⟨b', cur, hx0, _, hl, _⟩
        · rw [hx0] at h; cases h
        · rw [hx0] at h; injection h with h; injection h with h1 h2; rw [← h1]; exact hl
      rcases hnew hi with ⟨h1, h2⟩ | ⟨rfl, _⟩ <;> rcases hnew hj with ⟨h3, h4⟩ | ⟨rfl, _⟩
      · obtain ⟨_, q1, b1, q2⟩ := old h1 h2 hi'
        obtain ⟨_, q3, b2, q4⟩ := old h3 h4 hj'
        exact sim.heap.inj i j b1 b2 b z z' q2 q4 q1 q3
      · exact absurd (old h1 h2 hi').1 (new hj')
      · exact absurd (old h3 h4 hj').1 (new hi')
      · rfl
    · rw [lookup_upd] at hv
      split at hv
      · rename_i et; subst et; injection hv with hv; subst hv
        exact ⟨u, hu, hown⟩
      · obtain ⟨v0, h4, h5⟩ := hσ.get hv
        obtain ⟨y, hy, hr⟩ := sim.slots t' v0 h4
        refine ⟨y, hy, ?_⟩
        unfold SwSl at h5
        have hid : ∀ {i : Nat} {p : Nat × Nat}, φ[i]? = some (some p) → (φ ++ [x])[i]? = some (some p) := fun {i p} h => by rw [List.getElem?_append_left (List.getElem?_eq_some_iff.1 h).1]; exact h
        split at h5
        · exact step _ _ _ h5 hr
        · obtain ⟨rfl, rfl, rfl, rfl⟩ := h5
          rcases hr with ⟨q1, q2⟩ | ⟨b, c, z, q1, q2⟩
          · exact .inl ⟨by rw [List.getElem?_append_left (List.getElem?_eq_some_iff.1 q1).1]; exact q1, q2⟩
          · exact .inr ⟨b, c, z, hid q1, q2⟩
        · obtain ⟨rfl, rfl⟩ := h5
          obtain ⟨b, z, q1, q2⟩ := hr
          exact ⟨b, z, hid q1, q2⟩
        · exact h5.elim
  rcases hr with ⟨rfl, hn⟩ | ⟨b, c, cur, rfl, h2, h3, h4, h5, h6, h7⟩
  · exact main none (fun _ _ h => by cases h) (.inl ⟨rfl, by rw [hn]; omega⟩) (.inl ⟨by rw [← hlen]; simp, rfl, hn, rfl⟩)
  · have hle : n * sz ≤ cur.size := by rw [h6]; exact Nat.mul_le_mul_right _ h2
    exact main (some (b, cur.size)) (fun b' z h => by injection h with h; injection h with h1 h2; subst h1; exact h4) (.inr ⟨b, cur, rfl, by have := hZ b h4; omega, (hz b h4).1.2, h5.small he, hle, h7⟩)
      (.inr ⟨b, c, cur.size, by rw [← hlen]; simp, rfl, h2, h3, by omega⟩)
theorem AWP.take [Cx] {N : Nat} {c : Code} {Q : Exit → ASt → Prop} {s : ASt} (t : Nat) (h : takeK N t s (AWP N P c Q)) : AWP N P c Q s := by
  exact AWP.of_step fun w0 S0 φ a w hN sim => take_ok hN sim h
end
end Go.Proofs.Ytlomkebhopaliaa
namespace Go.Proofs.Ytlomkebhopaliaa
set_option linter.unusedSimpArgs false
set_option linter.unusedVariables false
open Go.RowKit
inductive Nx where
  | done
  | take (i : Nat) (t : Nx)
  | one (i : Nat) (t : Nx)
  | alt (i : Nat) (t u : Nx)
  | st (t : Nx)
def Nx.heads : Nx → List Nat
  | .one i _ => [i]
  | .alt i _ u => i :: u.heads
  | _ => []
def okNx (ops : Array Oper) : Bool → Nat → Array Bool → Nx → Bool
  | _, _, listed, .done => decide (Region.ready .any ops listed = [])
  | false, f + 1, listed, .take i t => (match ops[i]? with | some o => noCall o && noLoad o | none => false) && (Region.ready .any ops listed).contains i && Region.free .any ops listed i && okNx ops false f (listed.setIfInBounds i true) t
  | b, f + 1, listed, .one i t => (b || decide (Region.ready .any ops listed = [i])) && okNx ops false f (listed.setIfInBounds i true) t
  | b, f + 1, listed, .alt i t u => (b || decide (Region.ready .any ops listed = i :: u.heads)) && okNx ops false f (listed.setIfInBounds i true) t && okNx ops true (f + 1) listed u
  | false, f, listed, .st t => okNx ops false f listed t
  | _, _, _, _ => false
def OpAny [Cx] (N : Nat) (P : Program) (o : Oper) (K : ASt → Prop) (s : ASt) : Prop :=
  o.guard = none ∧ ∀ (w0 : World) (S0 : Nat → Prop) (φ : List (Option (Nat × Nat))) (a : Act) (w : World), w0.heap.size = N → SimAt w0 S0 s φ a w → ∀ (next : Act → World → Prop) (Q : Exit → Act → World → Prop),
    (∀ s' a' w', K s' → SimR w0 S0 s' a' w' → next a' w') → o.wp P a w next Q
def StK (N : Nat) (s : ASt) (K : ASt → Prop) : Prop :=
  ∀ (w0 : World) (S0 : Nat → Prop) (φ : List (Option (Nat × Nat))) (a : Act) (w : World), w0.heap.size = N → SimAt w0 S0 s φ a w → ∃ s' φ', K s' ∧ SimAt w0 S0 s' φ' a w
def evAx [Cx] (N : Nat) (P : Program) (ops : List Oper) (i : Nat) (K : ASt → Prop) (s : ASt) : Prop :=
  match ops[i]? with
  | some o => OpAny N P o K s
  | none => False
def evNx [Cx] (N : Nat) (P : Program) (ops : List Oper) (K : ASt → Prop) : Nx → ASt → Prop
  | .done, s => K s
  | .take i t, s => evAt P true ops i (evNx N P ops K t) s
  | .one i t, s => evAx N P ops i (evNx N P ops K t) s
  | .alt i t u, s => evAx N P ops i (evNx N P ops K t) s ∧ evNx N P ops K u s
  | .st t, s => StK N s (evNx N P ops K t)
section
variable {P : Program} {w0 : World} {S0 : Nat → Prop} {N : Nat}
def EndsR [Cx] (w0 : World) (S0 : Nat → Prop) (K : ASt → Prop) : Exit → Act → World → Prop := fun e a w => e = .normal ∧ ∃ s, K s ∧ SimR w0 S0 s a w
theorem evAx_ok [Cx] (hN : w0.heap.size = N) {ops : List Oper} {i : Nat} {K : ASt → Prop} {s : ASt} {φ : List (Option (Nat × Nat))} {a : Act} {w : World} (sim : SimAt w0 S0 s φ a w) (h : evAx N P ops i K s)
    {next : Act → World → Prop} {Q : Exit → Act → World → Prop} (hn : ∀ s' a' w', K s' → SimR w0 S0 s' a' w' → next a' w') : wpOp P ops.toArray Q i next a w := by
  unfold evAx at h
  split at h
  · rename_i o ho
    unfold wpOp
    rw [show ops.toArray[i]? = some o by simpa using ho]
    simp only []
    rw [if_pos (by simp [Region.wanted, h.1])]
    exact .inl (h.2 w0 S0 φ a w hN sim _ _ hn)
  · exact h.elim
theorem evNx_ok [Cx] {wb : World} {ops : List Oper} (hu : unguarded ops = true) (hs : Region.noSelect ops.toArray = true) {K : ASt → Prop} : ∀ (t : Nx) (b : Bool) (f : Nat) (listed : Array Bool) (w0 : World) (s : ASt) (φ : List (Option (Nat × Nat))) (a : Act) (w : World), w0.heap.size = N → Reb wb w0 →
    okNx ops.toArray b f listed t = true → SimAt w0 S0 s φ a w → evNx N P ops K t s →
    (b = false → wpAny P .any ops.toArray (EndsR wb S0 K) f listed a w) ∧
    (b = true → ∀ g, f = g + 1 → ∀ j ∈ t.heads, wpOp P ops.toArray (EndsR wb S0 K) j (fun a' w' => wpAny P .any ops.toArray (EndsR wb S0 K) g (listed.setIfInBounds j true) a' w') a w)
  | .done, b, f, listed, w0, s, φ, a, w, hN, hR, hB, sim, h => by
    refine ⟨fun _ => ?_, fun _ g _ j hj => by simp [Nx.heads] at hj⟩
    have hr : Region.ready .any ops.toArray listed = [] := by
      cases b <;> cases f <;> exact of_decide_eq_true hB
    exact wpAny_done hr ⟨rfl, s, h, w0, hR, φ, sim⟩ f
  | .st t, true, f, listed, w0, s, φ, a, w, hN, hR, hB, sim, h => by cases f <;> simp [okNx] at hB
  | .st t, false, f, listed, w0, s, φ, a, w, hN, hR, hB, sim, h => by
    refine ⟨fun _ => ?_, fun hb => by cases hb⟩
    have hB' : okNx ops.toArray false f listed t = true := by cases f <;> simpa [okNx] using hB
    obtain ⟨s', φ', hK, sim'⟩ := h w0 S0 φ a w hN sim
    exact (evNx_ok hu hs t false f listed w0 s' φ' a w hN hR hB' sim' hK).1 rfl
  | .take i t, true, f, listed, w0, s, φ, a, w, hN, hR, hB, sim, h => by cases f <;> simp [okNx] at hB
  | .take i t, false, 0, listed, w0, s, φ, a, w, hN, hR, hB, sim, h => by simp [okNx] at hB
  | .take i t, false, f + 1, listed, w0, s, φ, a, w, hN, hR, hB, sim, h => by
    refine ⟨fun _ => ?_, fun hb => by cases hb⟩
    simp only [okNx, Bool.and_eq_true] at hB
    obtain ⟨⟨⟨h1, hr⟩, hf⟩, hB⟩ := hB
    change evAt P true ops i (evNx N P ops K t) s at h
    unfold evAt at h
    split at h
    · rename_i o ho
      have ho' : ops.toArray[i]? = some o := by simpa using ho
      rw [ho'] at h1
      simp only [Bool.and_eq_true] at h1
      obtain ⟨s', v, hK, sim', hy⟩ := evOp_pure (ops := ops.toArray) sim (unguarded_get hu ho) h1.1 h1.2 h
      exact wpAny_take ho' hs hf hr (fun c a w hq => by cases hq.1) hy ((evNx_ok hu hs t false f _ w0 s' φ _ w hN hR hB sim' hK).1 rfl)
    · exact h.elim
  | .one i t, b, 0, listed, w0, s, φ, a, w, hN, hR, hB, sim, h => by cases b <;> simp [okNx] at hB
  | .one i t, b, f + 1, listed, w0, s, φ, a, w, hN, hR, hB, sim, h => by
    have hB' : (b || decide (Region.ready .any ops.toArray listed = [i])) = true ∧ okNx ops.toArray false f (listed.setIfInBounds i true) t = true := by
      cases b <;> simpa [okNx] using hB
    have hop : wpOp P ops.toArray (EndsR wb S0 K) i (fun a' w' => wpAny P .any ops.toArray (EndsR wb S0 K) f (listed.setIfInBounds i true) a' w') a w :=
      evAx_ok hN sim h fun s' a' w' hK ⟨w1, hR1, φ', sim'⟩ => (evNx_ok hu hs t false f _ w1 s' φ' a' w' (hR1.size.trans hN) (hR.trans hR1) hB'.2 sim' hK).1 rfl
    refine ⟨fun hb => ?_, fun _ g hg j hj => ?_⟩
    · subst hb
      have hr : Region.ready .any ops.toArray listed = [i] := by simpa using hB'.1
      refine wpAny_all hr (by simp) fun j hj => ?_
      obtain rfl : j = i := by simpa using hj
      exact hop
    · obtain rfl : f = g := by omega
      obtain rfl : j = i := by simpa [Nx.heads] using hj
      exact hop
  | .alt i t u, b, 0, listed, w0, s, φ, a, w, hN, hR, hB, sim, h => by cases b <;> simp [okNx] at hB
  | .alt i t u, b, f + 1, listed, w0, s, φ, a, w, hN, hR, hB, sim, h => by
    have hB' : ((b || decide (Region.ready .any ops.toArray listed = i :: u.heads)) = true ∧ okNx ops.toArray false f (listed.setIfInBounds i true) t = true) ∧ okNx ops.toArray true (f + 1) listed u = true := by
      cases b <;> simpa [okNx] using hB
    have hop : wpOp P ops.toArray (EndsR wb S0 K) i (fun a' w' => wpAny P .any ops.toArray (EndsR wb S0 K) f (listed.setIfInBounds i true) a' w') a w :=
      evAx_ok hN sim h.1 fun s' a' w' hK ⟨w1, hR1, φ', sim'⟩ => (evNx_ok hu hs t false f _ w1 s' φ' a' w' (hR1.size.trans hN) (hR.trans hR1) hB'.1.2 sim' hK).1 rfl
    have hoth := (evNx_ok hu hs u true (f + 1) listed w0 s φ a w hN hR hB'.2 sim h.2).2 rfl f rfl
    refine ⟨fun hb => ?_, fun _ g hg j hj => ?_⟩
    · subst hb
      have hr : Region.ready .any ops.toArray listed = i :: u.heads := by simpa using hB'.1.1
      refine wpAny_all hr (by simp) fun j hj => ?_
      rcases List.mem_cons.1 hj with rfl | hj
      · exact hop
      · exact hoth j hj
    · obtain rfl : f = g := by omega
      rcases List.mem_cons.1 (show j ∈ i :: u.heads from hj) with rfl | hj
      · exact hop
      · exact hoth j hj
theorem AWP.drawn_nx [Cx] {id : Nat} {ops : List Oper} {Q : Exit → ASt → Prop} {s : ASt} (t : Nx) (hm : P.follows .mixedOrders = true)
    (hB : (unguarded ops && Region.noSelect ops.toArray && okNx ops.toArray false ops.toArray.size (Array.replicate ops.toArray.size false) t) = true)
    (h : evNx N P ops (Q .normal) t s) : AWP N P (.region id ops.toArray true) Q s := by
  simp only [Bool.and_eq_true] at hB
  rintro wb S0 a w hN ⟨w0, hR, φ, sim⟩
  have sim1 : SimAt w0 S0 s φ a { w with drawn := w.drawn + 1 } := sim.after ⟨rfl, rfl, rfl, Nat.le_refl _, fun _ _ => rfl⟩
  have := wp_region_any (P := P) (id := id) hm ((evNx_ok hB.1.1 hB.1.2 t false _ _ w0 s φ a _ (hR.size.trans hN) hR hB.2 sim1 h).1 rfl)
  refine wp_mono this fun e a' w' ⟨he, s', hK, hsim⟩ => ?_
  subst he
  exact ⟨s', hK, hsim⟩
/-! ### A region in its own order -/
inductive Sx where
  | op
  | st
def evSx [Cx] (N : Nat) (P : Program) (K : ASt → Prop) : List Sx → List Oper → ASt → Prop
  | [], [], s => K s
  | .st :: xs, os, s => StK N s (evSx N P K xs os)
  | .op :: xs, o :: os, s => OpAny N P o (evSx N P K xs os) s
  | _, _, _ => False
theorem evSx_ok [Cx] {wb : World} {l : List Oper} {K : ASt → Prop} : ∀ (xs : List Sx) (os : List Oper) (w0 : World) (s : ASt) (φ : List (Option (Nat × Nat))) (a : Act) (w : World), w0.heap.size = N → Reb wb w0 → SimAt w0 S0 s φ a w → evSx N P K xs os s → wpList P l.toArray (EndsR wb S0 K) os a w
  | [], [], w0, s, φ, a, w, hN, hR, sim, h => wpList_nil ⟨rfl, s, h, w0, hR, φ, sim⟩
  | [], _ :: _, w0, s, φ, a, w, hN, hR, sim, h => h.elim
  | .st :: xs, os, w0, s, φ, a, w, hN, hR, sim, h => by
    have h : StK N s (evSx N P K xs os) := by cases os <;> exact h
    obtain ⟨s', φ', hK, sim'⟩ := h w0 S0 φ a w hN sim
    exact evSx_ok xs os w0 s' φ' a w hN hR sim' hK
  | .op :: xs, [], w0, s, φ, a, w, hN, hR, sim, h => h.elim
  | .op :: xs, o :: os, w0, s, φ, a, w, hN, hR, sim, h => by
    obtain ⟨hg, h⟩ : OpAny N P o (evSx N P K xs os) s := h
    exact wpList_plain hg fun K1 hK1 => h w0 S0 φ a w hN sim _ _ fun s' a' w' hK ⟨w1, hR1, φ', sim'⟩ => hK1 _ _ (evSx_ok xs os w1 s' φ' a' w' (hR1.size.trans hN) (hR.trans hR1) sim' hK)
theorem AWP.region_sx [Cx] {id : Nat} {ops : List Oper} {Q : Exit → ASt → Prop} {s : ASt} (xs : List Sx) (h : evSx N P (Q .normal) xs ops s) : AWP N P (.region id ops.toArray false) Q s := by
  rintro wb S0 a w hN ⟨w0, hR, φ, sim⟩
  refine wp_mono (wp_region_lit (evSx_ok xs ops w0 s φ a w (hR.size.trans hN) hR sim h)) fun e a' w' ⟨he, s', hK, hsim⟩ => ?_
  subst he
  exact ⟨s', hK, hsim⟩
/-! ### Steps -/
def Ax [Cx] (N : Nat) (P : Program) (K : ASt → Prop) (o : Oper) (s : ASt) : Prop := OpAny N P o K s
theorem nx_done [Cx] {ops : List Oper} {K : ASt → Prop} {s : ASt} (h : K s) : evNx N P ops K .done s := h
theorem nx_take [Cx] {ops : List Oper} {K : ASt → Prop} {k : Nat} {t : Nx} {s : ASt} {o : Oper} (ho : ops[k]? = some o) (h : ∀ K' : ASt → Prop, (∀ s', evNx N P ops K t s' → K' s') → evOp P true o K' s) : evNx N P ops K (.take k t) s := by
  show evAt P true ops k _ s
  unfold evAt; rw [ho]; exact h _ fun _ h => h
theorem nx_one [Cx] {ops : List Oper} {K : ASt → Prop} {k : Nat} {t : Nx} {s : ASt} {o : Oper} (ho : ops[k]? = some o) (h : Ax N P (evNx N P ops K t) o s) : evNx N P ops K (.one k t) s := by
  show evAx N P ops k _ s
  unfold evAx; rw [ho]; exact h
theorem nx_alt [Cx] {ops : List Oper} {K : ASt → Prop} {k : Nat} {t u : Nx} {s : ASt} {o : Oper} (ho : ops[k]? = some o) (h : Ax N P (evNx N P ops K t) o s) (h' : evNx N P ops K u s) : evNx N P ops K (.alt k t u) s := by
  refine ⟨?_, h'⟩
  unfold evAx; rw [ho]; exact h
theorem nx_st [Cx] {ops : List Oper} {K : ASt → Prop} {t : Nx} {s : ASt} (h : StK N s (evNx N P ops K t)) : evNx N P ops K (.st t) s := h
theorem sx_done [Cx] {K : ASt → Prop} {s : ASt} (h : K s) : evSx N P K [] [] s := h
theorem sx_st [Cx] {K : ASt → Prop} {xs : List Sx} {os : List Oper} {s : ASt} (h : StK N s (evSx N P K xs os)) : evSx N P K (.st :: xs) os s := by cases os <;> exact h
theorem sx_op [Cx] {K : ASt → Prop} {xs : List Sx} {o : Oper} {os : List Oper} {s : ASt} (h : Ax N P (evSx N P K xs os) o s) : evSx N P K (.op :: xs) (o :: os) s := h
theorem ax_op [Cx] {K : ASt → Prop} {o : Oper} {s : ASt} (hg : o.guard = none) (h : ∀ K' : ASt → Prop, (∀ s', K s' → K' s') → evOp P false o K' s) : Ax N P K o s :=
  ⟨hg, fun w0 S0 φ a w hN sim next Q hn => evOp_plain sim (h _ fun _ h => h) fun s' a' w' hK hs => hn s' a' w' hK hs.R⟩
theorem ax_rule [Cx] {K : ASt → Prop} {o : Oper} {s : ASt} {X : ASt → (ASt → Prop) → Prop} (hX : OpRule N P o X) (h : X s K) : Ax N P K o s :=
  ⟨hX.1, fun w0 S0 φ a w hN sim next Q hn => hX.2 w0 S0 s φ a w K next Q hN sim h fun s' a' w' hK hs => hn s' a' w' hK hs.R⟩
theorem ax_callE [Cx] {K : ASt → Prop} {f : FuncId} {args : Array Operand} {d ty : Nat} {ts : Array TypeId} {pos : String} {after : Array Edge} {s : ASt} (h : callEK N P f args.toList d s K) :
    Ax N P K ⟨some d, .call ⟨.value (.func f), args, ts⟩, ty, pos, after, none⟩ s := ax_rule callE_rule h
theorem stk_letRow {s : ASt} {K : ASt → Prop} {t : Nat} (h : letRowK N t s K) : StK N s K := fun w0 S0 φ a w hN sim => by
  obtain ⟨s', h1, h2⟩ := letRow_ok hN sim h; exact ⟨s', φ, h1, h2⟩
end
end Go.Proofs.Ytlomkebhopaliaa
namespace Go.Proofs.Ytlomkebhopaliaa
set_option linter.unusedSimpArgs false
set_option linter.unusedVariables false
open Go.RowKit
def Later (p : Prop) : Prop := p
section
variable {P : Program}
end
end Go.Proofs.Ytlomkebhopaliaa
namespace Go.Proofs.Ytlomkebhopaliaa
set_option linter.unusedSimpArgs false
set_option linter.unusedVariables false
open Go.RowKit
def isB (b : Nat) : Nat → Prop := fun j => j = b
theorem disj_cut {N b : Nat} : Disj (fun j => j < N ∧ j ≠ b) (isB b) := fun j h1 h2 => h1.2 h2
theorem disj_lt {N b : Nat} (h : N ≤ b) : Disj (fun j => j < N) (isB b) := fun j h1 h2 => by have h1 : j < N := h1; have h2 : j = b := h2; omega
structure RebB (b : Nat) (w w1 : World) : Prop where
  os : w1.os = w.os
  tape : w1.tape = w.tape
  output : w1.output = w.output
  size : w1.heap.size = w.heap.size
  oth : ∀ j, j ≠ b → w1.heap[j]? = w.heap[j]?
structure FnC (P : Program) (f : FuncId) (b k k' : Nat) (Z : Nat → Prop) (c : V) (vs : List V) (R : Res → Prop) : Prop where
  entry : ∀ (args : Array Value) (w : World), (callFunc f args).run P w = .ok (.enter f args) w
  runs : ∀ (w : World) (u : Value) (us : List Value), Rd w (fun _ => True) (.cur b k Z c) u → RdL w (fun j => j ≠ b) vs us → Calls P f (u :: us).toArray w fun e w' =>
    ∃ w1 r x φ, RebB b w w1 ∧ Rd w1 (fun _ => True) (.cur b k' Z c) u ∧ R r ∧ NewL (fun Z => ∀ j, Z j → w.heap.size ≤ j) r.list ∧ e = .returned x ∧ Heap w1 (fun _ => True) (bring r.list []).2 φ w' ∧ RdSlot w' (Stab w1 (fun _ => True) (bring r.list []).2 φ) φ (r.slot (bring r.list []).1) x
theorem FnC.weaken {P : Program} {f : FuncId} {b k k' : Nat} {Z : Nat → Prop} {c : V} {vs : List V} {R R' : Res → Prop} (h : FnC P f b k k' Z c vs R) (hR : ∀ r, R r → R' r) : FnC P f b k k' Z c vs R' :=
  ⟨h.entry, fun w u us hu hus => (h.runs w u us hu hus).mono fun e w' ⟨w1, r, x, φ, h1, h2, h3, h4⟩ => ⟨w1, r, x, φ, h1, h2, hR r h3, h4⟩⟩
/-! ### The state behind such a call -/
def okSl (b k : Nat) (Z : Nat → Prop) (c : V) : Slot → Prop
  | .one (.pv (.cur b0 k0 Z0 c0)) => b0 = b ∧ k0 = k ∧ Z0 = Z ∧ c0 = c
  | .one (.pv (.old Z0 _)) => Disj Z0 (isB b)
  | .one (.pv (.row _ Z0 sz n f)) => Disj Z0 (isB b) ∧ ∀ i, i < n * sz → Keeps (isB b) (f i)
  | .one (.pv (.grow _ Z0 _ sz n f)) => Disj Z0 (isB b) ∧ ∀ i, i < n * sz → Keeps (isB b) (f i)
  | .one (.pv (.agg n f)) => ∀ i, i < n → Keeps (isB b) (f i)
  | _ => True
def swSl (k' : Nat) : Slot → Option Slot
  | .one (.pv (.cur b0 _ Z0 c0)) => some (.one (.pv (.cur b0 k' Z0 c0)))
  | .one (.pv (.val v)) => some (.one (.pv (.val v)))
  | .one (.pv (.old Z v)) => some (.one (.pv (.old Z v)))
  | .one (.pv (.row u Z sz n f)) => some (.one (.pv (.row u Z sz n f)))
  | .one (.pv (.grow u Z e sz n f)) => some (.one (.pv (.grow u Z e sz n f)))
  | .one (.pv (.agg n f)) => some (.one (.pv (.agg n f)))
  | .one (.own i sz off len) => some (.one (.own i sz off len))
  | .one (.ptr i off) => some (.one (.ptr i off))
  | _ => none
def swpS (k' : Nat) : List (Nat × Slot) → List (Nat × Slot)
  | [] => []
  | (t, v) :: r => match swSl k' v with
    | some v' => (t, v') :: swpS k' r
    | none => swpS k' r
def okS (b k : Nat) (Z : Nat → Prop) (c : V) : List (Nat × Slot) → Prop
  | [] => True
  | (_, v) :: r => okSl b k Z c v ∧ okS b k Z c r
def okH (b : Nat) : List (Option Blk) → Prop
  | [] => True
  | none :: r => okH b r
  | some x :: r => (∀ i, i < x.n → Keeps (isB b) (x.f i)) ∧ okH b r
def keysB : List (Nat × Slot) → Bool
  | [] => true
  | (t, _) :: r => r.all (fun p => p.1 != t) && keysB r
theorem lookup_none {σ : List (Nat × Slot)} {t : Nat} (h : σ.all (fun p => p.1 != t) = true) : lookup σ t = none := by
  induction σ with
  | nil => rfl
  | cons x r ih =>
    obtain ⟨k, v⟩ := x
    simp only [List.all_cons, Bool.and_eq_true, bne_iff_ne] at h
    simp only [lookup]
    rw [if_neg h.1]; exact ih h.2
theorem swp_keys {k' : Nat} {t : Nat} : ∀ {σ : List (Nat × Slot)}, σ.all (fun p => p.1 != t) = true → (swpS k' σ).all (fun p => p.1 != t) = true
  | [], _ => rfl
  | (i, v) :: r, h => by
    simp only [List.all_cons, Bool.and_eq_true] at h
    unfold swpS
    split
    · simp only [List.all_cons, Bool.and_eq_true]; exact ⟨h.1, swp_keys h.2⟩
    · exact swp_keys h.2
theorem swp_get {k' : Nat} {t : Nat} {v' : Slot} : ∀ {σ : List (Nat × Slot)}, keysB σ = true → lookup (swpS k' σ) t = some v' → ∃ v, lookup σ t = some v ∧ swSl k' v = some v'
  | [], _, h => by cases h
  | (i, v) :: r, hk, h => by
    simp only [keysB, Bool.and_eq_true] at hk
    simp only [lookup]
    unfold swpS at h
    by_cases e : i = t
    · subst e
      rw [if_pos rfl]
      split at h
      · rename_i v1 hv
        simp only [lookup, if_pos] at h
        exact ⟨v, rfl, by rw [hv]; exact h⟩
      · rw [lookup_none (swp_keys hk.1)] at h; cases h
    · rw [if_neg e]
      split at h
      · simp only [lookup] at h
        rw [if_neg e] at h
        exact swp_get hk.2 h
      · exact swp_get hk.2 h
theorem okS_get {b k : Nat} {Z : Nat → Prop} {c : V} {t : Nat} {v : Slot} : ∀ {σ : List (Nat × Slot)}, okS b k Z c σ → lookup σ t = some v → okSl b k Z c v
  | [], _, h => by cases h
  | (i, x) :: r, ho, h => by
    simp only [lookup] at h
    split at h
    · injection h with h; subst h; exact ho.1
    · exact okS_get ho.2 h
theorem okH_get {b : Nat} {x : Blk} : ∀ {h : List (Option Blk)} {id : Nat}, okH b h → h[id]? = some (some x) → ∀ i, i < x.n → Keeps (isB b) (x.f i)
  | [], id, _, hi => by simp at hi
  | none :: r, 0, _, hi => by simp at hi
  | none :: r, id + 1, ho, hi => okH_get (h := r) ho (by simpa using hi)
  | some y :: r, 0, ho, hi => by simp at hi; subst hi; exact ho.1
  | some y :: r, id + 1, ho, hi => okH_get (h := r) ho.2 (by simpa using hi)
section
variable {P : Program} {w0 : World} {S0 : Nat → Prop} {s : ASt} {φ : List (Option (Nat × Nat))} {a : Act} {w : World}
theorem only_of_reb {b : Nat} {w w1 : World} (h : RebB b w w1) (hw : Wr w1 b) : OnlyIn (isB b) w w1 :=
  ⟨h.os, h.tape, h.output, by rw [h.size]; exact Nat.le_refl _, fun j _ hj => h.oth j hj, fun j ⟨cur, e, hj⟩ => by
    by_cases e2 : j = b
    · subst e2; exact hw
    · exact ⟨cur, e, hj.congr (h.oth j e2)⟩⟩
theorem SimAt.moved [Cx] {N b k k' : Nat} {Z : Nat → Prop} {c : V} {w1 : World} {u0 : Value} (hN : w0.heap.size = N) (sim : SimAt w0 S0 s φ a w) (hcu : Rd w (Stab w0 S0 s.h φ) (.cur b k Z c) u0) (hst : Stab w0 S0 s.h φ b) (hX : Cx.X b ∨ N ≤ b) (hR : RebB b w w1) {u : Value} (hcur : Rd w1 (fun _ => True) (.cur b k' Z c) u)
    (hk : keysB s.σ = true) (hσ : okS b k Z c s.σ) (hh : okH b s.h) : ∃ w0', Reb w0 w0' ∧ SimAt w0' S0 ⟨swpS k' s.σ, s.h, s.nt⟩ φ a w1 := by
  obtain ⟨hu, _, hz, cur, cv, p, q, e, hc, h3, hp, hq, hr⟩ := hcur
  have hw : Wr w1 b := ⟨cur, e, .inl hc⟩
  have ho := only_of_reb hR hw
  have hsz0 := sim.heap.below.size
  have hlt : b < w1.heap.size := block_lt hc
  obtain ⟨w0', hw0'⟩ : ∃ w0' : World, w0' = { w0 with heap := w0.heap.setIfInBounds b (.cells cur e (0, 0)) } := ⟨_, rfl⟩
  have hs : w0'.heap.size = w0.heap.size := by rw [hw0']; simp
  have hoth : ∀ j, j ≠ b → w0'.heap[j]? = w0.heap[j]? := fun j hj => by rw [hw0']; exact Array.getElem?_setIfInBounds_ne (fun h => hj h.symm)
  have hb0 : b < w0.heap.size → w0'.heap[b]? = some (.cells cur e (0, 0)) := fun h => by rw [hw0']; simp [h]
  have hstab : ∀ j, Stab w0 S0 s.h φ j → Stab w0' S0 s.h φ j := fun j hj => ⟨by rw [hs]; exact hj.1, hj.2⟩
  have keep : ∀ (v : V) (x : Value), Keeps (isB b) v → Rd w (Stab w0 S0 s.h φ) v x → Rd w1 (Stab w0' S0 s.h φ) v x := fun v x hv hx =>
    Rd.mono (S := Stab w0 S0 s.h φ) (fun j hj _ => ⟨hstab j hj, rfl⟩) _ _ (Keeps.rd ho v x hv hx)
  have hgl : Gl w0' := by
    obtain ⟨_, _, _, cur0, cv0, p0, q0, e0, hc0, h30, _⟩ := hcu
    exact Gl.other sim.defers.2 (fun h => by rw [← sim.heap.below.block b h]; exact hc0) h30.2.1 hoth
  refine ⟨w0', ⟨by rw [hw0'], by rw [hw0'], by rw [hw0'], by rw [hw0'], hs, fun j hj => ?_⟩, ⟨sim.heap.len, ⟨?_, ?_, ?_, ?_, fun j hj => ?_⟩, fun id blk hi => ?_, sim.heap.inj⟩, fun t v ht => ?_, ⟨sim.defers.1, hgl⟩, sim.size⟩
  · by_cases ej : j = b
    · subst ej
      have : N ≤ j := hX.resolve_left hj
      rw [Array.getElem?_eq_none (by omega), Array.getElem?_eq_none (by omega)]
    · exact hoth j ej
  · rw [hR.os, sim.heap.below.os, hw0']
  · rw [hR.tape, sim.heap.below.tape, hw0']
  · rw [hR.output, sim.heap.below.output, hw0']
  · rw [hR.size, hs]; exact hsz0
  · rw [hs] at hj
    by_cases ej : j = b
    · subst ej; rw [hc, hb0 hj]
    · rw [hR.oth j ej, hoth j ej]; exact sim.heap.below.block j hj
  · rcases sim.heap.blk id blk hi with h1 | ⟨b1, cu, h1, h2, h4, h5, h6⟩
    · exact .inl h1
    · have hne : b1 ≠ b := fun e1 => hst.2 ⟨id, blk, _, hi, e1 ▸ h1⟩
      refine .inr ⟨b1, cu, h1, by rw [hs]; exact h2, by rw [hR.oth b1 hne]; exact h4, h5, fun i hi' => ?_⟩
      obtain ⟨x, hx, hrx⟩ := h6 i hi'
      exact ⟨x, hx, keep _ _ (okH_get hh hi i hi') hrx⟩
  · obtain ⟨v0, h1, h2⟩ := swp_get hk ht
    have h4 := okS_get hσ h1
    obtain ⟨x, hx, hrx⟩ := sim.slots t v0 h1
    refine ⟨x, hx, ?_⟩
    unfold swSl at h2
    split at h2 <;> first | (injection h2 with h2; subst h2) | (cases h2)
    · obtain ⟨rfl, rfl, rfl, rfl⟩ := h4
      obtain ⟨g1, g2, g3, _⟩ := hrx
      refine ⟨g1, hstab _ g2, fun j hj => ⟨hstab j (g3 j hj).1, (hz j hj).2⟩, cur, cv, p, q, e, hc, h3, hp, hq, hr⟩
    · exact hrx
    · exact keep _ _ h4 hrx
    · exact keep _ _ h4 hrx
    · exact keep _ _ h4 hrx
    · exact keep _ _ h4 hrx
    · exact hrx
    · exact hrx
/-! ### Arguments beside the cursor -/
def argsC (b : Nat) (s : ASt) : List Operand → List V → (List V → Prop) → Prop
  | [], vs, K => K vs.reverse
  | x :: xs, vs, K =>
    match opd s x with
    | some (.one (.pv v)) => Keeps (isB b) v ∧ argsC b s xs (v :: vs) K
    | some (.one (.own id sz off len)) =>
      match s.h[id]? with
      | some (some blk) => off + len * sz ≤ blk.n ∧ argsC b s xs (.seq sz len (fun i => blk.f (off + i)) :: vs) K
      | _ => False
    | _ => False
theorem own_seqC {b : Nat} (sim : SimAt w0 S0 s φ a w) (hst : Stab w0 S0 s.h φ b) (hh : okH b s.h) {id sz off len : Nat} {blk : Blk} {u : Value} (hb : s.h[id]? = some (some blk)) (hl : off + len * sz ≤ blk.n)
    (h : RdS w (Stab w0 S0 s.h φ) φ (.own id sz off len) u) : Rd w (fun j => j ≠ b) (.seq sz len fun i => blk.f (off + i)) u := by
  rcases h with ⟨_, rfl, rfl, rfl⟩ | ⟨b', c, z, hφ, rfl, hc, _, _⟩
  · exact ⟨none, 0, rfl, Nat.le_refl _, fun h => by simp at h⟩
  · obtain ⟨cur, _, _, hcur, hn, hx⟩ := sim.blkAt hb hφ
    have hne : b' ≠ b := fun e => hst.2 ⟨id, blk, z, hb, e ▸ hφ⟩
    refine ⟨_, c, rfl, hc, fun hp => ⟨b', off, rfl, hne, fun i hi => ?_⟩⟩
    obtain ⟨x, hx1, hx2⟩ := hx (off + i) (by omega)
    exact ⟨x, cell_of_blk hcur hx1, Keeps.less (fun j _ hj => hj) _ _ (okH_get hh hb _ (by omega)) hx2⟩
theorem argsC_ok {b : Nat} (sim : SimAt w0 S0 s φ a w) (hst : Stab w0 S0 s.h φ b) (hh : okH b s.h) {K : List V → Prop} : ∀ (xs : List Operand) (vs : List V) (us : List Value), argsC b s xs vs K →
    RdL w (fun j => j ≠ b) vs.reverse us.reverse → ∃ vs', K vs' ∧ RdL w (fun j => j ≠ b) vs' (us.reverse ++ xs.map a.eval)
  | [], vs, us, h, h1 => ⟨_, h, by simpa using h1⟩
  | x :: xs, vs, us, h, h1 => by
    unfold argsC at h
    split at h
    · rename_i v hv
      have hr := Keeps.less (S' := fun j => j ≠ b) (fun j _ hj => hj) _ _ h.1 (sim.opd hv)
      obtain ⟨vs', hK, h3⟩ := argsC_ok sim hst hh xs (v :: vs) (a.eval x :: us) h.2 (by rw [List.reverse_cons, List.reverse_cons]; exact RdL.append _ _ _ _ h1 hr)
      exact ⟨vs', hK, by simpa using h3⟩
    · rename_i id sz off len hv
      split at h
      · rename_i blk hb
        have hr := own_seqC sim hst hh hb h.1 (sim.opd hv)
        obtain ⟨vs', hK, h3⟩ := argsC_ok sim hst hh xs (_ :: vs) (a.eval x :: us) h.2 (by rw [List.reverse_cons, List.reverse_cons]; exact RdL.append _ _ _ _ h1 hr)
        exact ⟨vs', hK, by simpa using h3⟩
      · exact h.elim
    · exact h.elim
def callCK [Cx] (N : Nat) (P : Program) (f : FuncId) (args : List Operand) (d : Nat) (s : ASt) (K : ASt → Prop) : Prop :=
  match args with
  | [] => False
  | x :: xs =>
    match opd s x with
    | some (.one (.pv (.cur b k Z c))) => keysB s.σ = true ∧ okS b k Z c s.σ ∧ okH b s.h ∧ (Cx.X b ∨ N ≤ b) ∧ d < s.nt ∧ argsC b s xs [] fun vs => ∃ (k' : Nat) (R : Res → Prop), FnC P f b k k' Z c vs R ∧
        ∀ r, R r → NewL (fun Z => (∀ j, Z j → N ≤ j ∧ j ≠ b) ∧ ∀ Z', ZSt Z' ⟨swpS k' s.σ, s.h, s.nt⟩ → Disj Z' Z) r.list → K (bringIn ⟨swpS k' s.σ, s.h, s.nt⟩ d r)
    | _ => False
variable {N : Nat}
theorem callC_go [Cx] {f : FuncId} {x : Operand} {xs : List Operand} {d b k : Nat} {Z : Nat → Prop} {c : V} {vs : List V} {K : ASt → Prop} (hx : opd s x = some (.one (.pv (.cur b k Z c)))) (hk : keysB s.σ = true) (hd : Nat.ble (d + 1) s.nt = true) (hX : Cx.X b ∨ N ≤ b)
    (hσ : okS b k Z c s.σ) (hh : okH b s.h) (ha : ∀ K' : List V → Prop, K' vs → argsC b s xs [] K')
    (h : ∃ (k' : Nat) (R : Res → Prop), FnC P f b k k' Z c vs R ∧ ∀ r, R r → NewL (fun Z => (∀ j, Z j → N ≤ j ∧ j ≠ b) ∧ ∀ Z', ZSt Z' ⟨swpS k' s.σ, s.h, s.nt⟩ → Disj Z' Z) r.list → K (bringIn ⟨swpS k' s.σ, s.h, s.nt⟩ d r)) : callCK N P f (x :: xs) d s K := by
  show (match opd s x with | some (.one (.pv (.cur b k Z c))) => _ | _ => False)
  rw [hx]
  exact ⟨hk, hσ, hh, hX, Nat.le_of_ble_eq_true hd, ha _ h⟩
def OpA [Cx] (N : Nat) (P : Program) (K : ASt → Prop) (o : Oper) (s : ASt) : Prop :=
  ∀ (w0 : World) (S0 : Nat → Prop) (φ : List (Option (Nat × Nat))) (a : Act) (w : World), w0.heap.size = N → SimAt w0 S0 s φ a w → ∀ (next : Act → World → Prop) (Q : Exit → Act → World → Prop),
    (∀ s' a' w', K s' → SimR w0 S0 s' a' w' → next a' w') → o.wp P a w next Q
theorem axg_op [Cx] {K : ASt → Prop} {o : Oper} {s : ASt} (h : ∀ K' : ASt → Prop, (∀ s', K s' → K' s') → evOp P false o K' s) : OpA N P K o s :=
  fun w0 S0 φ a w hN sim next Q hn => evOp_plain sim (h _ fun _ h => h) fun s' a' w' hK hs => hn s' a' w' hK hs.R
theorem axg_rule [Cx] {K : ASt → Prop} {o : Oper} {s : ASt} (h : Ax N P K o s) : OpA N P K o s := h.2
theorem axg_callC [Cx] {K : ASt → Prop} {f : FuncId} {args : Array Operand} {d ty : Nat} {ts : Array TypeId} {pos : String} {after : Array Edge} {gd : Option (Nat × Bool)} (h : callCK N P f args.toList d s K) : OpA N P K ⟨some d, .call ⟨.value (.func f), args, ts⟩, ty, pos, after, gd⟩ s := by
  refine fun w0 S0 φ a w hN sim next Q hn => ?_
  unfold callCK at h
  split at h
  · exact h.elim
  · rename_i x xs hargs
    split at h
    · rename_i b k Z c hx
      obtain ⟨hk, hσ, hh, hX, hd, ha⟩ := h
      have hcu := sim.opd hx
      have hst : Stab w0 S0 s.h φ b := hcu.2.1
      have hblt : b < w.heap.size := by obtain ⟨_, _, _, cur, cv, p, q, e, hc, _⟩ := hcu; exact block_lt hc
      obtain ⟨vs, ⟨k', R, hf, hK⟩, hrl⟩ := argsC_ok sim hst hh xs [] [] ha sim.gl
      simp only [List.reverse_nil, List.nil_append] at hrl
      have hrun : (execOp a.eval ⟨some d, .call ⟨.value (.func f), args, ts⟩, ty, pos, after, gd⟩).run P w = .ok (.enter f (a.eval x :: xs.map a.eval).toArray) w := by
        have e : execOp a.eval ⟨some d, .call ⟨.value (.func f), args, ts⟩, ty, pos, after, gd⟩ = callFunc f (#[] ++ args.map a.eval ++ #[]) := rfl
        rw [e, hf.1]
        congr 2
        rw [← Array.toList_inj]
        simp [hargs]
      unfold Oper.wp
      rw [hrun, Oper.upon_enter]
      have hcu' : Rd w (fun _ => True) (.cur b k Z c) (a.eval x) := Rd.mono (fun j _ _ => ⟨trivial, rfl⟩) _ _ hcu
      refine (hf.2 w _ _ hcu' hrl).mono ?_
      rintro e w' ⟨w1, r, u, ψ, hR, hcur, hr, hnew, rfl, hheap, hs⟩
      obtain ⟨w0', hR0, sim1⟩ := sim.moved hN hcu hst hX hR hcur hk hσ hh
      have hw := sim1.heap.below.size
      have hsz := hR.size
      have hs0 := hR0.size
      refine hn _ _ _ (hK r hr (NewL.mono (fun Z1 hZ => ⟨fun j hj => ⟨by have := hZ j hj; omega, fun e => by have := hZ j hj; omega⟩, fun Z' hZ' j hj hj' => ?_⟩) _ hnew)) ⟨w0', hR0, _, sim1.call_new hd (NewL.mono (fun Z1 hZ j hj => by rw [hsz]; exact hZ j hj) _ hnew) hheap hs⟩
      have h1 := (hZ'.there sim1 j hj).2
      have h2 := hZ j hj'
      omega
    · exact h.elim
theorem ax_callC [Cx] {K : ASt → Prop} {f : FuncId} {args : Array Operand} {d ty : Nat} {ts : Array TypeId} {pos : String} {after : Array Edge} (h : callCK N P f args.toList d s K) : Ax N P K ⟨some d, .call ⟨.value (.func f), args, ts⟩, ty, pos, after, none⟩ s := ⟨rfl, axg_callC h⟩
/-! ### A region in its own order, guards and all -/
def evGx [Cx] (N : Nat) (P : Program) (l : List Oper) : List Oper → (ASt → Prop) → ASt → Prop
  | [], K, s => K s
  | o :: os, K, s =>
    match o.guard with
    | none => OpA N P (evGx N P l os K) o s
    | some (j, want) =>
      match (l[j]?).bind (·.dst) with
      | some d =>
        match lookup s.σ d with
        | some (.one (.pv (.val (.bool b)))) =>
          (b = want → OpA N P (evGx N P l os K) o (putS s d (sc (.bool want)))) ∧
          (b = !want → skipOp o (evGx N P l os K) (putS s d (sc (.bool (!want)))))
        | some (.one (.pv (.val (.tuple _)))) => skipOp o (evGx N P l os K) s
        | _ => False
      | none => False
theorem gx_nil [Cx] {l : List Oper} {K : ASt → Prop} (h : K s) : evGx N P l [] K s := h
theorem gx_step [Cx] {l os : List Oper} {o : Oper} {K : ASt → Prop} (hg : o.guard = none) (h : OpA N P (evGx N P l os K) o s) : evGx N P l (o :: os) K s := by
  unfold evGx; rw [hg]; exact h
theorem gx_undef [Cx] {l os : List Oper} {o : Oper} {K : ASt → Prop} {j d : Nat} {want : Bool} {us : Array Value} (hg : o.guard = some (j, want)) (hd : (l[j]?).bind (·.dst) = some d) (hb : lookup s.σ d = some (sc (.tuple us))) (h : skipOp o (evGx N P l os K) s) : evGx N P l (o :: os) K s := by
  unfold evGx; rw [hg]; simp only []; rw [hd]; simp only []; rw [hb]; exact h
theorem gx_guard [Cx] {l os : List Oper} {o : Oper} {K : ASt → Prop} {j d : Nat} {want b : Bool} (hg : o.guard = some (j, want)) (hd : (l[j]?).bind (·.dst) = some d) (hb : lookup s.σ d = some (sc (.bool b)))
    (h1 : b = want → OpA N P (evGx N P l os K) o (putS s d (sc (.bool want)))) (h2 : b = !want → skipOp o (evGx N P l os K) (putS s d (sc (.bool (!want))))) : evGx N P l (o :: os) K s := by
  unfold evGx; rw [hg]; simp only []; rw [hd]; simp only []; rw [hb]
  exact ⟨h1, h2⟩
theorem sk_put [Cx] {l os : List Oper} {o : Oper} {K : ASt → Prop} {d : Nat} (hd : o.dst = some d) (hlt : Nat.ble (d + 1) s.nt = true) (h : evGx N P l os K (putS s d (sc undef))) : skipOp o (evGx N P l os K) s := by
  unfold skipOp; rw [hd]; exact ⟨Nat.le_of_ble_eq_true hlt, h⟩
theorem evGx_ok [Cx] {wb : World} {l : List Oper} : ∀ (os : List Oper) (w0 : World) {K : ASt → Prop} {s : ASt} {φ : List (Option (Nat × Nat))} {a : Act} {w : World}, w0.heap.size = N → Reb wb w0 → SimAt w0 S0 s φ a w → evGx N P l os K s → wpList P l.toArray (EndsR wb S0 K) os a w
  | [], w0, K, s, φ, a, w, hN, hR, sim, h => wpList_nil ⟨rfl, s, h, w0, hR, φ, sim⟩
  | o :: os, w0, K, s, φ, a, w, hN, hR, sim, h => by
    have hrest : ∀ s' a' w', evGx N P l os K s' → SimR w0 S0 s' a' w' → wpList P l.toArray (EndsR wb S0 K) os a' w' := fun s' a' w' h' ⟨w1, hR1, φ', sim'⟩ => evGx_ok os w1 (hR1.size.trans hN) (hR.trans hR1) sim' h'
    have hskip : ∀ s', SimAt w0 S0 s' φ a w → skipOp o (evGx N P l os K) s' → wpList P l.toArray (EndsR wb S0 K) os (a.put o.dst undef) w := fun s' sim' h' => by
      unfold skipOp at h'
      split at h'
      · rename_i d hd
        rw [hd]
        exact hrest _ _ _ h'.2 (Sim.R ⟨φ, sim'.put h'.1 rfl⟩)
      · rename_i hd
        rw [hd]
        exact hrest _ _ _ h' (Sim.R ⟨φ, sim'⟩)
    unfold evGx at h
    split at h
    · rename_i hg
      unfold wpList
      rw [if_pos (by simp [Region.wanted, hg])]
      exact .inl (h w0 S0 φ a w hN sim _ _ hrest)
    · rename_i j want hg
      split at h
      · rename_i d hd
        split at h
        · rename_i b hb
          have hy := yielded_bool sim hd hb
          have say : ∀ c, b = c → SimAt w0 S0 (putS s d (sc (.bool c))) φ a w := fun c e => sim.say (by rw [hb, e])
          unfold wpList
          by_cases hbw : b = want
          · rw [if_pos (by simp [Region.wanted, hg, hy, hbw])]
            exact .inl (h.1 hbw w0 S0 φ a w hN (say _ hbw) _ _ hrest)
          · rw [if_neg (by simp [Region.wanted, hg, hy, hbw])]
            have hb' : b = !want := by cases b <;> cases want <;> simp_all
            exact hskip _ (say _ hb') (h.2 hb')
        · rename_i x hb
          have hy := yielded_bool sim hd hb
          unfold wpList
          rw [if_neg (by simp [Region.wanted, hg, hy])]
          exact hskip _ sim h
        · exact h.elim
      · exact h.elim
theorem AWP.region_gx [Cx] {id : Nat} {ops : List Oper} {Q : Exit → ASt → Prop} (h : evGx N P ops ops (Q .normal) s) : AWP N P (.region id ops.toArray false) Q s := by
  rintro wb S0 a w hN ⟨w0, hR, φ, sim⟩
  refine wp_mono (wp_region_lit (evGx_ok ops w0 (hR.size.trans hN) hR sim h)) fun e a' w' ⟨he, s', hK, hsim⟩ => ?_
  subst he
  exact ⟨s', hK, hsim⟩
/-! ### Sums that may wrap -/
theorem axg_add [Cx] {K : ASt → Prop} {t t' : TypeId} {x y : Operand} {d ty : Nat} {pos : String} {after : Array Edge} {gd : Option (Nat × Bool)} {m n : Int} (hx : opd s x = some (sc (.int .i64 m))) (hy : opd s y = some (sc (.int .i64 n))) (hd : Nat.ble (d + 1) s.nt = true) (h : K (putS s d (sc (.int .i64 (IntKind.i64.wrap (m + n)))))) :
    OpA N P K ⟨some d, .binOp .add t x y t', ty, pos, after, gd⟩ s := by
  refine fun w0 S0 φ a w hN sim next Q hn => ?_
  have ex := val_of sim hx
  have ey := val_of sim hy
  have hrun : (execOp a.eval ⟨some d, .binOp .add t x y t', ty, pos, after, gd⟩).run P w = .ok (.value (.int .i64 (IntKind.i64.wrap (m + n)))) w := by
    simp only [execOp, ex, ey]; simp [go_sem]
  unfold Oper.wp
  rw [hrun, Oper.upon_value]
  exact hn _ _ _ h (Sim.R ⟨φ, sim.put (Nat.le_of_ble_eq_true hd) rfl⟩)
theorem axg_sub [Cx] {K : ASt → Prop} {t t' : TypeId} {x y : Operand} {d ty : Nat} {pos : String} {after : Array Edge} {gd : Option (Nat × Bool)} {m n : Int} (hx : opd s x = some (sc (.int .i64 m))) (hy : opd s y = some (sc (.int .i64 n))) (hd : Nat.ble (d + 1) s.nt = true) (h : K (putS s d (sc (.int .i64 (IntKind.i64.wrap (m - n)))))) :
    OpA N P K ⟨some d, .binOp .sub t x y t', ty, pos, after, gd⟩ s := by
  refine fun w0 S0 φ a w hN sim next Q hn => ?_
  have ex := val_of sim hx
  have ey := val_of sim hy
  have hrun : (execOp a.eval ⟨some d, .binOp .sub t x y t', ty, pos, after, gd⟩).run P w = .ok (.value (.int .i64 (IntKind.i64.wrap (m - n)))) w := by
    simp only [execOp, ex, ey]; simp [go_sem]
  unfold Oper.wp
  rw [hrun, Oper.upon_value]
  exact hn _ _ _ h (Sim.R ⟨φ, sim.put (Nat.le_of_ble_eq_true hd) rfl⟩)
/-! ### A body that moves the cursor -/
def oldC (N b : Nat) : V → V
  | .seq sz n f => .old (fun j => j < N ∧ j ≠ b) (.seq sz n f)
  | .agg n f => .agg n fun i => oldC N b (f i)
  | v => v
theorem oldC_rd {b : Nat} {w : World} : ∀ (v : V) (u : Value), Rd w (fun j => j ≠ b) v u → Rd w (fun _ => True) (oldC w.heap.size b v) u
  | .seq sz n f, u, h => ⟨fun j hj => ⟨trivial, hj.1⟩, Rd.mono (S' := fun j => j < w.heap.size ∧ j ≠ b) (fun j hj hlt => ⟨⟨hlt, hj⟩, rfl⟩) _ _ h⟩
  | .agg n f, u, h => by
    obtain ⟨cs, hu, hn, h⟩ := h
    refine ⟨cs, hu, hn, fun i hi => ?_⟩
    obtain ⟨x, hx, hr⟩ := h i hi
    exact ⟨x, hx, oldC_rd (f i) x hr⟩
  | .val _, _, h => h
  | .pin n f, u, h => Rd.mono (S := fun j => j ≠ b) (fun _ _ _ => ⟨trivial, rfl⟩) _ _ h
  | .clo g n f, u, h => Rd.mono (S := fun j => j ≠ b) (fun _ _ _ => ⟨trivial, rfl⟩) _ _ h
  | .old Z v, u, h => Rd.mono (S := fun j => j ≠ b) (fun _ _ _ => ⟨trivial, rfl⟩) _ _ h
  | .row u0 Z sz n f, u, h => Rd.mono (S := fun j => j ≠ b) (fun _ _ _ => ⟨trivial, rfl⟩) _ _ h
  | .grow u0 Z e sz n f, u, h => Rd.mono (S := fun j => j ≠ b) (fun _ _ _ => ⟨trivial, rfl⟩) _ _ h
  | .cur b0 k Z c, u, h => Rd.mono (S := fun j => j ≠ b) (fun _ _ _ => ⟨trivial, rfl⟩) _ _ h
theorem oldCL_rd {b : Nat} {w : World} : ∀ (vs : List V) (us : List Value), RdL w (fun j => j ≠ b) vs us → RdL w (fun _ => True) (vs.map (oldC w.heap.size b)) us
  | [], [], h => h
  | [], _ :: _, h => h.elim
  | _ :: _, [], h => h.elim
  | v :: vs, u :: us, h => ⟨oldC_rd v u h.1, oldCL_rd vs us h.2⟩
def retC (ts : List Nat) (N : Nat) (R : Res → Prop) (b k' : Nat) (Z : Nat → Prop) (c : V) : Exit → ASt → Prop
  | .normal, s => (∃ j, lookup s.σ 0 = some (.one (.pv (.cur b j Z c))) ∧ j ≤ k') ∧ ∃ r, R r ∧ NewL (fun Z => ∀ j, Z j → N ≤ j) r.list ∧ retOk ts r s
  | .ret, s => (∃ j, lookup s.σ 0 = some (.one (.pv (.cur b j Z c))) ∧ j ≤ k') ∧ ∃ r, R r ∧ NewL (fun Z => ∀ j, Z j → N ≤ j) r.list ∧ retOk ts r s
  | _, _ => False
theorem FnC.of_body {f : FuncId} {fn : Func} {cd : Code} {nt b k k' : Nat} {Z : Nat → Prop} {c : V} {ts : List Nat} {vs : List V} {R : Res → Prop}
    (hcall : ∀ (args : Array Value) (w : World), (callFunc f args).run P w = .ok (.enter f args) w) (hf : P.funcs[f]? = some fn) (hb : fn.body = some cd) (hnt : fn.ntmps = nt)
    (hres : fn.results = (ts.map ResultVar.tmp).toArray) (hlen : vs.length + 1 ≤ nt) (hshape : ∀ r, R r → r.shape ts.length = true)
    (h : ∀ (N : Nat) (cx : Cx), cx.X = isB b → b < N → @AWP cx N P cd (retC ts N R b k' Z c) ⟨slotsOf 0 (.cur b k Z c :: vs.map (oldC N b)), [], nt⟩) : FnC P f b k k' Z c vs R := by
  refine ⟨hcall, fun w u us hu hus => calls_of_wp hf hb ?_⟩
  have hu' := hu
  obtain ⟨hu0, _, hz, cur, cv, p, q, e, hc, _⟩ := hu'
  have hblt : b < w.heap.size := block_lt hc
  have sim := body_start (w := w) (fn := fn) (vs := .cur b k Z c :: vs.map (oldC w.heap.size b)) (us := u :: us) hnt (by simpa using hlen) ⟨hu, oldCL_rd vs us hus⟩
  refine wp_mono (h _ ⟨isB b⟩ rfl hblt w _ _ w rfl ⟨w, @Reb.refl ⟨isB b⟩ _, [], sim⟩) fun e a' w' ⟨s', hq, w1, hR, φ, sim'⟩ => ?_
  obtain ⟨r1, r2, r3, r4, r5, r6⟩ := hR
  have hRB : RebB b w w1 := ⟨r1, r2, r3, r5, fun j hj => r6 j hj⟩
  have fin : ((∃ j, lookup s'.σ 0 = some (.one (.pv (.cur b j Z c))) ∧ j ≤ k') ∧ ∃ r, R r ∧ NewL (fun Z => ∀ j, Z j → w.heap.size ≤ j) r.list ∧ retOk ts r s') → a'.defers = [] ∧ ∃ v, (results fn a'.tmps).run P w' = .ok v w' ∧
      ∃ w1 r x φ, RebB b w w1 ∧ Rd w1 (fun _ => True) (.cur b k' Z c) u ∧ R r ∧ NewL (fun Z => ∀ j, Z j → w.heap.size ≤ j) r.list ∧ Ending.returned v = .returned x ∧ Heap w1 (fun _ => True) (bring r.list []).2 φ w' ∧ RdSlot w' (Stab w1 (fun _ => True) (bring r.list []).2 φ) φ (r.slot (bring r.list []).1) x := by
    rintro ⟨⟨j, hj, hjk⟩, r, hRr, hnew, hq⟩
    obtain ⟨u1, _, hr1⟩ := sim'.slots 0 _ hj
    obtain ⟨_, _, hz1, cur1, cv1, p1, q1, e1, hc1, h31, hp1, hq1, hrd1⟩ := hr1
    have hbel := sim'.heap.below
    have hs1 := hRB.size
    have hcur1 : Rd w1 (fun _ => True) (.cur b k' Z c) u := by
      refine ⟨hu0, trivial, fun i hi => ⟨trivial, by rw [hs1]; exact (hz i hi).2.1, (hz i hi).2.2⟩, cur1, cv1, p1, q1, e1, ?_, h31, ⟨hp1.1, by omega⟩, hq1, ?_⟩
      · rw [← hbel.block b (by omega)]; exact hc1
      · exact Rd.mono (S' := Z) (fun i hi _ => ⟨hi, (hbel.block i (by rw [hs1]; exact (hz i hi).2.1)).symm⟩) _ _ hrd1
    unfold retOk at hq
    split at hq
    · rename_i vs' hvs
      obtain ⟨hfit, hnd⟩ := hq
      have hrd := getL_rd sim' ts vs' hvs
      obtain ⟨hh, hst⟩ := sim'.results_heap hfit hnd
      have hsl := results_slots hst vs' r.list _ [] [] rfl hfit hrd
      have eb : (bring r.list []).2 = (blksOf r.list).map some := by rw [bring_blks]; rfl
      refine ⟨sim'.defers.1, _, run_results hres _ _, w1, r, _, _, hRB, hcur1, hRr, hnew, rfl, by rw [eb]; exact hh, ?_⟩
      rw [eb]
      simp only [List.nil_append] at hsl
      have hshape := hshape r hRr
      cases r with
      | one r =>
        have h1 : ts.length = 1 := by simpa [Res.shape] using hshape
        rw [if_pos h1]
        match ts, h1 with
        | [t], _ => cases r <;> exact hsl.1
      | many l =>
        have h1 : ts.length ≠ 1 := by simpa [Res.shape] using hshape
        rw [if_neg h1]
        exact ⟨_, rfl, hsl⟩
    · exact hq.elim
  cases e with
  | normal => exact fin hq
  | ret => exact fin hq
  | _ => exact hq.elim
/-! ### A cursor of the call's own -/
def letCurK (N : Nat) (t : Nat) (s : ASt) (K : ASt → Prop) : Prop :=
  ∃ (id : Nat) (blk : Blk) (Z : Nat → Prop) (c : V), lookup s.σ t = some (.one (.ptr id 0)) ∧ s.h[id]? = some (some blk) ∧ 3 ≤ blk.n ∧ blk.f 0 = .old Z c ∧ blk.f 1 = .val (.int .i64 0) ∧ blk.f 2 = .val (.int .u64 0) ∧ (∀ j, Z j → j < N) ∧
    ∀ b, N ≤ b → (∀ Z', ZSt Z' s → ¬ Z' b) → K ⟨upd s.σ t (.one (.pv (.cur b 0 Z c))), s.h.set id none, s.nt⟩
theorem AWP.letCur [Cx] {cd : Code} {Q : Exit → ASt → Prop} (t : Nat) (h : letCurK N t s (AWP N P cd Q)) : AWP N P cd Q s := by
  refine AWP.of_step fun w0 S0 φ a w hN sim => ?_
  obtain ⟨id, blk, Z, c, ht, hb, hn, h0, h1, h2, hZ, h⟩ := h
  obtain ⟨sv, hst⟩ := sim.letgo id
  obtain ⟨u, hu, b, z, hφ, rfl⟩ := sim.slots t _ ht
  obtain ⟨cur, _, hB, hcur, hnc, hx⟩ := sim.blkAt hb hφ
  refine ⟨_, φ, h b (by omega) (fun Z' hZ' hz => (hZ'.there sim b hz).1.2 ⟨id, blk, _, hb, hφ⟩), ⟨sv.heap, fun t' v hv => ?_, sv.defers, sv.size⟩⟩
  rw [lookup_upd] at hv
  split at hv
  · rename_i et; subst et; injection hv with hv; subst hv
    refine ⟨_, hu, ?_⟩
    obtain ⟨x0, hx0, hr0⟩ := hx 0 (by omega)
    obtain ⟨x1, hx1, hr1⟩ := hx 1 (by omega)
    obtain ⟨x2, hx2, hr2⟩ := hx 2 (by omega)
    rw [h0] at hr0; rw [h1] at hr1; rw [h2] at hr2
    have hr1 : x1 = .int .i64 0 := hr1
    have hr2 : x2 = .int .u64 0 := hr2
    subst hr1 hr2
    have hlive : Live s.h φ b := ⟨id, blk, _, hb, hφ⟩
    refine ⟨rfl, ⟨.inr hB, ?_⟩, fun j hj => ⟨hst j (hr0.1 j hj).1, (hr0.1 j hj).2, fun e => (hr0.1 j hj).1.2 (e ▸ hlive)⟩, cur, x0, 0, 0, blk.elem, hcur, ⟨hx0, hx1, hx2⟩, ⟨by omega, by omega⟩, ⟨by omega, by omega⟩, hr0.2⟩
    rintro ⟨i, x, z', g1, g2⟩
    by_cases ei : id = i
    · subst ei
      have := (List.getElem?_eq_some_iff.1 hb).1
      simp [this] at g1
    · rw [List.getElem?_set_ne ei] at g1
      exact ei (sim.heap.inj id i blk x b _ _ hb g1 hφ g2)
  · exact sv.slots t' v hv
end
open Go.RowKit Go.Proofs
set_option linter.unusedSimpArgs false
set_option linter.unusedVariables false
variable {P : Program} {w0 : World} {S0 : Nat → Prop} {s : ASt} {φ : List (Option (Nat × Nat))} {a : Act} {w : World} {N : Nat}
theorem set_some {h : List (Option Blk)} {id id' : Nat} {blk blk' b : Blk} (hb : h[id]? = some (some blk)) (hi : (h.set id (some b))[id']? = some (some blk')) : ∃ b0, h[id']? = some (some b0) := by
  rw [List.getElem?_set] at hi
  split at hi
  · rename_i e; subst e; exact ⟨blk, hb⟩
  · exact ⟨blk', hi⟩
theorem SimAt.bare (sim : SimAt w0 S0 s φ a w) {id : Nat} {blk : Blk} {g : Nat → V} (hb : s.h[id]? = some (some blk)) (hg : ∀ i, i < blk.n → Bare (blk.f i) (g i)) : SimAt w0 S0 ⟨s.σ, s.h.set id (some ⟨blk.elem, blk.n, g⟩), s.nt⟩ φ a w := by
  have hst : ∀ b, Stab w0 S0 s.h φ b → Stab w0 S0 (s.h.set id (some ⟨blk.elem, blk.n, g⟩)) φ b := fun b hb' => ⟨hb'.1, fun ⟨id', blk', z, hi, hp⟩ => by
    obtain ⟨b0, h0⟩ := set_some hb hi
    exact hb'.2 ⟨id', b0, z, h0, hp⟩⟩
  have hs : ∀ b, Stab w0 S0 s.h φ b → b < w.heap.size → Stab w0 S0 (s.h.set id (some ⟨blk.elem, blk.n, g⟩)) φ b ∧ w.heap[b]? = w.heap[b]? := fun b hb' _ => ⟨hst b hb', rfl⟩
  refine ⟨⟨by rw [sim.heap.len]; simp, sim.heap.below, fun id' blk' hi => ?_, fun i j bi bj b z z' hi hj hi' hj' => ?_⟩, fun t v ht => ?_, sim.defers, sim.size⟩
  · have hi0 := hi
    rw [List.getElem?_set] at hi
    split at hi
    · rename_i e
      subst e
      split at hi
      · injection hi with hi; injection hi with hi; subst hi
        rcases sim.heap.blk id blk hb with ⟨h6, h7⟩ | ⟨b, cur, h6, h7, h8, h9, h10⟩
        · exact .inl ⟨h6, h7⟩
        · refine .inr ⟨b, cur, h6, h7, h8, h9, fun i hi' => ?_⟩
          obtain ⟨x, hx, hr⟩ := h10 i hi'
          exact ⟨x, hx, Rd.mono hs _ _ (Bare.rd _ _ _ (hg i hi') hr)⟩
      · cases hi
    · rcases sim.heap.blk id' blk' hi with ⟨h6, h7⟩ | ⟨b, cur, h6, h7, h8, h9, h10⟩
      · exact .inl ⟨h6, h7⟩
      · refine .inr ⟨b, cur, h6, h7, h8, h9, fun i hi' => ?_⟩
        obtain ⟨x, hx, hr⟩ := h10 i hi'
        exact ⟨x, hx, Rd.mono hs _ _ hr⟩
  · obtain ⟨b1, h1⟩ := set_some hb hi
    obtain ⟨b2, h2⟩ := set_some hb hj
    exact sim.heap.inj i j b1 b2 b z z' h1 h2 hi' hj'
  · obtain ⟨u, hu, hr⟩ := sim.slots t v ht
    exact ⟨u, hu, RdSlot.mono hs (fun _ _ h => h) v u hr⟩
end Go.Proofs.Ytlomkebhopaliaa
namespace Go.Proofs.Ytlomkebhopaliaa
set_option linter.unusedSimpArgs false
set_option linter.unusedVariables false
open Go.RowKit Go.Proofs
theorem sz_ints : elemSz Try.prog 30 = some 1 := by kernel_rfl
theorem c_int : cellsIn Try.prog 3 = some none := by kernel_rfl
theorem ei_ints : elemInfo Try.prog 30 = some (3, [.int .i64 0]) := by kernel_rfl
theorem ea_ints : elemAgg Try.prog 30 = some false := by kernel_rfl
theorem u_bool : Try.prog.underlying 4 = some .bool := by kernel_rfl
theorem u_ints : Try.prog.underlying 30 = some (.slice 3) := by kernel_rfl
theorem sz_rows : elemSz Try.prog 24 = some 1 := by kernel_rfl
theorem c_ints : cellsIn Try.prog 30 = some none := by kernel_rfl
theorem ei_rows : elemInfo Try.prog 24 = some (30, [.slice none 0 0]) := by kernel_rfl
theorem ea_rows : elemAgg Try.prog 24 = some false := by kernel_rfl
theorem c_rows : cellsIn Try.prog 24 = some none := by kernel_rfl
theorem sz_bytes : elemSz Try.prog 22 = some 1 := by kernel_rfl
def bints (l : List Int) : Blk := ⟨3, l.length, fun i => vi (l.getD i 0)⟩
end Go.Proofs.Ytlomkebhopaliaa
