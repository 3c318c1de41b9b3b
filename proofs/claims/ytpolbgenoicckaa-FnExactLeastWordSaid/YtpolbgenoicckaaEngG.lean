/- A function's contract out of its body; the rules by which a body is walked. No conditions. -/
import Derived.Test.YtpolbgenoicckaaEngF
namespace Go.Proofs.Ytpolbgenoicckaa
set_option linter.unusedSimpArgs false
set_option linter.unusedVariables false
open Go.RowKit

def slotsOf : Nat → List V → List (Nat × Slot)
  | _, [] => []
  | k, v :: vs => (k, .one (.pv v)) :: slotsOf (k + 1) vs

def getL (σ : List (Nat × Slot)) : List Nat → Option (List SV)
  | [] => some []
  | t :: ts =>
    match lookup σ t with
    | some (.one v) => (getL σ ts).map (v :: ·)
    | _ => none

/-- The slots ts hold the results r. -/
def retOk (ts : List Nat) (r : Res) (s : ASt) : Prop :=
  match getL s.σ ts with
  | some vs => fitsL s.h vs r.list ∧ ND (srcs vs r.list)
  | none => False

def retQ (ts : List Nat) (r : Res) : Exit → ASt → Prop
  | .normal, s => retOk ts r s
  | .ret, s => retOk ts r s
  | _, _ => False

def Res.shape : Res → Nat → Bool
  | .one _, n => n == 1
  | .many _, n => n != 1

theorem run_results {P : Program} {fn : Func} {ts : List Nat} (h : fn.results = (ts.map ResultVar.tmp).toArray) (tmps : Array Value) (w : World) :
    (results fn tmps).run P w = .ok (if ts.length = 1 then tmps.getD (ts.getD 0 0) undef else .tuple (ts.map fun t => tmps.getD t undef).toArray) w := by
  have key : ∀ (g : ResultVar → Sem Value), (∀ t, g (.tmp t) = pure (tmps.getD t undef)) → ∀ (ts : List Nat), Sem.run P (List.mapM g (ts.map ResultVar.tmp)) w = .ok (ts.map fun t => tmps.getD t undef) w := by
    intro g hg ts
    induction ts with
    | nil => rfl
    | cons t ts ih => simp only [List.map_cons, List.mapM_cons, Sem.run_bind, hg, Sem.run_pure, Result.andThen_ok, ih]
  unfold results
  rw [h, Array.mapM_eq_mapM_toList, Sem.run_bind, Sem.run_map]
  rw [show (List.map ResultVar.tmp ts).toArray.toList = ts.map ResultVar.tmp from rfl, key _ (fun _ => rfl) ts]
  simp only [Result.andThen_ok, Sem.run_pure]
  by_cases h1 : ts.length = 1
  · match ts, h1 with
    | [t], _ => simp
  · rw [dif_neg (by simpa using h1), if_neg h1]

theorem slotsOf_get : ∀ (vs : List V) (k t : Nat) {x : Slot}, lookup (slotsOf k vs) t = some x → ∃ v, x = .one (.pv v) ∧ k ≤ t ∧ vs[t - k]? = some v
  | [], _, _, _, h => by cases h
  | v :: vs, k, t, x, h => by
    simp only [slotsOf, lookup] at h
    split at h
    · rename_i e; subst e; injection h with h; subst h; exact ⟨v, rfl, Nat.le_refl _, by simp⟩
    · rename_i e
      obtain ⟨v', h1, h2, h3⟩ := slotsOf_get vs (k + 1) t h
      refine ⟨v', h1, by omega, ?_⟩
      rw [show t - k = (t - (k + 1)) + 1 by omega]
      simpa using h3

theorem getL_rd {w0 : World} {S0 : Nat → Prop} {s : ASt} {φ : List (Option (Nat × Nat))} {a : Act} {w : World} (sim : SimAt w0 S0 s φ a w) : ∀ (ts : List Nat) (vs : List SV), getL s.σ ts = some vs →
    RdSs w (Stab w0 S0 s.h φ) φ vs (ts.map fun t => a.tmps.getD t undef)
  | [], vs, h => by simp [getL] at h; subst h; trivial
  | t :: ts, vs, h => by
    unfold getL at h
    split at h
    · rename_i v hv
      obtain ⟨vs', h1, rfl⟩ := Option.map_eq_some_iff.1 h
      obtain ⟨u, hu, hr⟩ := sim.slots t _ hv
      refine ⟨?_, getL_rd sim ts vs' h1⟩
      have : a.tmps.getD t undef = u := by simp [hu]
      show RdS _ _ _ v (a.tmps.getD t undef)
      rw [this]; exact hr
    · cases h

theorem Fn.of_body {P : Program} {f : FuncId} {fn : Func} {c : Code} {nt : Nat} {ts : List Nat} {vs : List V} {r : Res}
    (hcall : ∀ (args : Array Value) (w : World), (callFunc f args).run P w = .ok (.enter f args) w) (hf : P.funcs[f]? = some fn) (hb : fn.body = some c) (hnt : fn.ntmps = nt)
    (hres : fn.results = (ts.map ResultVar.tmp).toArray) (hlen : vs.length ≤ nt) (hshape : r.shape ts.length = true) (h : ∀ N, AWP N P c (retQ ts r) ⟨slotsOf 0 vs, [], nt⟩) : Fn P f vs r := by
  refine ⟨hcall, fun w S0 us hus => calls_of_wp hf hb ?_⟩
  have hul := hus.len
  have sim : SimAt w S0 ⟨slotsOf 0 vs, [], nt⟩ [] { tmps := us.toArray ++ Array.replicate (fn.ntmps - us.toArray.size) undef, defers := [] } w := by
    refine ⟨⟨rfl, Below.refl _ _, fun id blk hi => by simp at hi, fun i j bi bj b z z' hi => by simp at hi⟩, fun t x ht => ?_, rfl, by simp [hnt]; omega⟩
    obtain ⟨v, rfl, _, hv⟩ := slotsOf_get vs 0 t ht
    obtain ⟨u, hu, hr⟩ := RdL.get vs us t hus (by simpa using hv)
    refine ⟨u, ?_, ?_⟩
    · have : t < us.length := (List.getElem?_eq_some_iff.1 hu).1
      rw [Array.getElem?_append_left (by simpa using this)]; simpa using hu
    · refine Rd.mono (fun b hb hlt => ⟨⟨.inl hb, ?_⟩, rfl⟩) _ _ hr
      rintro ⟨id, blk, z, hi, _⟩; simp at hi
  refine wp_mono (h _ w S0 _ w rfl ⟨[], sim⟩) fun e a' w' ⟨s', hq, φ, sim'⟩ => ?_
  have fin : retOk ts r s' → a'.defers = [] ∧ ∃ v, (results fn a'.tmps).run P w' = .ok v w' ∧
      ∃ u φ, Ending.returned v = .returned u ∧ Heap w S0 (bring r.list []).2 φ w' ∧ RdSlot w' (Stab w S0 (bring r.list []).2 φ) φ (r.slot (bring r.list []).1) u := fun hq => by
    unfold retOk at hq
    split at hq
    · rename_i vs' hvs
      obtain ⟨hfit, hnd⟩ := hq
      have hrd := getL_rd sim' ts vs' hvs
      obtain ⟨hh, hst⟩ := sim'.results_heap hfit hnd
      have hsl := results_slots hst vs' r.list _ [] [] rfl hfit hrd
      have eb : (bring r.list []).2 = (blksOf r.list).map some := by rw [bring_blks]; rfl
      refine ⟨sim'.defers, _, run_results hres _ _, _, _, rfl, by rw [eb]; exact hh, ?_⟩
      rw [eb]
      simp only [List.nil_append] at hsl
      cases r with
      | one r =>
        have h1 : ts.length = 1 := by simpa [Res.shape] using hshape
        rw [if_pos h1]
        match ts, h1 with
        | [t], _ => cases r <;> exact hsl.1
      | many l =>
        have h1 : ts.length ≠ 1 := by simpa [Res.shape] using hshape
        rw [if_neg h1]
        exact ⟨_, rfl, hsl⟩
    · exact hq.elim
  cases e with
  | normal => exact fin hq
  | ret => exact fin hq
  | _ => exact hq.elim

/-- A slot that reads as another one's words. -/
def SlE : Slot → Slot → Prop
  | .one (.pv a), .one (.pv b) => VE a b
  | a, b => a = b

def EntS (σ : List (Nat × Slot)) : List (Nat × Slot) → Prop
  | [] => True
  | (t, v) :: r => (match lookup σ t with | some v0 => SlE v0 v | none => False) ∧ EntS σ r

def EntH : List (Option Blk) → List (Option Blk) → Prop
  | [], [] => True
  | _ :: h, none :: h' => EntH h h'
  | some b :: h, some b' :: h' => BE b b' ∧ EntH h h'
  | _, _ => False

/-- What s says holds in s' words too. -/
def Ent (s s' : ASt) : Prop := s'.nt = s.nt ∧ EntS s.σ s'.σ ∧ EntH s.h s'.h

theorem SlE.rd {w : World} {S : Nat → Prop} {φ : List (Option (Nat × Nat))} {x y : Slot} {u : Value} (h : SlE x y) (hr : RdSlot w S φ x u) : RdSlot w S φ y u := by
  unfold SlE at h
  split at h
  · exact VE.rd _ _ _ h hr
  · subst h; exact hr

theorem EntS.get {σ : List (Nat × Slot)} : ∀ {τ : List (Nat × Slot)} {t : Nat} {v : Slot}, EntS σ τ → lookup τ t = some v → ∃ v0, lookup σ t = some v0 ∧ SlE v0 v
  | [], _, _, _, h => by cases h
  | (k, x) :: r, t, v, he, h => by
    obtain ⟨h1, h2⟩ := he
    simp only [lookup] at h
    split at h
    · rename_i e; subst e; injection h with h; subst h
      split at h1
      · rename_i v0 hv; exact ⟨v0, hv, h1⟩
      · exact h1.elim
    · exact EntS.get h2 h

theorem EntH.len : ∀ {h h' : List (Option Blk)}, EntH h h' → h.length = h'.length
  | [], [], _ => rfl
  | [], _ :: _, h => by cases ‹Option Blk› <;> exact h.elim
  | _ :: _, [], h => by cases ‹Option Blk› <;> exact h.elim
  | x :: h, none :: h', he => by simp [EntH.len (h := h) (h' := h') (by cases x <;> exact he)]
  | none :: _, some _ :: _, he => he.elim
  | some _ :: h, some _ :: h', he => by simp [EntH.len he.2]

theorem EntH.get : ∀ {h h' : List (Option Blk)} {id : Nat} {b' : Blk}, EntH h h' → h'[id]? = some (some b') → ∃ b, h[id]? = some (some b) ∧ BE b b'
  | [], [], _, _, _, hi => by simp at hi
  | [], _ :: _, _, _, h, _ => by cases ‹Option Blk› <;> exact h.elim
  | _ :: _, [], _, _, _, hi => by simp at hi
  | x :: h, none :: h', id, b', he, hi => by
    cases id with
    | zero => simp at hi
    | succ id =>
      obtain ⟨b, h1, h2⟩ := EntH.get (h := h) (h' := h') (by cases x <;> exact he) (by simpa using hi)
      exact ⟨b, by simpa using h1, h2⟩
  | none :: _, some _ :: _, _, _, he, _ => he.elim
  | some b0 :: h, some b0' :: h', id, b', he, hi => by
    cases id with
    | zero => simp at hi; subst hi; exact ⟨b0, by simp, he.1⟩
    | succ id =>
      obtain ⟨b, h1, h2⟩ := EntH.get he.2 (by simpa using hi)
      exact ⟨b, by simpa using h1, h2⟩

theorem Ent.sim {s s' : ASt} (h : Ent s s') {w0 : World} {S0 : Nat → Prop} {a : Act} {w : World} (hs : Sim w0 S0 s a w) : Sim w0 S0 s' a w := by
  obtain ⟨φ, sim⟩ := hs
  obtain ⟨h1, h2, h3⟩ := h
  have hst : ∀ b, Stab w0 S0 s.h φ b → Stab w0 S0 s'.h φ b := fun b hb => ⟨hb.1, fun ⟨id, blk, z, hi, hp⟩ => by
    obtain ⟨b0, h4, _⟩ := h3.get hi
    exact hb.2 ⟨id, b0, z, h4, hp⟩⟩
  have hs : ∀ b, Stab w0 S0 s.h φ b → b < w.heap.size → Stab w0 S0 s'.h φ b ∧ w.heap[b]? = w.heap[b]? := fun b hb _ => ⟨hst b hb, rfl⟩
  refine ⟨φ, ⟨⟨by rw [sim.heap.len, h3.len], sim.heap.below, fun id blk hi => ?_, fun i j bi bj b z z' hi hj hi' hj' => ?_⟩, fun t v ht => ?_, sim.defers, by rw [sim.size, h1]⟩⟩
  · obtain ⟨b0, h4, h5⟩ := h3.get hi
    rcases sim.heap.blk id b0 h4 with ⟨h6, h7⟩ | ⟨b, cur, h6, h7, h8, h9, h10⟩
    · exact .inl ⟨h6, by have := h5.2.1; omega⟩
    · refine .inr ⟨b, cur, h6, h7, by rw [← h5.1]; exact h8, by have := h5.2.1; omega, fun i hi' => ?_⟩
      obtain ⟨x, hx, hr⟩ := h10 i (by have := h5.2.1; omega)
      exact ⟨x, hx, VE.rd _ _ _ (h5.2.2 i hi') (Rd.mono hs _ _ hr)⟩
  · obtain ⟨bi0, h4, _⟩ := h3.get hi
    obtain ⟨bj0, h5, _⟩ := h3.get hj
    exact sim.heap.inj i j bi0 bj0 b z z' h4 h5 hi' hj'
  · obtain ⟨v0, h4, h5⟩ := h2.get ht
    obtain ⟨u, hu, hr⟩ := sim.slots t v0 h4
    exact ⟨u, hu, h5.rd (RdSlot.mono hs (fun _ _ h => h) _ _ hr)⟩

theorem AWP.ent {N : Nat} {P : Program} {c : Code} {Q : Exit → ASt → Prop} {s : ASt} (s' : ASt) (h : Ent s s') (h' : AWP N P c Q s') : AWP N P c Q s :=
  fun w0 S0 a w hN sim => h' w0 S0 a w hN (h.sim sim)

/-- A loop: inv x is what holds at a round's head. -/
theorem AWP.loop_ent {N : Nat} {P : Program} {c : Code} {Q : Exit → ASt → Prop} {s : ASt} {ι : Type} (inv : ι → ASt) (G : ι → Prop) (μ : ι → Nat) (x : ι) (hG : G x) (h0 : Ent s (inv x))
    (h : ∀ x, G x → AWP N P c (thenQ (fun s' => ∃ y, G y ∧ μ y < μ x ∧ Ent s' (inv y)) Q) (inv x)) : AWP N P (.loop c) Q s := by
  refine AWP.ent _ h0 (AWP.loop inv μ G x hG fun x hx w0 S0 a w hN sim => wp_mono (h x hx w0 S0 a w hN sim) fun e a' w' ⟨s', hq, sim'⟩ => ?_)
  cases e with
  | normal =>
    obtain ⟨y, hy, hlt, he⟩ := hq
    exact ⟨s', ⟨y, hy, hlt, fun w0 S0 a w hs => he.sim hs⟩, sim'⟩
  | _ => exact ⟨s', hq, sim'⟩

/-- The ways through x meet again in s1. -/
theorem AWP.seq_cut {N : Nat} {P : Program} {x y : Code} {Q : Exit → ASt → Prop} {s : ASt} (s1 : ASt) (h : AWP N P x (thenQ (fun s' => Ent s' s1) Q) s) (h' : AWP N P y Q s1) : AWP N P (.seq x y) Q s := by
  refine AWP.seq fun w0 S0 a w hN sim => wp_mono (h w0 S0 a w hN sim) fun e a' w' ⟨s', hq, sim'⟩ => ?_
  cases e with
  | normal => exact ⟨s1, h', Ent.sim hq sim'⟩
  | _ => exact ⟨s', hq, sim'⟩

/-! ### One operation at a time, what stands behind it out of sight -/
theorem ev_nil {P : Program} {q : Bool} {l : List Oper} {K : ASt → Prop} {s : ASt} (h : K s) : evOps P q l [] K s := h

theorem ev_step {P : Program} {q : Bool} {l os : List Oper} {o : Oper} {K : ASt → Prop} {s : ASt} (hg : o.guard = none) (h : ∀ K' : ASt → Prop, (∀ s', evOps P q l os K s' → K' s') → evOp P q o K' s) : evOps P q l (o :: os) K s := by
  unfold evOps; rw [hg]; exact h _ fun _ h => h

/-- One operation, what stands behind it to be put out of sight. -/
def EvOpen (P : Program) (q : Bool) (l os : List Oper) (o : Oper) (K : ASt → Prop) (s : ASt) : Prop := ∀ K' : ASt → Prop, (∀ s', evOps P q l os K s' → K' s') → evOp P q o K' s
def SkOpen (P : Program) (q : Bool) (l os : List Oper) (o : Oper) (K : ASt → Prop) (s : ASt) : Prop := ∀ K' : ASt → Prop, (∀ s', evOps P q l os K s' → K' s') → skipOp o K' s
theorem ev_open {P : Program} {q : Bool} {l os : List Oper} {o : Oper} {K : ASt → Prop} {s : ASt} (h : ∀ K' : ASt → Prop, (∀ s', evOps P q l os K s' → K' s') → evOp P q o K' s) : EvOpen P q l os o K s := h
theorem sk_open {P : Program} {q : Bool} {l os : List Oper} {o : Oper} {K : ASt → Prop} {s : ASt} (h : ∀ K' : ASt → Prop, (∀ s', evOps P q l os K s' → K' s') → skipOp o K' s) : SkOpen P q l os o K s := h

theorem ev_guard {P : Program} {q : Bool} {l os : List Oper} {o : Oper} {K : ASt → Prop} {s : ASt} {j d : Nat} {want b : Bool} (hg : o.guard = some (j, want)) (hd : (l[j]?).bind (·.dst) = some d) (hb : lookup s.σ d = some (sc (.bool b)))
    (h1 : b = want → EvOpen P q l os o K (putS s d (sc (.bool want)))) (h2 : b = !want → SkOpen P q l os o K (putS s d (sc (.bool (!want))))) : evOps P q l (o :: os) K s := by
  unfold evOps; rw [hg]; simp only []; rw [hd]; simp only []; rw [hb]
  exact ⟨fun e => h1 e _ fun _ h => h, fun e => h2 e _ fun _ h => h⟩

theorem ev_undef {P : Program} {q : Bool} {l os : List Oper} {o : Oper} {K : ASt → Prop} {s : ASt} {j d : Nat} {want : Bool} {x : Array Value} (hg : o.guard = some (j, want)) (hd : (l[j]?).bind (·.dst) = some d) (hb : lookup s.σ d = some (sc (.tuple x)))
    (h : ∀ K' : ASt → Prop, (∀ s', evOps P q l os K s' → K' s') → skipOp o K' s) : evOps P q l (o :: os) K s := by
  unfold evOps; rw [hg]; simp only []; rw [hd]; simp only []; rw [hb]
  exact h _ fun _ h => h

theorem then_normal {next : ASt → Prop} {Q : Exit → ASt → Prop} {s : ASt} (h : next s) : thenQ next Q .normal s := h
theorem then_ret {next : ASt → Prop} {Q : Exit → ASt → Prop} {s : ASt} (h : Q .ret s) : thenQ next Q .ret s := h
theorem then_exit {next : ASt → Prop} {Q : Exit → ASt → Prop} {s : ASt} {i : Nat} (h : Q (.exit i) s) : thenQ next Q (.exit i) s := h
theorem block_normal {Q : Exit → ASt → Prop} {s : ASt} {i : Nat} (h : Q .normal s) : blockQ i Q .normal s := h
theorem block_ret {Q : Exit → ASt → Prop} {s : ASt} {i : Nat} (h : Q .ret s) : blockQ i Q .ret s := h
theorem block_exit {Q : Exit → ASt → Prop} {s : ASt} {i : Nat} (h : Q .normal s) : blockQ i Q (.exit i) s := by
  show (if i = i then Q .normal s else Q (.exit i) s)
  rw [if_pos rfl]; exact h
theorem block_exit_ne {Q : Exit → ASt → Prop} {s : ASt} {i j : Nat} (hne : (j == i) = false) (h : Q (.exit j) s) : blockQ i Q (.exit j) s := by
  show (if j = i then Q .normal s else Q (.exit j) s)
  rw [if_neg (by simpa using hne)]; exact h

theorem call_scalar {P : Program} {q : Bool} {f : FuncId} {d : Nat} {K : ASt → Prop} {s : ASt} {p : Bool} {vs : List V} {r : Res} (hf : Fn P f vs r) (hd : d < s.nt) (hs : allVal r.list = true) (h : K (bringIn s d r)) :
    callK P q f d K s p vs := ⟨hd, r, hf, .inl hs, h⟩
theorem call_pure {P : Program} {f : FuncId} {d : Nat} {K : ASt → Prop} {s : ASt} {vs : List V} {r : Res} (hf : Fn P f vs r) (hd : d < s.nt) (h : K (bringIn s d r)) :
    callK P false f d K s true vs := ⟨hd, r, hf, .inr ⟨rfl, .inl rfl⟩, h⟩
theorem call_safe {P : Program} {f : FuncId} {d : Nat} {K : ASt → Prop} {s : ASt} {p : Bool} {vs : List V} {r : Res} (hf : Fn P f vs r) (hd : d < s.nt) (hs : Safe r.list) (h : K (bringIn s d r)) :
    callK P false f d K s p vs := ⟨hd, r, hf, .inr ⟨rfl, .inr hs⟩, h⟩

abbrev vi (n : Int) : V := .val (.int .i64 n)
abbrev vb (b : Bool) : V := .val (.bool b)
abbrev ints (l : List Int) : V := .seq 1 l.length fun i => vi (l.getD i 0)

end Go.Proofs.Ytpolbgenoicckaa
