/- Calls that move a cursor: a function that takes a pointer to it, draws some numbers, and gives what it likes. No conditions. -/
import Derived.Test.YteapdildbfimnaaEngX
namespace Go.Proofs.Yteapdildbfimnaa
set_option linter.unusedSimpArgs false
set_option linter.unusedVariables false
open Go.RowKit

def isB (b : Nat) : Nat → Prop := fun j => j = b
theorem disj_cut {N b : Nat} : Disj (fun j => j < N ∧ j ≠ b) (isB b) := fun j h1 h2 => h1.2 h2
theorem disj_lt {N b : Nat} (h : N ≤ b) : Disj (fun j => j < N) (isB b) := fun j h1 h2 => by have h1 : j < N := h1; have h2 : j = b := h2; omega

/-- Two worlds that differ in block b alone. -/
structure RebB (b : Nat) (w w1 : World) : Prop where
  os : w1.os = w.os
  tape : w1.tape = w.tape
  output : w1.output = w.output
  size : w1.heap.size = w.heap.size
  oth : ∀ j, j ≠ b → w1.heap[j]? = w.heap[j]?

/-- Called with a pointer to the cursor in block b, which stands at k or before, and values that read as vs, f returns values that read as some r of R, all of it in new memory, and leaves the cursor at k' or before. -/
structure FnC (P : Program) (f : FuncId) (b k k' : Nat) (Z : Nat → Prop) (c : V) (vs : List V) (R : Res → Prop) : Prop where
  entry : ∀ (args : Array Value) (w : World), (callFunc f args).run P w = .ok (.enter f args) w
  runs : ∀ (w : World) (u : Value) (us : List Value), Rd w (fun _ => True) (.cur b k Z c) u → RdL w (fun j => j ≠ b) vs us → Calls P f (u :: us).toArray w fun e w' =>
    ∃ w1 r x φ, RebB b w w1 ∧ Rd w1 (fun _ => True) (.cur b k' Z c) u ∧ R r ∧ NewL (fun Z => ∀ j, Z j → w.heap.size ≤ j) r.list ∧ e = .returned x ∧ Heap w1 (fun _ => True) (bring r.list []).2 φ w' ∧ RdSlot w' (Stab w1 (fun _ => True) (bring r.list []).2 φ) φ (r.slot (bring r.list []).1) x

theorem FnC.weaken {P : Program} {f : FuncId} {b k k' : Nat} {Z : Nat → Prop} {c : V} {vs : List V} {R R' : Res → Prop} (h : FnC P f b k k' Z c vs R) (hR : ∀ r, R r → R' r) : FnC P f b k k' Z c vs R' :=
  ⟨h.entry, fun w u us hu hus => (h.runs w u us hu hus).mono fun e w' ⟨w1, r, x, φ, h1, h2, h3, h4⟩ => ⟨w1, r, x, φ, h1, h2, hR r h3, h4⟩⟩

/-! ### The state behind such a call -/
/-- What is wanted of a slot that goes on. -/
def okSl (b k : Nat) (Z : Nat → Prop) (c : V) : Slot → Prop
  | .one (.pv (.cur b0 k0 Z0 c0)) => b0 = b ∧ k0 = k ∧ Z0 = Z ∧ c0 = c
  | .one (.pv (.old Z0 _)) => Disj Z0 (isB b)
  | .one (.pv (.row _ Z0 sz n f)) => Disj Z0 (isB b) ∧ ∀ i, i < n * sz → Keeps (isB b) (f i)
  | .one (.pv (.grow _ Z0 _ sz n f)) => Disj Z0 (isB b) ∧ ∀ i, i < n * sz → Keeps (isB b) (f i)
  | .one (.pv (.agg n f)) => ∀ i, i < n → Keeps (isB b) (f i)
  | _ => True
/-- What a slot holds behind the call; none: not told. -/
def swSl (k' : Nat) : Slot → Option Slot
  | .one (.pv (.cur b0 _ Z0 c0)) => some (.one (.pv (.cur b0 k' Z0 c0)))
  | .one (.pv (.val v)) => some (.one (.pv (.val v)))
  | .one (.pv (.old Z v)) => some (.one (.pv (.old Z v)))
  | .one (.pv (.row u Z sz n f)) => some (.one (.pv (.row u Z sz n f)))
  | .one (.pv (.grow u Z e sz n f)) => some (.one (.pv (.grow u Z e sz n f)))
  | .one (.pv (.agg n f)) => some (.one (.pv (.agg n f)))
  | .one (.own i sz off len) => some (.one (.own i sz off len))
  | .one (.ptr i off) => some (.one (.ptr i off))
  | _ => none
def swpS (k' : Nat) : List (Nat × Slot) → List (Nat × Slot)
  | [] => []
  | (t, v) :: r => match swSl k' v with
    | some v' => (t, v') :: swpS k' r
    | none => swpS k' r
def okS (b k : Nat) (Z : Nat → Prop) (c : V) : List (Nat × Slot) → Prop
  | [] => True
  | (_, v) :: r => okSl b k Z c v ∧ okS b k Z c r
/-- No block's cells hang on the cursor. -/
def okH (b : Nat) : List (Option Blk) → Prop
  | [] => True
  | none :: r => okH b r
  | some x :: r => (∀ i, i < x.n → Keeps (isB b) (x.f i)) ∧ okH b r
/-- No slot is named twice. -/
def keysB : List (Nat × Slot) → Bool
  | [] => true
  | (t, _) :: r => r.all (fun p => p.1 != t) && keysB r

theorem lookup_none {σ : List (Nat × Slot)} {t : Nat} (h : σ.all (fun p => p.1 != t) = true) : lookup σ t = none := by
  induction σ with
  | nil => rfl
  | cons x r ih =>
    obtain ⟨k, v⟩ := x
    simp only [List.all_cons, Bool.and_eq_true, bne_iff_ne] at h
    simp only [lookup]
    rw [if_neg h.1]; exact ih h.2
theorem swp_keys {k' : Nat} {t : Nat} : ∀ {σ : List (Nat × Slot)}, σ.all (fun p => p.1 != t) = true → (swpS k' σ).all (fun p => p.1 != t) = true
  | [], _ => rfl
  | (i, v) :: r, h => by
    simp only [List.all_cons, Bool.and_eq_true] at h
    unfold swpS
    split
    · simp only [List.all_cons, Bool.and_eq_true]; exact ⟨h.1, swp_keys h.2⟩
    · exact swp_keys h.2
theorem swp_get {k' : Nat} {t : Nat} {v' : Slot} : ∀ {σ : List (Nat × Slot)}, keysB σ = true → lookup (swpS k' σ) t = some v' → ∃ v, lookup σ t = some v ∧ swSl k' v = some v'
  | [], _, h => by cases h
  | (i, v) :: r, hk, h => by
    simp only [keysB, Bool.and_eq_true] at hk
    simp only [lookup]
    unfold swpS at h
    by_cases e : i = t
    · subst e
      rw [if_pos rfl]
      split at h
      · rename_i v1 hv
        simp only [lookup, if_pos] at h
        exact ⟨v, rfl, by rw [hv]; exact h⟩
      · rw [lookup_none (swp_keys hk.1)] at h; cases h
    · rw [if_neg e]
      split at h
      · simp only [lookup] at h
        rw [if_neg e] at h
        exact swp_get hk.2 h
      · exact swp_get hk.2 h
theorem okS_get {b k : Nat} {Z : Nat → Prop} {c : V} {t : Nat} {v : Slot} : ∀ {σ : List (Nat × Slot)}, okS b k Z c σ → lookup σ t = some v → okSl b k Z c v
  | [], _, h => by cases h
  | (i, x) :: r, ho, h => by
    simp only [lookup] at h
    split at h
    · injection h with h; subst h; exact ho.1
    · exact okS_get ho.2 h
theorem okH_get {b : Nat} {x : Blk} : ∀ {h : List (Option Blk)} {id : Nat}, okH b h → h[id]? = some (some x) → ∀ i, i < x.n → Keeps (isB b) (x.f i)
  | [], id, _, hi => by simp at hi
  | none :: r, 0, _, hi => by simp at hi
  | none :: r, id + 1, ho, hi => okH_get (h := r) ho (by simpa using hi)
  | some y :: r, 0, ho, hi => by simp at hi; subst hi; exact ho.1
  | some y :: r, id + 1, ho, hi => okH_get (h := r) ho.2 (by simpa using hi)

section
variable {P : Program} {w0 : World} {S0 : Nat → Prop} {s : ASt} {φ : List (Option (Nat × Nat))} {a : Act} {w : World}

theorem only_of_reb {b : Nat} {w w1 : World} (h : RebB b w w1) (hw : Wr w1 b) : OnlyIn (isB b) w w1 :=
  ⟨h.os, h.tape, h.output, by rw [h.size]; exact Nat.le_refl _, fun j _ hj => h.oth j hj, fun j ⟨cur, e, hj⟩ => by
    by_cases e2 : j = b
    · subst e2; exact hw
    · exact ⟨cur, e, hj.congr (h.oth j e2)⟩⟩

/-- The cursor has moved: its block is another one, the state is told of it. -/
theorem SimAt.moved [Cx] {N b k k' : Nat} {Z : Nat → Prop} {c : V} {w1 : World} {u0 : Value} (hN : w0.heap.size = N) (sim : SimAt w0 S0 s φ a w) (hcu : Rd w (Stab w0 S0 s.h φ) (.cur b k Z c) u0) (hst : Stab w0 S0 s.h φ b) (hX : Cx.X b ∨ N ≤ b) (hR : RebB b w w1) {u : Value} (hcur : Rd w1 (fun _ => True) (.cur b k' Z c) u)
    (hk : keysB s.σ = true) (hσ : okS b k Z c s.σ) (hh : okH b s.h) : ∃ w0', Reb w0 w0' ∧ SimAt w0' S0 ⟨swpS k' s.σ, s.h, s.nt⟩ φ a w1 := by
  obtain ⟨hu, _, hz, cur, cv, p, q, e, hc, h3, hp, hq, hr⟩ := hcur
  have hw : Wr w1 b := ⟨cur, e, .inl hc⟩
  have ho := only_of_reb hR hw
  have hsz0 := sim.heap.below.size
  have hlt : b < w1.heap.size := block_lt hc
  obtain ⟨w0', hw0'⟩ : ∃ w0' : World, w0' = { w0 with heap := w0.heap.setIfInBounds b (.cells cur e (0, 0)) } := ⟨_, rfl⟩
  have hs : w0'.heap.size = w0.heap.size := by rw [hw0']; simp
  have hoth : ∀ j, j ≠ b → w0'.heap[j]? = w0.heap[j]? := fun j hj => by rw [hw0']; exact Array.getElem?_setIfInBounds_ne (fun h => hj h.symm)
  have hb0 : b < w0.heap.size → w0'.heap[b]? = some (.cells cur e (0, 0)) := fun h => by rw [hw0']; simp [h]
  have hstab : ∀ j, Stab w0 S0 s.h φ j → Stab w0' S0 s.h φ j := fun j hj => ⟨by rw [hs]; exact hj.1, hj.2⟩
  have keep : ∀ (v : V) (x : Value), Keeps (isB b) v → Rd w (Stab w0 S0 s.h φ) v x → Rd w1 (Stab w0' S0 s.h φ) v x := fun v x hv hx =>
    Rd.mono (S := Stab w0 S0 s.h φ) (fun j hj _ => ⟨hstab j hj, rfl⟩) _ _ (Keeps.rd ho v x hv hx)
  have hgl : Gl w0' := by
    obtain ⟨_, _, _, cur0, cv0, p0, q0, e0, hc0, h30, _⟩ := hcu
    exact Gl.other sim.defers.2 (fun h => by rw [← sim.heap.below.block b h]; exact hc0) h30.2.1 hoth
  refine ⟨w0', ⟨by rw [hw0'], by rw [hw0'], by rw [hw0'], by rw [hw0'], hs, fun j hj => ?_⟩, ⟨sim.heap.len, ⟨?_, ?_, ?_, ?_, fun j hj => ?_⟩, fun id blk hi => ?_, sim.heap.inj⟩, fun t v ht => ?_, ⟨sim.defers.1, hgl⟩, sim.size⟩
  · by_cases ej : j = b
    · subst ej
      have : N ≤ j := hX.resolve_left hj
      rw [Array.getElem?_eq_none (by omega), Array.getElem?_eq_none (by omega)]
    · exact hoth j ej
  · rw [hR.os, sim.heap.below.os, hw0']
  · rw [hR.tape, sim.heap.below.tape, hw0']
  · rw [hR.output, sim.heap.below.output, hw0']
  · rw [hR.size, hs]; exact hsz0
  · rw [hs] at hj
    by_cases ej : j = b
    · subst ej; rw [hc, hb0 hj]
    · rw [hR.oth j ej, hoth j ej]; exact sim.heap.below.block j hj
  · rcases sim.heap.blk id blk hi with h1 | ⟨b1, cu, h1, h2, h4, h5, h6⟩
    · exact .inl h1
    · have hne : b1 ≠ b := fun e1 => hst.2 ⟨id, blk, _, hi, e1 ▸ h1⟩
      refine .inr ⟨b1, cu, h1, by rw [hs]; exact h2, by rw [hR.oth b1 hne]; exact h4, h5, fun i hi' => ?_⟩
      obtain ⟨x, hx, hrx⟩ := h6 i hi'
      exact ⟨x, hx, keep _ _ (okH_get hh hi i hi') hrx⟩
  · obtain ⟨v0, h1, h2⟩ := swp_get hk ht
    have h4 := okS_get hσ h1
    obtain ⟨x, hx, hrx⟩ := sim.slots t v0 h1
    refine ⟨x, hx, ?_⟩
    unfold swSl at h2
    split at h2 <;> first | (injection h2 with h2; subst h2) | (cases h2)
    · obtain ⟨rfl, rfl, rfl, rfl⟩ := h4
      obtain ⟨g1, g2, g3, _⟩ := hrx
      refine ⟨g1, hstab _ g2, fun j hj => ⟨hstab j (g3 j hj).1, (hz j hj).2⟩, cur, cv, p, q, e, hc, h3, hp, hq, hr⟩
    · exact hrx
    · exact keep _ _ h4 hrx
    · exact keep _ _ h4 hrx
    · exact keep _ _ h4 hrx
    · exact keep _ _ h4 hrx
    · exact hrx
    · exact hrx

/-! ### Arguments beside the cursor -/
def argsC (b : Nat) (s : ASt) : List Operand → List V → (List V → Prop) → Prop
  | [], vs, K => K vs.reverse
  | x :: xs, vs, K =>
    match opd s x with
    | some (.one (.pv v)) => Keeps (isB b) v ∧ argsC b s xs (v :: vs) K
    | some (.one (.own id sz off len)) =>
      match s.h[id]? with
      | some (some blk) => off + len * sz ≤ blk.n ∧ argsC b s xs (.seq sz len (fun i => blk.f (off + i)) :: vs) K
      | _ => False
    | _ => False

theorem own_seqC {b : Nat} (sim : SimAt w0 S0 s φ a w) (hst : Stab w0 S0 s.h φ b) (hh : okH b s.h) {id sz off len : Nat} {blk : Blk} {u : Value} (hb : s.h[id]? = some (some blk)) (hl : off + len * sz ≤ blk.n)
    (h : RdS w (Stab w0 S0 s.h φ) φ (.own id sz off len) u) : Rd w (fun j => j ≠ b) (.seq sz len fun i => blk.f (off + i)) u := by
  rcases h with ⟨_, rfl, rfl, rfl⟩ | ⟨b', c, z, hφ, rfl, hc, _, _⟩
  · exact ⟨none, 0, rfl, Nat.le_refl _, fun h => by simp at h⟩
  · obtain ⟨cur, _, _, hcur, hn, hx⟩ := sim.blkAt hb hφ
    have hne : b' ≠ b := fun e => hst.2 ⟨id, blk, z, hb, e ▸ hφ⟩
    refine ⟨_, c, rfl, hc, fun hp => ⟨b', off, rfl, hne, fun i hi => ?_⟩⟩
    obtain ⟨x, hx1, hx2⟩ := hx (off + i) (by omega)
    exact ⟨x, cell_of_blk hcur hx1, Keeps.less (fun j _ hj => hj) _ _ (okH_get hh hb _ (by omega)) hx2⟩

theorem argsC_ok {b : Nat} (sim : SimAt w0 S0 s φ a w) (hst : Stab w0 S0 s.h φ b) (hh : okH b s.h) {K : List V → Prop} : ∀ (xs : List Operand) (vs : List V) (us : List Value), argsC b s xs vs K →
    RdL w (fun j => j ≠ b) vs.reverse us.reverse → ∃ vs', K vs' ∧ RdL w (fun j => j ≠ b) vs' (us.reverse ++ xs.map a.eval)
  | [], vs, us, h, h1 => ⟨_, h, by simpa using h1⟩
  | x :: xs, vs, us, h, h1 => by
    unfold argsC at h
    split at h
    · rename_i v hv
      have hr := Keeps.less (S' := fun j => j ≠ b) (fun j _ hj => hj) _ _ h.1 (sim.opd hv)
      obtain ⟨vs', hK, h3⟩ := argsC_ok sim hst hh xs (v :: vs) (a.eval x :: us) h.2 (by rw [List.reverse_cons, List.reverse_cons]; exact RdL.append _ _ _ _ h1 hr)
      exact ⟨vs', hK, by simpa using h3⟩
    · rename_i id sz off len hv
      split at h
      · rename_i blk hb
        have hr := own_seqC sim hst hh hb h.1 (sim.opd hv)
        obtain ⟨vs', hK, h3⟩ := argsC_ok sim hst hh xs (_ :: vs) (a.eval x :: us) h.2 (by rw [List.reverse_cons, List.reverse_cons]; exact RdL.append _ _ _ _ h1 hr)
        exact ⟨vs', hK, by simpa using h3⟩
      · exact h.elim
    · exact h.elim

/-- What stands behind such a call. -/
def callCK [Cx] (N : Nat) (P : Program) (f : FuncId) (args : List Operand) (d : Nat) (s : ASt) (K : ASt → Prop) : Prop :=
  match args with
  | [] => False
  | x :: xs =>
    match opd s x with
    | some (.one (.pv (.cur b k Z c))) => keysB s.σ = true ∧ okS b k Z c s.σ ∧ okH b s.h ∧ (Cx.X b ∨ N ≤ b) ∧ d < s.nt ∧ argsC b s xs [] fun vs => ∃ (k' : Nat) (R : Res → Prop), FnC P f b k k' Z c vs R ∧
        ∀ r, R r → NewL (fun Z => (∀ j, Z j → N ≤ j ∧ j ≠ b) ∧ ∀ Z', ZSt Z' ⟨swpS k' s.σ, s.h, s.nt⟩ → Disj Z' Z) r.list → K (bringIn ⟨swpS k' s.σ, s.h, s.nt⟩ d r)
    | _ => False

variable {N : Nat}
theorem callC_go [Cx] {f : FuncId} {x : Operand} {xs : List Operand} {d b k : Nat} {Z : Nat → Prop} {c : V} {vs : List V} {K : ASt → Prop} (hx : opd s x = some (.one (.pv (.cur b k Z c)))) (hk : keysB s.σ = true) (hd : Nat.ble (d + 1) s.nt = true) (hX : Cx.X b ∨ N ≤ b)
    (hσ : okS b k Z c s.σ) (hh : okH b s.h) (ha : ∀ K' : List V → Prop, K' vs → argsC b s xs [] K')
    (h : ∃ (k' : Nat) (R : Res → Prop), FnC P f b k k' Z c vs R ∧ ∀ r, R r → NewL (fun Z => (∀ j, Z j → N ≤ j ∧ j ≠ b) ∧ ∀ Z', ZSt Z' ⟨swpS k' s.σ, s.h, s.nt⟩ → Disj Z' Z) r.list → K (bringIn ⟨swpS k' s.σ, s.h, s.nt⟩ d r)) : callCK N P f (x :: xs) d s K := by
  show (match opd s x with | some (.one (.pv (.cur b k Z c))) => _ | _ => False)
  rw [hx]
  exact ⟨hk, hσ, hh, hX, Nat.le_of_ble_eq_true hd, ha _ h⟩

/-- An operation is done by whatever rule, its guard apart. -/
def OpA [Cx] (N : Nat) (P : Program) (K : ASt → Prop) (o : Oper) (s : ASt) : Prop :=
  ∀ (w0 : World) (S0 : Nat → Prop) (φ : List (Option (Nat × Nat))) (a : Act) (w : World), w0.heap.size = N → SimAt w0 S0 s φ a w → ∀ (next : Act → World → Prop) (Q : Exit → Act → World → Prop),
    (∀ s' a' w', K s' → SimR w0 S0 s' a' w' → next a' w') → o.wp P a w next Q
theorem axg_op [Cx] {K : ASt → Prop} {o : Oper} {s : ASt} (h : ∀ K' : ASt → Prop, (∀ s', K s' → K' s') → evOp P false o K' s) : OpA N P K o s :=
  fun w0 S0 φ a w hN sim next Q hn => evOp_plain sim (h _ fun _ h => h) fun s' a' w' hK hs => hn s' a' w' hK hs.R
theorem axg_rule [Cx] {K : ASt → Prop} {o : Oper} {s : ASt} (h : Ax N P K o s) : OpA N P K o s := h.2
theorem axg_callC [Cx] {K : ASt → Prop} {f : FuncId} {args : Array Operand} {d ty : Nat} {ts : Array TypeId} {pos : String} {after : Array Edge} {gd : Option (Nat × Bool)} (h : callCK N P f args.toList d s K) : OpA N P K ⟨some d, .call ⟨.value (.func f), args, ts⟩, ty, pos, after, gd⟩ s := by
  refine fun w0 S0 φ a w hN sim next Q hn => ?_
  unfold callCK at h
  split at h
  · exact h.elim
  · rename_i x xs hargs
    split at h
    · rename_i b k Z c hx
      obtain ⟨hk, hσ, hh, hX, hd, ha⟩ := h
      have hcu := sim.opd hx
      have hst : Stab w0 S0 s.h φ b := hcu.2.1
      have hblt : b < w.heap.size := by obtain ⟨_, _, _, cur, cv, p, q, e, hc, _⟩ := hcu; exact block_lt hc
      obtain ⟨vs, ⟨k', R, hf, hK⟩, hrl⟩ := argsC_ok sim hst hh xs [] [] ha sim.gl
      simp only [List.reverse_nil, List.nil_append] at hrl
      have hrun : (execOp a.eval ⟨some d, .call ⟨.value (.func f), args, ts⟩, ty, pos, after, gd⟩).run P w = .ok (.enter f (a.eval x :: xs.map a.eval).toArray) w := by
        have e : execOp a.eval ⟨some d, .call ⟨.value (.func f), args, ts⟩, ty, pos, after, gd⟩ = callFunc f (#[] ++ args.map a.eval ++ #[]) := rfl
        rw [e, hf.1]
        congr 2
        rw [← Array.toList_inj]
        simp [hargs]
      unfold Oper.wp
      rw [hrun, Oper.upon_enter]
      have hcu' : Rd w (fun _ => True) (.cur b k Z c) (a.eval x) := Rd.mono (fun j _ _ => ⟨trivial, rfl⟩) _ _ hcu
      refine (hf.2 w _ _ hcu' hrl).mono ?_
      rintro e w' ⟨w1, r, u, ψ, hR, hcur, hr, hnew, rfl, hheap, hs⟩
      obtain ⟨w0', hR0, sim1⟩ := sim.moved hN hcu hst hX hR hcur hk hσ hh
      have hw := sim1.heap.below.size
      have hsz := hR.size
      have hs0 := hR0.size
      refine hn _ _ _ (hK r hr (NewL.mono (fun Z1 hZ => ⟨fun j hj => ⟨by have := hZ j hj; omega, fun e => by have := hZ j hj; omega⟩, fun Z' hZ' j hj hj' => ?_⟩) _ hnew)) ⟨w0', hR0, _, sim1.call_new hd (NewL.mono (fun Z1 hZ j hj => by rw [hsz]; exact hZ j hj) _ hnew) hheap hs⟩
      have h1 := (hZ'.there sim1 j hj).2
      have h2 := hZ j hj'
      omega
    · exact h.elim

theorem ax_callC [Cx] {K : ASt → Prop} {f : FuncId} {args : Array Operand} {d ty : Nat} {ts : Array TypeId} {pos : String} {after : Array Edge} (h : callCK N P f args.toList d s K) : Ax N P K ⟨some d, .call ⟨.value (.func f), args, ts⟩, ty, pos, after, none⟩ s := ⟨rfl, axg_callC h⟩

/-! ### A region in its own order, guards and all -/
def evGx [Cx] (N : Nat) (P : Program) (l : List Oper) : List Oper → (ASt → Prop) → ASt → Prop
  | [], K, s => K s
  | o :: os, K, s =>
    match o.guard with
    | none => OpA N P (evGx N P l os K) o s
    | some (j, want) =>
      match (l[j]?).bind (·.dst) with
      | some d =>
        match lookup s.σ d with
        | some (.one (.pv (.val (.bool b)))) =>
          (b = want → OpA N P (evGx N P l os K) o (putS s d (sc (.bool want)))) ∧
          (b = !want → skipOp o (evGx N P l os K) (putS s d (sc (.bool (!want)))))
        | some (.one (.pv (.val (.tuple _)))) => skipOp o (evGx N P l os K) s
        | _ => False
      | none => False
theorem gx_nil [Cx] {l : List Oper} {K : ASt → Prop} (h : K s) : evGx N P l [] K s := h
theorem gx_step [Cx] {l os : List Oper} {o : Oper} {K : ASt → Prop} (hg : o.guard = none) (h : OpA N P (evGx N P l os K) o s) : evGx N P l (o :: os) K s := by
  unfold evGx; rw [hg]; exact h
theorem gx_undef [Cx] {l os : List Oper} {o : Oper} {K : ASt → Prop} {j d : Nat} {want : Bool} {us : Array Value} (hg : o.guard = some (j, want)) (hd : (l[j]?).bind (·.dst) = some d) (hb : lookup s.σ d = some (sc (.tuple us))) (h : skipOp o (evGx N P l os K) s) : evGx N P l (o :: os) K s := by
  unfold evGx; rw [hg]; simp only []; rw [hd]; simp only []; rw [hb]; exact h
theorem gx_guard [Cx] {l os : List Oper} {o : Oper} {K : ASt → Prop} {j d : Nat} {want b : Bool} (hg : o.guard = some (j, want)) (hd : (l[j]?).bind (·.dst) = some d) (hb : lookup s.σ d = some (sc (.bool b)))
    (h1 : b = want → OpA N P (evGx N P l os K) o (putS s d (sc (.bool want)))) (h2 : b = !want → skipOp o (evGx N P l os K) (putS s d (sc (.bool (!want))))) : evGx N P l (o :: os) K s := by
  unfold evGx; rw [hg]; simp only []; rw [hd]; simp only []; rw [hb]
  exact ⟨h1, h2⟩
theorem sk_put [Cx] {l os : List Oper} {o : Oper} {K : ASt → Prop} {d : Nat} (hd : o.dst = some d) (hlt : Nat.ble (d + 1) s.nt = true) (h : evGx N P l os K (putS s d (sc undef))) : skipOp o (evGx N P l os K) s := by
  unfold skipOp; rw [hd]; exact ⟨Nat.le_of_ble_eq_true hlt, h⟩

theorem evGx_ok [Cx] {wb : World} {l : List Oper} : ∀ (os : List Oper) (w0 : World) {K : ASt → Prop} {s : ASt} {φ : List (Option (Nat × Nat))} {a : Act} {w : World}, w0.heap.size = N → Reb wb w0 → SimAt w0 S0 s φ a w → evGx N P l os K s → wpList P l.toArray (EndsR wb S0 K) os a w
  | [], w0, K, s, φ, a, w, hN, hR, sim, h => wpList_nil ⟨rfl, s, h, w0, hR, φ, sim⟩
  | o :: os, w0, K, s, φ, a, w, hN, hR, sim, h => by
    have hrest : ∀ s' a' w', evGx N P l os K s' → SimR w0 S0 s' a' w' → wpList P l.toArray (EndsR wb S0 K) os a' w' := fun s' a' w' h' ⟨w1, hR1, φ', sim'⟩ => evGx_ok os w1 (hR1.size.trans hN) (hR.trans hR1) sim' h'
    have hskip : ∀ s', SimAt w0 S0 s' φ a w → skipOp o (evGx N P l os K) s' → wpList P l.toArray (EndsR wb S0 K) os (a.put o.dst undef) w := fun s' sim' h' => by
      unfold skipOp at h'
      split at h'
      · rename_i d hd
        rw [hd]
        exact hrest _ _ _ h'.2 (Sim.R ⟨φ, sim'.put h'.1 rfl⟩)
      · rename_i hd
        rw [hd]
        exact hrest _ _ _ h' (Sim.R ⟨φ, sim'⟩)
    unfold evGx at h
    split at h
    · rename_i hg
      unfold wpList
      rw [if_pos (by simp [Region.wanted, hg])]
      exact .inl (h w0 S0 φ a w hN sim _ _ hrest)
    · rename_i j want hg
      split at h
      · rename_i d hd
        split at h
        · rename_i b hb
          have hy := yielded_bool sim hd hb
          have say : ∀ c, b = c → SimAt w0 S0 (putS s d (sc (.bool c))) φ a w := fun c e => sim.say (by rw [hb, e])
          unfold wpList
          by_cases hbw : b = want
          · rw [if_pos (by simp [Region.wanted, hg, hy, hbw])]
            exact .inl (h.1 hbw w0 S0 φ a w hN (say _ hbw) _ _ hrest)
          · rw [if_neg (by simp [Region.wanted, hg, hy, hbw])]
            have hb' : b = !want := by cases b <;> cases want <;> simp_all
            exact hskip _ (say _ hb') (h.2 hb')
        · rename_i x hb
          have hy := yielded_bool sim hd hb
          unfold wpList
          rw [if_neg (by simp [Region.wanted, hg, hy])]
          exact hskip _ sim h
        · exact h.elim
      · exact h.elim
theorem AWP.region_gx [Cx] {id : Nat} {ops : List Oper} {Q : Exit → ASt → Prop} (h : evGx N P ops ops (Q .normal) s) : AWP N P (.region id ops.toArray false) Q s := by
  rintro wb S0 a w hN ⟨w0, hR, φ, sim⟩
  refine wp_mono (wp_region_lit (evGx_ok ops w0 (hR.size.trans hN) hR sim h)) fun e a' w' ⟨he, s', hK, hsim⟩ => ?_
  subst he
  exact ⟨s', hK, hsim⟩

/-! ### Sums that may wrap -/
theorem axg_add [Cx] {K : ASt → Prop} {t t' : TypeId} {x y : Operand} {d ty : Nat} {pos : String} {after : Array Edge} {gd : Option (Nat × Bool)} {m n : Int} (hx : opd s x = some (sc (.int .i64 m))) (hy : opd s y = some (sc (.int .i64 n))) (hd : Nat.ble (d + 1) s.nt = true) (h : K (putS s d (sc (.int .i64 (IntKind.i64.wrap (m + n)))))) :
    OpA N P K ⟨some d, .binOp .add t x y t', ty, pos, after, gd⟩ s := by
  refine fun w0 S0 φ a w hN sim next Q hn => ?_
  have ex := val_of sim hx
  have ey := val_of sim hy
  have hrun : (execOp a.eval ⟨some d, .binOp .add t x y t', ty, pos, after, gd⟩).run P w = .ok (.value (.int .i64 (IntKind.i64.wrap (m + n)))) w := by
    simp only [execOp, ex, ey]; simp [go_sem]
  unfold Oper.wp
  rw [hrun, Oper.upon_value]
  exact hn _ _ _ h (Sim.R ⟨φ, sim.put (Nat.le_of_ble_eq_true hd) rfl⟩)
theorem axg_sub [Cx] {K : ASt → Prop} {t t' : TypeId} {x y : Operand} {d ty : Nat} {pos : String} {after : Array Edge} {gd : Option (Nat × Bool)} {m n : Int} (hx : opd s x = some (sc (.int .i64 m))) (hy : opd s y = some (sc (.int .i64 n))) (hd : Nat.ble (d + 1) s.nt = true) (h : K (putS s d (sc (.int .i64 (IntKind.i64.wrap (m - n)))))) :
    OpA N P K ⟨some d, .binOp .sub t x y t', ty, pos, after, gd⟩ s := by
  refine fun w0 S0 φ a w hN sim next Q hn => ?_
  have ex := val_of sim hx
  have ey := val_of sim hy
  have hrun : (execOp a.eval ⟨some d, .binOp .sub t x y t', ty, pos, after, gd⟩).run P w = .ok (.value (.int .i64 (IntKind.i64.wrap (m - n)))) w := by
    simp only [execOp, ex, ey]; simp [go_sem]
  unfold Oper.wp
  rw [hrun, Oper.upon_value]
  exact hn _ _ _ h (Sim.R ⟨φ, sim.put (Nat.le_of_ble_eq_true hd) rfl⟩)

/-! ### A body that moves the cursor -/
/-- Values that come in, as lying in old memory, the cursor's block left out. -/
def oldC (N b : Nat) : V → V
  | .seq sz n f => .old (fun j => j < N ∧ j ≠ b) (.seq sz n f)
  | .agg n f => .agg n fun i => oldC N b (f i)
  | v => v
theorem oldC_rd {b : Nat} {w : World} : ∀ (v : V) (u : Value), Rd w (fun j => j ≠ b) v u → Rd w (fun _ => True) (oldC w.heap.size b v) u
  | .seq sz n f, u, h => ⟨fun j hj => ⟨trivial, hj.1⟩, Rd.mono (S' := fun j => j < w.heap.size ∧ j ≠ b) (fun j hj hlt => ⟨⟨hlt, hj⟩, rfl⟩) _ _ h⟩
  | .agg n f, u, h => by
    obtain ⟨cs, hu, hn, h⟩ := h
    refine ⟨cs, hu, hn, fun i hi => ?_⟩
    obtain ⟨x, hx, hr⟩ := h i hi
    exact ⟨x, hx, oldC_rd (f i) x hr⟩
  | .val _, _, h => h
  | .pin n f, u, h => Rd.mono (S := fun j => j ≠ b) (fun _ _ _ => ⟨trivial, rfl⟩) _ _ h
  | .clo g n f, u, h => Rd.mono (S := fun j => j ≠ b) (fun _ _ _ => ⟨trivial, rfl⟩) _ _ h
  | .old Z v, u, h => Rd.mono (S := fun j => j ≠ b) (fun _ _ _ => ⟨trivial, rfl⟩) _ _ h
  | .row u0 Z sz n f, u, h => Rd.mono (S := fun j => j ≠ b) (fun _ _ _ => ⟨trivial, rfl⟩) _ _ h
  | .grow u0 Z e sz n f, u, h => Rd.mono (S := fun j => j ≠ b) (fun _ _ _ => ⟨trivial, rfl⟩) _ _ h
  | .cur b0 k Z c, u, h => Rd.mono (S := fun j => j ≠ b) (fun _ _ _ => ⟨trivial, rfl⟩) _ _ h
theorem oldCL_rd {b : Nat} {w : World} : ∀ (vs : List V) (us : List Value), RdL w (fun j => j ≠ b) vs us → RdL w (fun _ => True) (vs.map (oldC w.heap.size b)) us
  | [], [], h => h
  | [], _ :: _, h => h.elim
  | _ :: _, [], h => h.elim
  | v :: vs, u :: us, h => ⟨oldC_rd v u h.1, oldCL_rd vs us h.2⟩

/-- Results, and the cursor where it should be. -/
def retC (ts : List Nat) (N : Nat) (R : Res → Prop) (b k' : Nat) (Z : Nat → Prop) (c : V) : Exit → ASt → Prop
  | .normal, s => (∃ j, lookup s.σ 0 = some (.one (.pv (.cur b j Z c))) ∧ j ≤ k') ∧ ∃ r, R r ∧ NewL (fun Z => ∀ j, Z j → N ≤ j) r.list ∧ retOk ts r s
  | .ret, s => (∃ j, lookup s.σ 0 = some (.one (.pv (.cur b j Z c))) ∧ j ≤ k') ∧ ∃ r, R r ∧ NewL (fun Z => ∀ j, Z j → N ≤ j) r.list ∧ retOk ts r s
  | _, _ => False

theorem FnC.of_body {f : FuncId} {fn : Func} {cd : Code} {nt b k k' : Nat} {Z : Nat → Prop} {c : V} {ts : List Nat} {vs : List V} {R : Res → Prop}
    (hcall : ∀ (args : Array Value) (w : World), (callFunc f args).run P w = .ok (.enter f args) w) (hf : P.funcs[f]? = some fn) (hb : fn.body = some cd) (hnt : fn.ntmps = nt)
    (hres : fn.results = (ts.map ResultVar.tmp).toArray) (hlen : vs.length + 1 ≤ nt) (hshape : ∀ r, R r → r.shape ts.length = true)
    (h : ∀ (N : Nat) (cx : Cx), cx.X = isB b → b < N → @AWP cx N P cd (retC ts N R b k' Z c) ⟨slotsOf 0 (.cur b k Z c :: vs.map (oldC N b)), [], nt⟩) : FnC P f b k k' Z c vs R := by
  refine ⟨hcall, fun w u us hu hus => calls_of_wp hf hb ?_⟩
  have hu' := hu
  obtain ⟨hu0, _, hz, cur, cv, p, q, e, hc, _⟩ := hu'
  have hblt : b < w.heap.size := block_lt hc
  have sim := body_start (w := w) (fn := fn) (vs := .cur b k Z c :: vs.map (oldC w.heap.size b)) (us := u :: us) hnt (by simpa using hlen) ⟨hu, oldCL_rd vs us hus⟩
  refine wp_mono (h _ ⟨isB b⟩ rfl hblt w _ _ w rfl ⟨w, @Reb.refl ⟨isB b⟩ _, [], sim⟩) fun e a' w' ⟨s', hq, w1, hR, φ, sim'⟩ => ?_
  obtain ⟨r1, r2, r3, r4, r5, r6⟩ := hR
  have hRB : RebB b w w1 := ⟨r1, r2, r3, r5, fun j hj => r6 j hj⟩
  have fin : ((∃ j, lookup s'.σ 0 = some (.one (.pv (.cur b j Z c))) ∧ j ≤ k') ∧ ∃ r, R r ∧ NewL (fun Z => ∀ j, Z j → w.heap.size ≤ j) r.list ∧ retOk ts r s') → a'.defers = [] ∧ ∃ v, (results fn a'.tmps).run P w' = .ok v w' ∧
      ∃ w1 r x φ, RebB b w w1 ∧ Rd w1 (fun _ => True) (.cur b k' Z c) u ∧ R r ∧ NewL (fun Z => ∀ j, Z j → w.heap.size ≤ j) r.list ∧ Ending.returned v = .returned x ∧ Heap w1 (fun _ => True) (bring r.list []).2 φ w' ∧ RdSlot w' (Stab w1 (fun _ => True) (bring r.list []).2 φ) φ (r.slot (bring r.list []).1) x := by
    rintro ⟨⟨j, hj, hjk⟩, r, hRr, hnew, hq⟩
    obtain ⟨u1, _, hr1⟩ := sim'.slots 0 _ hj
    obtain ⟨_, _, hz1, cur1, cv1, p1, q1, e1, hc1, h31, hp1, hq1, hrd1⟩ := hr1
    have hbel := sim'.heap.below
    have hs1 := hRB.size
    have hcur1 : Rd w1 (fun _ => True) (.cur b k' Z c) u := by
      refine ⟨hu0, trivial, fun i hi => ⟨trivial, by rw [hs1]; exact (hz i hi).2.1, (hz i hi).2.2⟩, cur1, cv1, p1, q1, e1, ?_, h31, ⟨hp1.1, by omega⟩, hq1, ?_⟩
      · rw [← hbel.block b (by omega)]; exact hc1
      · exact Rd.mono (S' := Z) (fun i hi _ => ⟨hi, (hbel.block i (by rw [hs1]; exact (hz i hi).2.1)).symm⟩) _ _ hrd1
    unfold retOk at hq
    split at hq
    · rename_i vs' hvs
      obtain ⟨hfit, hnd⟩ := hq
      have hrd := getL_rd sim' ts vs' hvs
      obtain ⟨hh, hst⟩ := sim'.results_heap hfit hnd
      have hsl := results_slots hst vs' r.list _ [] [] rfl hfit hrd
      have eb : (bring r.list []).2 = (blksOf r.list).map some := by rw [bring_blks]; rfl
      refine ⟨sim'.defers.1, _, run_results hres _ _, w1, r, _, _, hRB, hcur1, hRr, hnew, rfl, by rw [eb]; exact hh, ?_⟩
      rw [eb]
      simp only [List.nil_append] at hsl
      have hshape := hshape r hRr
      cases r with
      | one r =>
        have h1 : ts.length = 1 := by simpa [Res.shape] using hshape
        rw [if_pos h1]
        match ts, h1 with
        | [t], _ => cases r <;> exact hsl.1
      | many l =>
        have h1 : ts.length ≠ 1 := by simpa [Res.shape] using hshape
        rw [if_neg h1]
        exact ⟨_, rfl, hsl⟩
    · exact hq.elim
  cases e with
  | normal => exact fin hq
  | ret => exact fin hq
  | _ => exact hq.elim

/-! ### A cursor of the call's own -/
def letCurK (N : Nat) (t : Nat) (s : ASt) (K : ASt → Prop) : Prop :=
  ∃ (id : Nat) (blk : Blk) (Z : Nat → Prop) (c : V), lookup s.σ t = some (.one (.ptr id 0)) ∧ s.h[id]? = some (some blk) ∧ 3 ≤ blk.n ∧ blk.f 0 = .old Z c ∧ blk.f 1 = .val (.int .i64 0) ∧ blk.f 2 = .val (.int .u64 0) ∧ (∀ j, Z j → j < N) ∧
    ∀ b, N ≤ b → (∀ Z', ZSt Z' s → ¬ Z' b) → K ⟨upd s.σ t (.one (.pv (.cur b 0 Z c))), s.h.set id none, s.nt⟩

theorem AWP.letCur [Cx] {cd : Code} {Q : Exit → ASt → Prop} (t : Nat) (h : letCurK N t s (AWP N P cd Q)) : AWP N P cd Q s := by
  refine AWP.of_step fun w0 S0 φ a w hN sim => ?_
  obtain ⟨id, blk, Z, c, ht, hb, hn, h0, h1, h2, hZ, h⟩ := h
  obtain ⟨sv, hst⟩ := sim.letgo id
  obtain ⟨u, hu, b, z, hφ, rfl⟩ := sim.slots t _ ht
  obtain ⟨cur, _, hB, hcur, hnc, hx⟩ := sim.blkAt hb hφ
  refine ⟨_, φ, h b (by omega) (fun Z' hZ' hz => (hZ'.there sim b hz).1.2 ⟨id, blk, _, hb, hφ⟩), ⟨sv.heap, fun t' v hv => ?_, sv.defers, sv.size⟩⟩
  rw [lookup_upd] at hv
  split at hv
  · rename_i et; subst et; injection hv with hv; subst hv
    refine ⟨_, hu, ?_⟩
    obtain ⟨x0, hx0, hr0⟩ := hx 0 (by omega)
    obtain ⟨x1, hx1, hr1⟩ := hx 1 (by omega)
    obtain ⟨x2, hx2, hr2⟩ := hx 2 (by omega)
    rw [h0] at hr0; rw [h1] at hr1; rw [h2] at hr2
    have hr1 : x1 = .int .i64 0 := hr1
    have hr2 : x2 = .int .u64 0 := hr2
    subst hr1 hr2
    have hlive : Live s.h φ b := ⟨id, blk, _, hb, hφ⟩
    refine ⟨rfl, ⟨.inr hB, ?_⟩, fun j hj => ⟨hst j (hr0.1 j hj).1, (hr0.1 j hj).2, fun e => (hr0.1 j hj).1.2 (e ▸ hlive)⟩, cur, x0, 0, 0, blk.elem, hcur, ⟨hx0, hx1, hx2⟩, ⟨by omega, by omega⟩, ⟨by omega, by omega⟩, hr0.2⟩
    rintro ⟨i, x, z', g1, g2⟩
    by_cases ei : id = i
    · subst ei
      have := (List.getElem?_eq_some_iff.1 hb).1
      simp [this] at g1
    · rw [List.getElem?_set_ne ei] at g1
      exact ei (sim.heap.inj id i blk x b _ _ hb g1 hφ g2)
  · exact sv.slots t' v hv
end

open Go.RowKit Go.Proofs
set_option linter.unusedSimpArgs false
set_option linter.unusedVariables false

variable {P : Program} {w0 : World} {S0 : Nat → Prop} {s : ASt} {φ : List (Option (Nat × Nat))} {a : Act} {w : World} {N : Nat}

theorem set_some {h : List (Option Blk)} {id id' : Nat} {blk blk' b : Blk} (hb : h[id]? = some (some blk)) (hi : (h.set id (some b))[id']? = some (some blk')) : ∃ b0, h[id']? = some (some b0) := by
  rw [List.getElem?_set] at hi
  split at hi
  · rename_i e; subst e; exact ⟨blk, hb⟩
  · exact ⟨blk', hi⟩

theorem SimAt.bare (sim : SimAt w0 S0 s φ a w) {id : Nat} {blk : Blk} {g : Nat → V} (hb : s.h[id]? = some (some blk)) (hg : ∀ i, i < blk.n → Bare (blk.f i) (g i)) : SimAt w0 S0 ⟨s.σ, s.h.set id (some ⟨blk.elem, blk.n, g⟩), s.nt⟩ φ a w := by
  have hst : ∀ b, Stab w0 S0 s.h φ b → Stab w0 S0 (s.h.set id (some ⟨blk.elem, blk.n, g⟩)) φ b := fun b hb' => ⟨hb'.1, fun ⟨id', blk', z, hi, hp⟩ => by
    obtain ⟨b0, h0⟩ := set_some hb hi
    exact hb'.2 ⟨id', b0, z, h0, hp⟩⟩
  have hs : ∀ b, Stab w0 S0 s.h φ b → b < w.heap.size → Stab w0 S0 (s.h.set id (some ⟨blk.elem, blk.n, g⟩)) φ b ∧ w.heap[b]? = w.heap[b]? := fun b hb' _ => ⟨hst b hb', rfl⟩
  refine ⟨⟨by rw [sim.heap.len]; simp, sim.heap.below, fun id' blk' hi => ?_, fun i j bi bj b z z' hi hj hi' hj' => ?_⟩, fun t v ht => ?_, sim.defers, sim.size⟩
  · have hi0 := hi
    rw [List.getElem?_set] at hi
    split at hi
    · rename_i e
      subst e
      split at hi
      · injection hi with hi; injection hi with hi; subst hi
        rcases sim.heap.blk id blk hb with ⟨h6, h7⟩ | ⟨b, cur, h6, h7, h8, h9, h10⟩
        · exact .inl ⟨h6, h7⟩
        · refine .inr ⟨b, cur, h6, h7, h8, h9, fun i hi' => ?_⟩
          obtain ⟨x, hx, hr⟩ := h10 i hi'
          exact ⟨x, hx, Rd.mono hs _ _ (Bare.rd _ _ _ (hg i hi') hr)⟩
      · cases hi
    · rcases sim.heap.blk id' blk' hi with ⟨h6, h7⟩ | ⟨b, cur, h6, h7, h8, h9, h10⟩
      · exact .inl ⟨h6, h7⟩
      · refine .inr ⟨b, cur, h6, h7, h8, h9, fun i hi' => ?_⟩
        obtain ⟨x, hx, hr⟩ := h10 i hi'
        exact ⟨x, hx, Rd.mono hs _ _ hr⟩
  · obtain ⟨b1, h1⟩ := set_some hb hi
    obtain ⟨b2, h2⟩ := set_some hb hj
    exact sim.heap.inj i j b1 b2 b z z' h1 h2 hi' hj'
  · obtain ⟨u, hu, hr⟩ := sim.slots t v ht
    exact ⟨u, hu, RdSlot.mono hs (fun _ _ h => h) v u hr⟩

/-- A block's cells read with less said. -/
theorem AWP.bareBlk [Cx] {cd : Code} {Q : Exit → ASt → Prop} (id : Nat) {blk : Blk} {g : Nat → V} (hb : s.h[id]? = some (some blk)) (hg : ∀ i, i < blk.n → Bare (blk.f i) (g i))
    (h : AWP N P cd Q ⟨s.σ, s.h.set id (some ⟨blk.elem, blk.n, g⟩), s.nt⟩) : AWP N P cd Q s :=
  AWP.of_step fun w0 S0 φ a w hN sim => ⟨_, φ, h, sim.bare hb hg⟩

end Go.Proofs.Yteapdildbfimnaa
