/- Results that lie in new memory, each list in blocks of its own; marks on them. No conditions. -/
import Derived.Test.YteapdildbfimnaaEngJ
import Derived.Test.YteapdildbfimnaaEngK
namespace Go.Proofs.Yteapdildbfimnaa
set_option linter.unusedSimpArgs false
set_option linter.unusedVariables false
open Go.RowKit

/-- Two sets of blocks without a common one. -/
def Disj (Z Z' : Nat → Prop) : Prop := ∀ b, Z b → ¬ Z' b
theorem Disj.symm {Z Z' : Nat → Prop} (h : Disj Z Z') : Disj Z' Z := fun b h1 h2 => h b h2 h1

/-- Z is a set of blocks that v names. -/
inductive ZIn (Z : Nat → Prop) : V → Prop where
  | old (v : V) : ZIn Z (.old Z v)
  | row (u : Value) (sz n : Nat) (f : Nat → V) : ZIn Z (.row u Z sz n f)
  | inRow (u : Value) (Z' : Nat → Prop) (sz n : Nat) (f : Nat → V) (i : Nat) (hi : i < n * sz) (h : ZIn Z (f i)) : ZIn Z (.row u Z' sz n f)
  | grow (u : Value) (e : TypeId) (sz n : Nat) (f : Nat → V) : ZIn Z (.grow u Z e sz n f)
  | inGrow (u : Value) (Z' : Nat → Prop) (e : TypeId) (sz n : Nat) (f : Nat → V) (i : Nat) (hi : i < n * sz) (h : ZIn Z (f i)) : ZIn Z (.grow u Z' e sz n f)
  | inAgg (n : Nat) (f : Nat → V) (i : Nat) (hi : i < n) (h : ZIn Z (f i)) : ZIn Z (.agg n f)
  | cur (b k : Nat) (Z' : Nat → Prop) (c : V) (hZ : ∀ j, Z j → j = b ∨ Z' j) : ZIn Z (.cur b k Z' c)

theorem Wr.lt {w : World} {b : Nat} (h : Wr w b) : b < w.heap.size := by
  obtain ⟨cur, e, h⟩ := h; exact h.lt

theorem ZIn.there {w : World} {S : Nat → Prop} {Z : Nat → Prop} {v : V} (h : ZIn Z v) : ∀ {u : Value}, Rd w S v u → ∀ b, Z b → S b ∧ b < w.heap.size := by
  induction h with
  | old v => intro u hr b hb; exact hr.1 b hb
  | row u sz n f => intro u hr b hb; have := hr.2.1 b hb; exact ⟨this.1, this.2.lt⟩
  | inRow u Z' sz n f i hi h ih =>
    intro u' hr b hb
    obtain ⟨_, _, A, c, _, _, hr⟩ := hr
    obtain ⟨b', off, _, _, hr⟩ := hr (by omega)
    obtain ⟨x, _, hr⟩ := hr i hi
    exact ih hr b hb
  | grow u e sz n f => intro u hr b hb; have := hr.2.1 b hb; exact ⟨this.1, this.2.lt⟩
  | inGrow u Z' e sz n f i hi h ih =>
    intro u' hr b hb
    obtain ⟨_, _, ⟨_, hn⟩ | ⟨b', c, cur, _, _, _, _, _, _, hr⟩⟩ := hr
    · rw [hn] at hi; omega
    · obtain ⟨x, _, hr⟩ := hr i hi
      exact ih hr b hb
  | inAgg n f i hi h ih =>
    intro u' hr b hb
    obtain ⟨cs, _, _, hr⟩ := hr
    obtain ⟨x, _, hr⟩ := hr i hi
    exact ih hr b hb
  | cur b0 k Z' c hZ =>
    intro u hr b hb
    obtain ⟨_, h1, h2, cur, cv, p, q, e, h3, _⟩ := hr
    rcases hZ b hb with rfl | h
    · exact ⟨h1, block_lt h3⟩
    · exact ⟨(h2 b h).1, (h2 b h).2.1⟩

/-- Z is a set of blocks that the state names. -/
def ZSt (Z : Nat → Prop) (s : ASt) : Prop := (∃ t v, lookup s.σ t = some (.one (.pv v)) ∧ ZIn Z v) ∨ ∃ (id : Nat) (blk : Blk) (i : Nat), s.h[id]? = some (some blk) ∧ i < blk.n ∧ ZIn Z (blk.f i)

theorem ZSt.there {w0 : World} {S0 : Nat → Prop} {s : ASt} {φ : List (Option (Nat × Nat))} {a : Act} {w : World} {Z : Nat → Prop} (h : ZSt Z s) (sim : SimAt w0 S0 s φ a w) : ∀ b, Z b → Stab w0 S0 s.h φ b ∧ b < w.heap.size := by
  rcases h with ⟨t, v, h1, h2⟩ | ⟨id, blk, i, h1, h2, h3⟩
  · obtain ⟨u, _, hr⟩ := sim.slots t _ h1
    exact h2.there hr
  · rcases sim.heap.blk id blk h1 with ⟨_, h4⟩ | ⟨b, cur, _, _, _, _, h5⟩
    · omega
    · obtain ⟨x, _, hr⟩ := h5 i h2
      exact h3.there hr

/-- New memory alone; p holds of all sets of blocks that are named. -/
def NewV (p : (Nat → Prop) → Prop) : V → Prop
  | .val _ => True
  | .row _ Z sz n f => p Z ∧ ∀ i, i < n * sz → NewV p (f i)
  | .grow _ Z _ sz n f => p Z ∧ ∀ i, i < n * sz → NewV p (f i)
  | .agg n f => ∀ i, i < n → NewV p (f i)
  | .old Z _ => p Z
  | _ => False

def NewL (p : (Nat → Prop) → Prop) : List RV → Prop
  | [] => True
  | .pv v :: r => NewV p v ∧ NewL p r
  | .fr _ _ b :: r => (∀ i, i < b.n → NewV p (b.f i)) ∧ NewL p r

theorem NewV.mono {p q : (Nat → Prop) → Prop} (h : ∀ Z, p Z → q Z) : ∀ v : V, NewV p v → NewV q v
  | .val _, _ => trivial
  | .row _ Z sz n f, hv => ⟨h _ hv.1, fun i hi => NewV.mono h (f i) (hv.2 i hi)⟩
  | .grow _ Z _ sz n f, hv => ⟨h _ hv.1, fun i hi => NewV.mono h (f i) (hv.2 i hi)⟩
  | .agg n f, hv => fun i hi => NewV.mono h (f i) (hv i hi)
  | .seq _ _ _, hv => hv.elim
  | .pin _ _, hv => hv.elim
  | .clo _ _ _, hv => hv.elim
  | .old Z _, hv => h Z hv
  | .cur _ _ _ _, hv => hv.elim
theorem NewL.mono {p q : (Nat → Prop) → Prop} (h : ∀ Z, p Z → q Z) : ∀ rs : List RV, NewL p rs → NewL q rs
  | [], _ => trivial
  | .pv v :: r, hv => ⟨NewV.mono h v hv.1, NewL.mono h r hv.2⟩
  | .fr _ _ b :: r, hv => ⟨fun i hi => NewV.mono h _ (hv.1 i hi), NewL.mono h r hv.2⟩

/-- What is read in new memory is read whoever asks. -/
theorem NewV.rd {w : World} {S S' : Nat → Prop} {p : (Nat → Prop) → Prop} (hS : ∀ Z, p Z → (∀ b, Z b → S b) → ∀ b, Z b → S' b) : ∀ (v : V) (u : Value), NewV p v → Rd w S v u → Rd w S' v u
  | .val _, _, _, h => h
  | .row u0 Z sz n f, u, hv, h => by
    obtain ⟨e, hz, A, c, hu, hc, h⟩ := h
    refine ⟨e, fun b hb => ⟨hS Z hv.1 (fun b hb => (hz b hb).1) b hb, (hz b hb).2⟩, A, c, hu, hc, fun hp => ?_⟩
    obtain ⟨b, off, hA, hZ, h⟩ := h hp
    refine ⟨b, off, hA, hZ, fun i hi => ?_⟩
    obtain ⟨x, hx, hr⟩ := h i hi
    exact ⟨x, hx, NewV.rd hS (f i) x (hv.2 i hi) hr⟩
  | .grow u0 Z e sz n f, u, hv, h => by
    obtain ⟨hu, hz, h⟩ := h
    refine ⟨hu, fun b hb => ⟨hS Z hv.1 (fun b hb => (hz b hb).1) b hb, (hz b hb).2⟩, ?_⟩
    rcases h with h | ⟨b, c, cur, h1, h2, h3, h4, h5, h6, h7⟩
    · exact .inl h
    · refine .inr ⟨b, c, cur, h1, h2, h3, h4, h5, h6, fun i hi => ?_⟩
      obtain ⟨x, hx, hr⟩ := h7 i hi
      exact ⟨x, hx, NewV.rd hS (f i) x (hv.2 i hi) hr⟩
  | .agg n f, u, hv, h => by
    obtain ⟨cs, hu, hn, h⟩ := h
    refine ⟨cs, hu, hn, fun i hi => ?_⟩
    obtain ⟨x, hx, hr⟩ := h i hi
    exact ⟨x, hx, NewV.rd hS (f i) x (hv i hi) hr⟩
  | .seq _ _ _, _, hv, _ => hv.elim
  | .pin _ _, _, hv, _ => hv.elim
  | .clo _ _ _, _, hv, _ => hv.elim
  | .old Z _, _, hv, h => ⟨fun b hb => ⟨hS Z hv (fun b hb => (h.1 b hb).1) b hb, (h.1 b hb).2⟩, h.2⟩
  | .cur _ _ _ _, _, hv, _ => hv.elim

/-- Called with values that read as vs the function f returns values that read as some r of R, all of it in new memory. -/
structure FnE (P : Program) (f : FuncId) (vs : List V) (R : Res → Prop) : Prop where
  entry : ∀ (args : Array Value) (w : World), (callFunc f args).run P w = .ok (.enter f args) w
  runs : ∀ (w : World) (us : List Value), RdL w (fun _ => True) vs us → Calls P f us.toArray w fun e w' =>
    ∃ r u φ, R r ∧ NewL (fun Z => ∀ b, Z b → w.heap.size ≤ b) r.list ∧ e = .returned u ∧ Heap w (fun _ => True) (bring r.list []).2 φ w' ∧ RdSlot w' (Stab w (fun _ => True) (bring r.list []).2 φ) φ (r.slot (bring r.list []).1) u

section
variable {P : Program} {w0 : World} {S0 : Nat → Prop} {s : ASt} {φ : List (Option (Nat × Nat))} {a : Act} {w : World}

theorem new_blk {p : (Nat → Prop) → Prop} {rs : List RV} (h : NewL p rs) : ∀ (g : List (Option Blk)) (id : Nat) (blk : Blk), (bring rs g).2[id]? = some (some blk) → (∀ (id : Nat) (blk : Blk), g[id]? = some (some blk) → ∀ i, i < blk.n → NewV p (blk.f i)) →
    ∀ i, i < blk.n → NewV p (blk.f i) := by
  induction rs with
  | nil => intro g id blk hi hg; exact hg id blk hi
  | cons r rs ih =>
    intro g id blk hi hg
    cases r with
    | pv v => exact ih h.2 g id blk hi hg
    | fr sz len b =>
      refine ih h.2 (g ++ [some b]) id blk hi fun id' blk' hi' => ?_
      rcases Nat.lt_or_ge id' g.length with hlt | hge
      · rw [List.getElem?_append_left hlt] at hi'; exact hg _ _ hi'
      · rw [List.getElem?_append_right hge] at hi'
        have : id' - g.length = 0 := by
          rcases Nat.eq_zero_or_pos (id' - g.length) with h0 | h0
          · exact h0
          · rw [List.getElem?_eq_none (by simp; omega)] at hi'; cases hi'
        rw [this] at hi'
        simp at hi'
        subst hi'
        exact h.1

theorem new_slots {p : (Nat → Prop) → Prop} {S S' : Nat → Prop} {w' : World} {ψ : List (Option (Nat × Nat))} (hS : ∀ Z, p Z → (∀ b, Z b → S b) → ∀ b, Z b → S' b) {rs : List RV} (h : NewL p rs) :
    ∀ (g : List (Option Blk)) (us : List Value), RdSs w' S ψ (bring rs g).1 us → RdSs w' S' ψ (bring rs g).1 us := by
  induction rs with
  | nil => intro g us hr; cases us with | nil => trivial | cons _ _ => exact hr.elim
  | cons r rs ih =>
    intro g us hr
    cases r with
    | pv v =>
      cases us with
      | nil => exact hr.elim
      | cons u us => exact ⟨NewV.rd hS v u h.1 hr.1, ih h.2 g us hr.2⟩
    | fr sz len b =>
      cases us with
      | nil => exact hr.elim
      | cons u us => exact ⟨hr.1, ih h.2 _ us hr.2⟩

theorem stab_empty {w : World} {S1 : Nat → Prop} {g : List (Option Blk)} {ψ : List (Option (Nat × Nat))} {b : Nat} (h : Stab w S1 g ψ b) : ¬ Live g ψ b := h.2

/-- The state behind a call whose results lie in new memory. -/
theorem SimAt.call_new (sim : SimAt w0 S0 s φ a w) {d : Nat} (hd : d < s.nt) {r : Res} (hs : NewL (fun Z => ∀ b, Z b → w.heap.size ≤ b) r.list) {ψ : List (Option (Nat × Nat))} {w' : World} {u : Value}
    (hh : Heap w (fun _ => True) (bring r.list []).2 ψ w') (hr : RdSlot w' (Stab w (fun _ => True) (bring r.list []).2 ψ) ψ (r.slot (bring r.list []).1) u) :
    SimAt w0 S0 (bringIn s d r) (φ ++ ψ) (a.put (some d) u) w' := by
  have hw := sim.heap.below.size
  have key : ∀ Z : Nat → Prop, (∀ b, Z b → w.heap.size ≤ b) → (∀ b, Z b → Stab w (fun _ => True) (bring r.list []).2 ψ b) → ∀ b, Z b → Stab w0 S0 (s.h ++ (bring r.list []).2) (φ ++ ψ) b := fun Z hZ h1 b hb => by
    have h2 := hZ b hb
    refine ⟨.inr (by omega), fun hl => ?_⟩
    rcases (live_append sim.heap.len).1 hl with h3 | h3
    · have := (sim.heap.live_ge h3).2; omega
    · exact (h1 b hb).2 h3
  have hj := sim.join hh fun id blk i x hid hi hr => NewV.rd key _ _ (new_blk hs [] id blk hid (fun _ _ h => by simp at h) i hi) hr
  have e := bring_nil r.list s.h
  have hp := hj.put (d := d) hd (v := r.slot (bring r.list s.h).1) (u := u) (by
    refine rdSlot_bring (g := []) (g' := s.h) r (fun us hus => ?_) hr
    have h1 := new_slots (S' := Stab w (Stab w0 S0 s.h φ) (bring r.list []).2 ψ) (fun Z hZ h1 b hb => ⟨.inr (hZ b hb), (h1 b hb).2⟩) hs [] us hus
    have := bring_slots (S' := Stab w0 S0 (s.h ++ (bring r.list []).2) (φ ++ ψ)) r.list (fun b hb => sim.stab_callee b hb) s.h [] us sim.heap.len h1
    simpa using this)
  rw [← e] at hp
  exact hp

/-- What stands behind a call of such a function. -/
def callEK (N : Nat) (P : Program) (f : FuncId) (args : List Operand) (d : Nat) (s : ASt) (K : ASt → Prop) : Prop :=
  argsK s args true [] fun _ vs => ∃ R : Res → Prop, FnE P f vs R ∧ d < s.nt ∧ ∀ r, R r → NewL (fun Z => (∀ b, Z b → N ≤ b) ∧ ∀ Z', ZSt Z' s → Disj Z' Z) r.list → K (bringIn s d r)

theorem callE_rule {N : Nat} {f : FuncId} {args : Array Operand} {d ty : Nat} {ts : Array TypeId} {pos : String} {after : Array Edge} :
    OpRule N P ⟨some d, .call ⟨.value (.func f), args, ts⟩, ty, pos, after, none⟩ (fun s K => callEK N P f args.toList d s K) := by
  refine ⟨rfl, fun w0 S0 s φ a w K next Q hN sim h hn => ?_⟩
  obtain ⟨p', vs', ⟨R, hf, hd, hK⟩, h3, h4⟩ := argsK_ok sim args.toList true [] [] h sim.gl (fun _ => sim.gl)
  have hrun : (execOp a.eval ⟨some d, .call ⟨.value (.func f), args, ts⟩, ty, pos, after, none⟩).run P w = .ok (.enter f (args.toList.map a.eval).toArray) w := by
    have e : execOp a.eval ⟨some d, .call ⟨.value (.func f), args, ts⟩, ty, pos, after, none⟩ = callFunc f (#[] ++ args.map a.eval ++ #[]) := rfl
    rw [e, hf.1]
    congr 2
    rw [← Array.toList_inj]
    simp
  unfold Oper.wp
  rw [hrun, Oper.upon_enter]
  simp only [List.reverse_nil, List.nil_append] at h3 h4
  refine (hf.2 w _ h3).mono ?_
  rintro e w' ⟨r, u, ψ, hr, hnew, rfl, hh, hs⟩
  have hw := sim.heap.below.size
  refine hn _ _ _ (hK r hr (NewL.mono (fun Z hZ => ⟨fun b hb => by have := hZ b hb; omega, fun Z' hZ' b hb hb' => ?_⟩) _ hnew)) ⟨_, sim.call_new hd hnew hh hs⟩
  have h1 := (hZ'.there sim b hb).2
  have h2 := hZ b hb'
  omega

theorem callE_go {N : Nat} {f : FuncId} {args : List Operand} {d : Nat} {s : ASt} {K : ASt → Prop} {vs : List V} {R : Res → Prop} (hf : FnE P f vs R) (hd : d < s.nt)
    (h : ∀ r, R r → NewL (fun Z => (∀ b, Z b → N ≤ b) ∧ ∀ Z', ZSt Z' s → Disj Z' Z) r.list → K (bringIn s d r)) : ∃ R : Res → Prop, FnE P f vs R ∧ d < s.nt ∧ ∀ r, R r → NewL (fun Z => (∀ b, Z b → N ≤ b) ∧ ∀ Z', ZSt Z' s → Disj Z' Z) r.list → K (bringIn s d r) :=
  ⟨R, hf, hd, h⟩

/-- A region with a call of such a function behind n operations. -/
theorem AWP.region_callE [Cx] {N : Nat} {id : Nat} {f : FuncId} {args : Array Operand} {d ty : Nat} {ts : Array TypeId} {pos : String} {after : Array Edge} {os1 os2 : List Oper} {Q : Exit → ASt → Prop} {s : ASt}
    (h : evOps P false (os1 ++ ⟨some d, .call ⟨.value (.func f), args, ts⟩, ty, pos, after, none⟩ :: os2) os1 (fun s' => callEK N P f args.toList d s' (evOps P false (os1 ++ ⟨some d, .call ⟨.value (.func f), args, ts⟩, ty, pos, after, none⟩ :: os2) os2 (Q .normal))) s) :
    AWP N P (.region id (os1 ++ ⟨some d, .call ⟨.value (.func f), args, ts⟩, ty, pos, after, none⟩ :: os2).toArray false) Q s :=
  AWP.region_rule callE_rule h

/-! ### An own slice is let go as a row -/
def letRowK (N : Nat) (t : Nat) (s : ASt) (K : ASt → Prop) : Prop :=
  ∃ (id sz len : Nat) (blk : Blk), lookup s.σ t = some (.one (.own id sz 0 len)) ∧ s.h[id]? = some (some blk) ∧ len * sz ≤ blk.n ∧
    ∀ (u0 : Value) (Z : Nat → Prop), (∀ b, Z b → N ≤ b) → (∀ Z', ZSt Z' s → Disj Z' Z) → K ⟨upd s.σ t (.one (.pv (.row u0 Z sz len blk.f))), s.h.set id none, s.nt⟩

theorem letRow_ok {N : Nat} {t : Nat} {K : ASt → Prop} (hN : w0.heap.size = N) (sim : SimAt w0 S0 s φ a w) (h : letRowK N t s K) : ∃ s', K s' ∧ SimAt w0 S0 s' φ a w := by
  obtain ⟨id, sz, len, blk, ht, hb, hl, h⟩ := h
  obtain ⟨sv, hst⟩ := sim.letgo id
  obtain ⟨u, hu, hr⟩ := sim.slots t _ ht
  have fin : ∀ Z : Nat → Prop, (∀ b, Z b → N ≤ b) → (∀ Z', ZSt Z' s → Disj Z' Z) → Rd w (Stab w0 S0 (s.h.set id none) φ) (.row u Z sz len blk.f) u → ∃ s', K s' ∧ SimAt w0 S0 s' φ a w := fun Z h1 h2 h3 => by
    refine ⟨_, h u Z h1 h2, ⟨sv.heap, fun t' v hv => ?_, sv.defers, sv.size⟩⟩
    rw [lookup_upd] at hv
    split at hv
    · rename_i et; subst et; injection hv with hv; subst hv
      exact ⟨u, hu, h3⟩
    · exact sv.slots t' v hv
  rcases hr with ⟨hφ, _, hl0, rfl⟩ | ⟨b', c, z, hφ, rfl, hc, _, _⟩
  · subst hl0
    exact fin (fun _ => False) (fun _ h => h.elim) (fun _ _ _ _ h => h) ⟨rfl, fun _ h => h.elim, none, 0, rfl, Nat.le_refl _, fun hp => by simp at hp⟩
  · obtain ⟨cur, _, hB, hcur, hn, hx⟩ := sim.blkAt hb hφ
    have hlive : Live s.h φ b' := ⟨id, blk, _, hb, hφ⟩
    refine fin (fun b => b = b') (fun b hb' => by subst hb'; omega) (fun Z' hZ' b hz hb' => ?_) ⟨rfl, fun b hb' => ?_, _, c, rfl, hc, fun hp => ⟨b', 0, rfl, rfl, fun i hi => ?_⟩⟩
    · have hb' : b = b' := hb'
      subst hb'
      exact (hZ'.there sim b hz).1.2 hlive
    · have hb' : b = b' := hb'
      subst hb'
      refine ⟨⟨.inr hB, ?_⟩, cur, blk.elem, .inl hcur⟩
      rintro ⟨i, x, z', h1, h2⟩
      by_cases ei : id = i
      · subst ei
        have := (List.getElem?_eq_some_iff.1 hb).1
        simp [this] at h1
      · rw [List.getElem?_set_ne ei] at h1
        exact ei (sim.heap.inj id i blk x b _ _ hb h1 hφ h2)
    · obtain ⟨x, hx1, hx2⟩ := hx i (by omega)
      exact ⟨x, by rw [Nat.zero_add]; exact cell_of_blk hcur hx1, Rd.mono (fun b hb _ => ⟨hst b hb, rfl⟩) _ _ hx2⟩

/-- Within a region. -/
theorem AWP.region_letRow [Cx] {N : Nat} {id : Nat} {Q : Exit → ASt → Prop} {s : ASt} (os1 os2 : List Oper) (t : Nat)
    (h : evOps P false (os1 ++ os2) os1 (fun s' => letRowK N t s' (evOps P false (os1 ++ os2) os2 (Q .normal))) s) : AWP N P (.region id (os1 ++ os2).toArray false) Q s := by
  refine AWP.of0 ?_
  rintro w0 S0 a w hN ⟨φ, sim⟩
  refine wp_region_lit (evOps_then os1 sim h fun s' a' w' hK ⟨φ', sim'⟩ => ?_)
  obtain ⟨s'', hK', sim''⟩ := letRow_ok hN sim' hK
  exact evOps_plain os2 sim'' hK' fun s3 a3 w3 hK3 sim3 => ⟨s3, hK3, sim3⟩

theorem AWP.letRow [Cx] {N : Nat} {c : Code} {Q : Exit → ASt → Prop} {s : ASt} (t : Nat) (h : letRowK N t s (AWP N P c Q)) : AWP N P c Q s := by
  refine AWP.of_step fun w0 S0 φ a w hN sim => ?_
  obtain ⟨s', hK, sim'⟩ := letRow_ok hN sim h
  exact ⟨s', φ, hK, sim'⟩

/-! ### A function's body -/
def retE (ts : List Nat) (N : Nat) (R : Res → Prop) : Exit → ASt → Prop
  | .normal, s => ∃ r, R r ∧ NewL (fun Z => ∀ b, Z b → N ≤ b) r.list ∧ retOk ts r s
  | .ret, s => ∃ r, R r ∧ NewL (fun Z => ∀ b, Z b → N ≤ b) r.list ∧ retOk ts r s
  | _, _ => False

/-- Values that come in, as lying in old memory. -/
def oldV (N : Nat) : V → V
  | .seq sz n f => .old (fun b => b < N) (.seq sz n f)
  | .agg n f => .agg n fun i => oldV N (f i)
  | v => v

theorem oldV_rd {w : World} : ∀ (v : V) (u : Value), Rd w (fun _ => True) v u → Rd w (fun _ => True) (oldV w.heap.size v) u
  | .seq sz n f, u, h => ⟨fun b hb => ⟨trivial, hb⟩, Rd.mono (S' := fun b => b < w.heap.size) (fun b _ hlt => ⟨hlt, rfl⟩) _ _ h⟩
  | .agg n f, u, h => by
    obtain ⟨cs, hu, hn, h⟩ := h
    refine ⟨cs, hu, hn, fun i hi => ?_⟩
    obtain ⟨x, hx, hr⟩ := h i hi
    exact ⟨x, hx, oldV_rd (f i) x hr⟩
  | .val _, _, h => h
  | .pin _ _, _, h => h
  | .clo _ _ _, _, h => h
  | .old _ _, _, h => h
  | .row _ _ _ _ _, _, h => h
  | .grow _ _ _ _ _ _, _, h => h
  | .cur _ _ _ _, _, h => h

theorem oldL_rd {w : World} : ∀ (vs : List V) (us : List Value), RdL w (fun _ => True) vs us → RdL w (fun _ => True) (vs.map (oldV w.heap.size)) us
  | [], [], h => h
  | [], _ :: _, h => h.elim
  | _ :: _, [], h => h.elim
  | v :: vs, u :: us, h => ⟨oldV_rd v u h.1, oldL_rd vs us h.2⟩

theorem body_start {fn : Func} {nt : Nat} {vs : List V} {us : List Value} (hnt : fn.ntmps = nt) (hlen : vs.length ≤ nt) (hus : RdL w (fun _ => True) vs us) :
    SimAt w (fun _ => True) ⟨slotsOf 0 vs, [], nt⟩ [] { tmps := us.toArray ++ Array.replicate (fn.ntmps - us.toArray.size) undef, defers := [] } w := by
  have hul := hus.len
  refine ⟨⟨rfl, Below.refl _ _, fun id blk hi => by simp at hi, fun i j bi bj b z z' hi => by simp at hi⟩, fun t x ht => ?_, ⟨rfl, hus.gl⟩, by simp [hnt]; omega⟩
  obtain ⟨v, rfl, _, hv⟩ := slotsOf_get vs 0 t ht
  obtain ⟨u, hu, hr⟩ := RdL.get vs us t hus (by simpa using hv)
  refine ⟨u, ?_, ?_⟩
  · have : t < us.length := (List.getElem?_eq_some_iff.1 hu).1
    rw [Array.getElem?_append_left (by simpa using this)]; simpa using hu
  · refine Rd.mono (fun b hb hlt => ⟨⟨.inl hb, ?_⟩, rfl⟩) _ _ hr
    rintro ⟨id, blk, z, hi, _⟩; simp at hi

theorem FnE.of_body {f : FuncId} {fn : Func} {c : Code} {nt : Nat} {ts : List Nat} {vs : List V} {R : Res → Prop} (vs' : Nat → List V) (hvs : ∀ (w : World) (us : List Value), RdL w (fun _ => True) vs us → RdL w (fun _ => True) (vs' w.heap.size) us)
    (hcall : ∀ (args : Array Value) (w : World), (callFunc f args).run P w = .ok (.enter f args) w) (hf : P.funcs[f]? = some fn) (hb : fn.body = some c) (hnt : fn.ntmps = nt)
    (hres : fn.results = (ts.map ResultVar.tmp).toArray) (hlen : ∀ N, (vs' N).length ≤ nt) (hshape : ∀ r, R r → r.shape ts.length = true) (h : ∀ N, AWP N P c (retE ts N R) ⟨slotsOf 0 (vs' N), [], nt⟩) : FnE P f vs R := by
  refine ⟨hcall, fun w us hus => calls_of_wp hf hb ?_⟩
  have sim := body_start (w := w) (fn := fn) (vs := vs' w.heap.size) hnt (hlen _) (hvs w us hus)
  refine wp_mono (h _ w _ _ w rfl ⟨w, Reb.refl _, [], sim⟩) fun e a' w' ⟨s', hq, w1, hR, φ, sim'⟩ => ?_
  obtain rfl := hR.none
  have fin : (∃ r, R r ∧ NewL (fun Z => ∀ b, Z b → w.heap.size ≤ b) r.list ∧ retOk ts r s') → a'.defers = [] ∧ ∃ v, (results fn a'.tmps).run P w' = .ok v w' ∧
      ∃ r u φ, R r ∧ NewL (fun Z => ∀ b, Z b → w.heap.size ≤ b) r.list ∧ Ending.returned v = .returned u ∧ Heap w (fun _ => True) (bring r.list []).2 φ w' ∧ RdSlot w' (Stab w (fun _ => True) (bring r.list []).2 φ) φ (r.slot (bring r.list []).1) u := fun ⟨r, hR, hnew, hq⟩ => by
    unfold retOk at hq
    split at hq
    · rename_i vs' hvs
      obtain ⟨hfit, hnd⟩ := hq
      have hrd := getL_rd sim' ts vs' hvs
      obtain ⟨hh, hst⟩ := sim'.results_heap hfit hnd
      have hsl := results_slots hst vs' r.list _ [] [] rfl hfit hrd
      have eb : (bring r.list []).2 = (blksOf r.list).map some := by rw [bring_blks]; rfl
      refine ⟨sim'.defers.1, _, run_results hres _ _, r, _, _, hR, hnew, rfl, by rw [eb]; exact hh, ?_⟩
      rw [eb]
      simp only [List.nil_append] at hsl
      have hshape := hshape r hR
      cases r with
      | one r =>
        have h1 : ts.length = 1 := by simpa [Res.shape] using hshape
        rw [if_pos h1]
        match ts, h1 with
        | [t], _ => cases r <;> exact hsl.1
      | many l =>
        have h1 : ts.length ≠ 1 := by simpa [Res.shape] using hshape
        rw [if_neg h1]
        exact ⟨_, rfl, hsl⟩
    · exact hq.elim
  cases e with
  | normal => exact fin hq
  | ret => exact fin hq
  | _ => exact hq.elim

/-- A struct result that lies in a variable. -/
def retCellE (t n N : Nat) (R : Res → Prop) : Exit → ASt → Prop
  | .normal, s => ∃ g, R (.one (.pv (.agg n g))) ∧ NewV (fun Z => ∀ b, Z b → N ≤ b) (.agg n g) ∧ retCell.cellOk t n g s
  | .ret, s => ∃ g, R (.one (.pv (.agg n g))) ∧ NewV (fun Z => ∀ b, Z b → N ≤ b) (.agg n g) ∧ retCell.cellOk t n g s
  | _, _ => False

theorem FnE.of_body_cell {f : FuncId} {fn : Func} {c : Code} {nt t ty n : Nat} {vs : List V} {R : Res → Prop} (vs' : Nat → List V) (hvs : ∀ (w : World) (us : List Value), RdL w (fun _ => True) vs us → RdL w (fun _ => True) (vs' w.heap.size) us)
    (hcall : ∀ (args : Array Value) (w : World), (callFunc f args).run P w = .ok (.enter f args) w) (hf : P.funcs[f]? = some fn) (hb : fn.body = some c) (hnt : fn.ntmps = nt)
    (hres : fn.results = #[ResultVar.cell t ty]) (hc : cellsIn P ty = some (some n)) (hlen : ∀ N, (vs' N).length ≤ nt) (h : ∀ N, AWP N P c (retCellE t n N R) ⟨slotsOf 0 (vs' N), [], nt⟩) : FnE P f vs R := by
  refine ⟨hcall, fun w us hus => calls_of_wp hf hb ?_⟩
  have sim := body_start (w := w) (fn := fn) (vs := vs' w.heap.size) hnt (hlen _) (hvs w us hus)
  refine wp_mono (h _ w _ _ w rfl ⟨w, Reb.refl _, [], sim⟩) fun e a' w' ⟨s', hq, w1, hR, φ, sim'⟩ => ?_
  obtain rfl := hR.none
  have fin : (∃ g, R (.one (.pv (.agg n g))) ∧ NewV (fun Z => ∀ b, Z b → w.heap.size ≤ b) (.agg n g) ∧ retCell.cellOk t n g s') → a'.defers = [] ∧ ∃ v, (results fn a'.tmps).run P w' = .ok v w' ∧
      ∃ r u φ, R r ∧ NewL (fun Z => ∀ b, Z b → w.heap.size ≤ b) r.list ∧ Ending.returned v = .returned u ∧ Heap w (fun _ => True) (bring r.list []).2 φ w' ∧ RdSlot w' (Stab w (fun _ => True) (bring r.list []).2 φ) φ (r.slot (bring r.list []).1) u := fun ⟨g, hR, hnew, hq⟩ => by
    unfold retCell.cellOk at hq
    split at hq
    · rename_i id off hl
      split at hq
      · rename_i blk hblk
        obtain ⟨hle, hve⟩ := hq
        obtain ⟨u, hu, b, z, hφ, rfl⟩ := sim'.slots t _ hl
        obtain ⟨cur, _, hB, hcur, hn, hx⟩ := sim'.blkAt hblk hφ
        have hst : ∀ b, Stab w (fun _ => True) s'.h φ b → Stab w (fun _ => True) [] [] b := fun b hb => ⟨hb.1, fun ⟨i, x, z, h1, _⟩ => by simp at h1⟩
        have hg : ∀ j, j < n → w'.cell? ⟨b, off + j, none⟩ = some (cur.getD (off + j) undef) ∧ Rd w' (Stab w (fun _ => True) [] []) (g j) (cur.getD (off + j) undef) := fun j hj => by
          obtain ⟨x, hx1, hx2⟩ := hx (off + j) (by omega)
          have e : cur.getD (off + j) undef = x := by simp [hx1]
          rw [e]
          exact ⟨cell_of_blk hcur hx1, VE.rd _ _ _ (hve j hj) (Rd.mono (fun b hb _ => ⟨hst b hb, rfl⟩) _ _ hx2)⟩
        refine ⟨sim'.defers.1, _, run_results_cell hres hc _ b off (by simp [hu]) (fun j => cur.getD (off + j) undef) w' fun j hj => (hg j hj).1, .one (.pv (.agg n g)), _, [], hR, ⟨hnew, trivial⟩, rfl, ⟨rfl, sim'.heap.below, fun id blk hi => by simp [bring, Res.list] at hi, fun i j bi bj b z z' hi => by simp [bring, Res.list] at hi⟩, ?_⟩
        exact rd_agg fun j hj => (hg j hj).2
      · exact hq.elim
    · exact hq.elim
  cases e with
  | normal => exact fin hq
  | ret => exact fin hq
  | _ => exact hq.elim

/-! ### Contracts in other words -/
/-- A value read with less said of where it lies. -/
def Bare : V → V → Prop
  | .old _ v, v' => Bare v v'
  | .row _ _ sz n f, .seq sz' n' g => sz = sz' ∧ n = n' ∧ ∀ i, i < n * sz → Bare (f i) (g i)
  | .grow _ _ _ sz n f, .seq sz' n' g => sz = sz' ∧ n = n' ∧ ∀ i, i < n * sz → Bare (f i) (g i)
  | .agg n f, .agg n' g => n = n' ∧ ∀ i, i < n → Bare (f i) (g i)
  | v, v' => VE v v'

theorem Bare.rd {w : World} {S : Nat → Prop} : ∀ (v v' : V) (u : Value), Bare v v' → Rd w S v u → Rd w S v' u
  | .old Z v, v', u, h, hr => Bare.rd v v' u (by cases v' <;> exact h) (Rd.mono (S := Z) (fun b hb _ => ⟨(hr.1 b hb).1, rfl⟩) _ _ hr.2)
  | .row u0 Z sz n f, .seq sz' n' g, u, h, hr => by
    obtain ⟨rfl, rfl, h⟩ := h
    obtain ⟨_, hz, A, c, rfl, hc, hr⟩ := hr
    refine ⟨A, c, rfl, hc, fun hp => ?_⟩
    obtain ⟨b, off, hA, hZ, hr⟩ := hr hp
    refine ⟨b, off, hA, (hz b hZ).1, fun i hi => ?_⟩
    obtain ⟨x, hx, hr⟩ := hr i hi
    exact ⟨x, hx, Bare.rd (f i) (g i) x (h i hi) hr⟩
  | .grow u0 Z e sz n f, .seq sz' n' g, u, h, hr => by
    obtain ⟨rfl, rfl, h⟩ := h
    obtain ⟨_, hz, hr⟩ := hr
    rcases hr with ⟨rfl, hn⟩ | ⟨b, c, cur, rfl, h2, h3, h4, h5, h6, h7⟩
    · exact ⟨none, 0, by rw [hn], by omega, fun hp => by rw [hn] at hp; omega⟩
    · refine ⟨_, c, rfl, h2, fun _ => ⟨b, 0, rfl, (hz b h4).1, fun i hi => ?_⟩⟩
      obtain ⟨x, hx, hr⟩ := h7 i hi
      exact ⟨x, by rw [Nat.zero_add]; exact h5.cell hx, Bare.rd (f i) (g i) x (h i hi) hr⟩
  | .agg n f, .agg n' g, u, h, hr => by
    obtain ⟨rfl, h⟩ := h
    obtain ⟨cs, hu, hn, hr⟩ := hr
    refine ⟨cs, hu, hn, fun i hi => ?_⟩
    obtain ⟨x, hx, hr⟩ := hr i hi
    exact ⟨x, hx, Bare.rd (f i) (g i) x (h i hi) hr⟩
  | .val a, v', u, h, hr => VE.rd _ _ _ (by cases v' <;> exact h) hr
  | .seq a b c, v', u, h, hr => VE.rd _ _ _ (by cases v' <;> exact h) hr
  | .pin a b, v', u, h, hr => VE.rd _ _ _ (by cases v' <;> exact h) hr
  | .clo a b c, v', u, h, hr => VE.rd _ _ _ (by cases v' <;> exact h) hr
  | .row a b c d e, .val x, u, h, hr => h.elim
  | .row a b c d e, .agg x y, u, h, hr => h.elim
  | .row a b c d e, .pin x y, u, h, hr => h.elim
  | .row a b c d e, .clo x y z, u, h, hr => h.elim
  | .row a b c d e, .old x y, u, h, hr => h.elim
  | .row a b c d e, .row x y z i j, u, h, hr => VE.rd _ _ _ h hr
  | .row a b c d e, .grow x y z i j k, u, h, hr => h.elim
  | .grow a b c d e f, .val x, u, h, hr => h.elim
  | .grow a b c d e f, .agg x y, u, h, hr => h.elim
  | .grow a b c d e f, .pin x y, u, h, hr => h.elim
  | .grow a b c d e f, .clo x y z, u, h, hr => h.elim
  | .grow a b c d e f, .old x y, u, h, hr => h.elim
  | .grow a b c d e f, .row x y z i j, u, h, hr => VE.rd _ _ _ h hr
  | .grow a b c d e f, .grow x y z i j k, u, h, hr => VE.rd _ _ _ h hr
  | .agg a b, .grow x y z i j k, u, h, hr => h.elim
  | .agg a b, .val x, u, h, hr => h.elim
  | .agg a b, .seq x y z, u, h, hr => h.elim
  | .agg a b, .pin x y, u, h, hr => h.elim
  | .agg a b, .clo x y z, u, h, hr => h.elim
  | .agg a b, .old x y, u, h, hr => h.elim
  | .agg a b, .row x y z i j, u, h, hr => h.elim
  | .cur a b c d, v', u, h, hr => VE.rd _ _ _ (by cases v' <;> exact h) hr
  | .row a b c d e, .cur x y z i, u, h, hr => h.elim
  | .grow a b c d e f, .cur x y z i, u, h, hr => h.elim
  | .agg a b, .cur x y z i, u, h, hr => h.elim

def BareL : List V → List V → Prop
  | [], [] => True
  | v :: vs, v' :: vs' => Bare v v' ∧ BareL vs vs'
  | _, _ => False
theorem BareL.rd {w : World} {S : Nat → Prop} : ∀ (vs vs' : List V) (us : List Value), BareL vs vs' → RdL w S vs us → RdL w S vs' us
  | [], [], _, _, h => h
  | [], _ :: _, _, e, _ => e.elim
  | _ :: _, [], _, e, _ => e.elim
  | _ :: _, _ :: _, [], _, h => h.elim
  | v :: vs, v' :: vs', u :: us, e, h => ⟨Bare.rd v v' u e.1 h.1, BareL.rd vs vs' us e.2 h.2⟩
theorem Fn.bare {f : FuncId} {vs vs' : List V} {r : Res} (h : Fn P f vs r) (e : BareL vs' vs) : Fn P f vs' r := ⟨h.entry, fun w S us hr => h.runs w S us (BareL.rd vs' vs us e hr)⟩
theorem FnE.bare {f : FuncId} {vs vs' : List V} {R : Res → Prop} (h : FnE P f vs R) (e : BareL vs' vs) : FnE P f vs' R := ⟨h.entry, fun w us hr => h.runs w us (BareL.rd vs' vs us e hr)⟩

/-- A contract whose arguments may be read as lying in old memory (its results are scalars). -/
theorem Fn.of_old {f : FuncId} {vs : List V} {v : Value} (h : FnE P f vs (fun r => r = .one (.pv (.val v)))) : Fn P f vs (.one (.pv (.val v))) := by
  refine ⟨h.entry, fun w S us hus => (h.runs w us (RdL.mono (fun b _ _ => ⟨trivial, rfl⟩) _ _ hus)).mono ?_⟩
  rintro e w' ⟨r, u, φ, rfl, _, he, hh, hr⟩
  exact ⟨u, [], he, ⟨rfl, hh.below, fun id blk hi => by simp [bring, Res.list] at hi, fun i j bi bj b z z' hi => by simp [bring, Res.list] at hi⟩, hr⟩

/-- An own slice of scalars that comes back, as a row. -/
theorem Fn.toRow {f : FuncId} {vs : List V} {sz n : Nat} {b : Blk} (h : Fn P f vs (.one (.fr sz n b))) (hl : n * sz ≤ b.n) (hs : ∀ i, i < b.n → ∃ v, b.f i = .val v) :
    FnE P f vs (fun r => ∃ (u0 : Value) (Z : Nat → Prop), r = .one (.pv (.row u0 Z sz n b.f))) := by
  refine ⟨h.entry, fun w us hus => (h.runs w (fun _ => True) us hus).mono ?_⟩
  rintro e w' ⟨u, φ, he, hh, hr⟩
  have h0 : ∀ Z : Nat → Prop, Rd w' (Stab w (fun _ => True) [] []) (.row u Z sz n b.f) u → (∀ k, Z k → w.heap.size ≤ k) → ∃ r u φ, (∃ (u0 : Value) (Z : Nat → Prop), r = Res.one (.pv (.row u0 Z sz n b.f))) ∧ NewL (fun Z => ∀ b, Z b → w.heap.size ≤ b) r.list ∧ e = .returned u ∧ Heap w (fun _ => True) (bring r.list []).2 φ w' ∧ RdSlot w' (Stab w (fun _ => True) (bring r.list []).2 φ) φ (r.slot (bring r.list []).1) u :=
    fun Z h1 h2 => ⟨_, u, [], ⟨u, Z, rfl⟩, ⟨⟨h2, fun i hi => by obtain ⟨v, hv⟩ := hs i (by omega); rw [hv]; trivial⟩, trivial⟩, he, ⟨rfl, hh.below, fun id blk hi => by simp [bring, Res.list] at hi, fun i j bi bj b z z' hi => by simp [bring, Res.list] at hi⟩, h1⟩
  have hb : (bring (Res.one (.fr sz n b)).list []).2[0]? = some (some b) := rfl
  rcases hr with ⟨hφ, _, hl0, rfl⟩ | ⟨b', c, z, hφ, rfl, hc, _, _⟩
  · subst hl0
    exact h0 (fun _ => False) ⟨rfl, fun _ h => h.elim, none, 0, rfl, Nat.le_refl _, fun hp => by simp at hp⟩ (fun _ h => h.elim)
  · rcases hh.blk 0 b hb with ⟨h1, _⟩ | ⟨b'', cur, h1, h2, h3, h4, h5⟩
    · have : φ[0]? = some (some (b', z)) := hφ
      rw [this] at h1; cases h1
    · have e1 : φ[0]? = some (some (b', z)) := hφ
      rw [e1] at h1; injection h1 with h1; injection h1 with h1; injection h1 with h1 _
      subst h1
      refine h0 (fun k => k = b') ⟨rfl, fun k hk => ?_, _, c, rfl, hc, fun hp => ⟨b', 0, rfl, rfl, fun i hi => ?_⟩⟩ (fun k hk => by have hk : k = b' := hk; omega)
      · have hk : k = b' := hk
        subst hk
        exact ⟨⟨.inl trivial, fun ⟨i, x, z, h1, _⟩ => by simp at h1⟩, cur, b.elem, .inl h3⟩
      · obtain ⟨x, hx1, hx2⟩ := h5 i (by omega)
        obtain ⟨v, hv⟩ := hs i (by omega)
        rw [hv] at hx2 ⊢
        exact ⟨x, by rw [Nat.zero_add]; exact cell_of_blk h3 hx1, hx2⟩

/-- An own slice of rows that comes back, as a row itself. -/
theorem FnE.toRow {f : FuncId} {vs : List V} {R : Res → Prop} (h : FnE P f vs R) (hR : ∀ r, R r → ∃ sz n b, r = .one (.fr sz n b) ∧ n * sz ≤ b.n) :
    FnE P f vs (fun r' => ∃ (sz n : Nat) (b : Blk) (u0 : Value) (Z : Nat → Prop), R (.one (.fr sz n b)) ∧ (∀ i, i < n * sz → ∀ Z', ZIn Z' (b.f i) → Disj Z Z') ∧ r' = .one (.pv (.row u0 Z sz n b.f))) := by
  refine ⟨h.entry, fun w us hus => (h.runs w us hus).mono ?_⟩
  rintro e w' ⟨r, u, φ, hr0, hnew, he, hh, hr⟩
  obtain ⟨sz, n, b, rfl, hl⟩ := hR r hr0
  have hb : (bring (Res.one (.fr sz n b)).list []).2[0]? = some (some b) := rfl
  have hst : ∀ k, Stab w (fun _ => True) (bring (Res.one (.fr sz n b)).list []).2 φ k → Stab w (fun _ => True) [] [] k := fun k hk => ⟨hk.1, fun ⟨i, x, z, h1, _⟩ => by simp at h1⟩
  have h0 : ∀ Z : Nat → Prop, Rd w' (Stab w (fun _ => True) [] []) (.row u Z sz n b.f) u → (∀ k, Z k → w.heap.size ≤ k) → (∀ i, i < n * sz → ∀ Z', ZIn Z' (b.f i) → Disj Z Z') →
      ∃ r' u φ, (∃ (sz n : Nat) (b : Blk) (u0 : Value) (Z : Nat → Prop), R (.one (.fr sz n b)) ∧ (∀ i, i < n * sz → ∀ Z', ZIn Z' (b.f i) → Disj Z Z') ∧ r' = Res.one (.pv (.row u0 Z sz n b.f))) ∧ NewL (fun Z => ∀ b, Z b → w.heap.size ≤ b) r'.list ∧ e = .returned u ∧ Heap w (fun _ => True) (bring r'.list []).2 φ w' ∧ RdSlot w' (Stab w (fun _ => True) (bring r'.list []).2 φ) φ (r'.slot (bring r'.list []).1) u :=
    fun Z h1 h2 h3 => ⟨_, u, [], ⟨sz, n, b, u, Z, hr0, h3, rfl⟩, ⟨⟨h2, fun i hi => hnew.1 i (by omega)⟩, trivial⟩, he, ⟨rfl, hh.below, fun id blk hi => by simp [bring, Res.list] at hi, fun i j bi bj b z z' hi => by simp [bring, Res.list] at hi⟩, h1⟩
  rcases hr with ⟨hφ, _, hl0, rfl⟩ | ⟨b', c, z, hφ, rfl, hc, _, _⟩
  · subst hl0
    exact h0 (fun _ => False) ⟨rfl, fun _ h => h.elim, none, 0, rfl, Nat.le_refl _, fun hp => by simp at hp⟩ (fun _ h => h.elim) (fun i hi => by simp at hi)
  · have e1 : φ[0]? = some (some (b', z)) := hφ
    have hlive : Live (bring (Res.one (.fr sz n b)).list []).2 φ b' := ⟨0, b, z, hb, e1⟩
    rcases hh.blk 0 b hb with ⟨h1, _⟩ | ⟨b'', cur, h1, h2, h3, h4, h5⟩
    · rw [e1] at h1; cases h1
    · rw [e1] at h1; injection h1 with h1; injection h1 with h1; injection h1 with h1 _
      subst h1
      refine h0 (fun k => k = b') ⟨rfl, fun k hk => ?_, _, c, rfl, hc, fun hp => ⟨b', 0, rfl, rfl, fun i hi => ?_⟩⟩ (fun k hk => by have hk : k = b' := hk; omega) (fun i hi Z' hZ' k hk hk' => ?_)
      · have hk : k = b' := hk
        subst hk
        exact ⟨⟨.inl trivial, fun ⟨i, x, z, h1, _⟩ => by simp at h1⟩, cur, b.elem, .inl h3⟩
      · obtain ⟨x, hx1, hx2⟩ := h5 i (by omega)
        exact ⟨x, by rw [Nat.zero_add]; exact cell_of_blk h3 hx1, Rd.mono (fun k hk _ => ⟨hst k hk, rfl⟩) _ _ hx2⟩
      · have hk : k = b' := hk
        subst hk
        obtain ⟨x, _, hx2⟩ := h5 i (by omega)
        exact (hZ'.there hx2 k hk').1.2 hlive

/-- More is known of the result than is asked. -/
theorem FnE.weaken {f : FuncId} {vs : List V} {R R' : Res → Prop} (h : FnE P f vs R) (hR : ∀ r, R r → R' r) : FnE P f vs R' :=
  ⟨h.entry, fun w us hus => (h.runs w us hus).mono fun e w' ⟨r, u, φ, h1, h2⟩ => ⟨r, u, φ, hR r h1, h2⟩⟩

/-! ### Marks -/
/-- Only blocks of T have turned; what could be written can be written. -/
structure OnlyIn (T : Nat → Prop) (w w' : World) : Prop where
  os : w'.os = w.os
  tape : w'.tape = w.tape
  output : w'.output = w.output
  size : w.heap.size ≤ w'.heap.size
  oth : ∀ b, b < w.heap.size → ¬ T b → w'.heap[b]? = w.heap[b]?
  wr : ∀ b, Wr w b → Wr w' b

theorem OnlyIn.refl (T : Nat → Prop) (w : World) : OnlyIn T w w := ⟨rfl, rfl, rfl, Nat.le_refl _, fun _ _ _ => rfl, fun _ h => h⟩
theorem OnlyIn.trans {T : Nat → Prop} {a b c : World} (h : OnlyIn T a b) (k : OnlyIn T b c) : OnlyIn T a c :=
  ⟨k.os.trans h.os, k.tape.trans h.tape, k.output.trans h.output, Nat.le_trans h.size k.size, fun i hi hT => (k.oth i (by have := h.size; omega) hT).trans (h.oth i hi hT), fun i hi => k.wr i (h.wr i hi)⟩
theorem OnlyIn.mono {T T' : Nat → Prop} {a b : World} (h : OnlyIn T a b) (hT : ∀ b, T b → T' b) : OnlyIn T' a b := ⟨h.os, h.tape, h.output, h.size, fun i hi hn => h.oth i hi fun h' => hn (hT _ h'), h.wr⟩
theorem OnlyIn.below {T : Nat → Prop} {a b : World} (h : Below a.heap.size a b) : OnlyIn T a b := ⟨h.os, h.tape, h.output, h.size, fun i hi _ => h.block i hi, fun i ⟨cur, e, hi⟩ => ⟨cur, e, hi.congr (h.block i hi.lt)⟩⟩

/-- What lies outside T. -/
def Keeps (T : Nat → Prop) : V → Prop
  | .val _ => True
  | .old Z _ => Disj Z T
  | .row _ Z sz n f => Disj Z T ∧ ∀ i, i < n * sz → Keeps T (f i)
  | .grow _ Z _ sz n f => Disj Z T ∧ ∀ i, i < n * sz → Keeps T (f i)
  | .agg n f => ∀ i, i < n → Keeps T (f i)
  | .cur b _ Z _ => ¬ T b ∧ Disj Z T
  | _ => False

theorem Keeps.rd {T : Nat → Prop} {w w' : World} (h : OnlyIn T w w') {S : Nat → Prop} : ∀ (v : V) (u : Value), Keeps T v → Rd w S v u → Rd w' S v u
  | .val _, _, _, hr => hr
  | .old Z v, u, hk, hr => ⟨fun b hb => ⟨(hr.1 b hb).1, Nat.lt_of_lt_of_le (hr.1 b hb).2 h.size⟩, Rd.mono (S' := Z) (fun b hb hlt => ⟨hb, h.oth b hlt (hk b hb)⟩) _ _ hr.2⟩
  | .row u0 Z sz n f, u, hk, hr => by
    obtain ⟨e, hz, A, c, hu, hc, hr⟩ := hr
    refine ⟨e, fun b hb => ⟨(hz b hb).1, h.wr b (hz b hb).2⟩, A, c, hu, hc, fun hp => ?_⟩
    obtain ⟨b, off, hA, hZ, hr⟩ := hr hp
    refine ⟨b, off, hA, hZ, fun i hi => ?_⟩
    obtain ⟨x, hx, hr⟩ := hr i hi
    exact ⟨x, by rw [World.cell?_of_block (w := w) (a := ⟨b, off + i, none⟩) (h.oth b (block_of_cell hx) (hk.1 b hZ))]; exact hx, Keeps.rd h (f i) x (hk.2 i hi) hr⟩
  | .grow u0 Z e sz n f, u, hk, hr => by
    obtain ⟨hu, hz, hr⟩ := hr
    refine ⟨hu, fun b hb => ⟨(hz b hb).1, h.wr b (hz b hb).2⟩, ?_⟩
    rcases hr with hr | ⟨b, c, cur, h1, h2, h3, h4, h5, h6, h7⟩
    · exact .inl hr
    · refine .inr ⟨b, c, cur, h1, h2, h3, h4, h5.congr (h.oth b h5.lt (hk.1 b h4)), h6, fun i hi => ?_⟩
      obtain ⟨x, hx, hr⟩ := h7 i hi
      exact ⟨x, hx, Keeps.rd h (f i) x (hk.2 i hi) hr⟩
  | .agg n f, u, hk, hr => by
    obtain ⟨cs, hu, hn, hr⟩ := hr
    refine ⟨cs, hu, hn, fun i hi => ?_⟩
    obtain ⟨x, hx, hr⟩ := hr i hi
    exact ⟨x, hx, Keeps.rd h (f i) x (hk i hi) hr⟩
  | .seq _ _ _, _, hk, _ => hk.elim
  | .pin _ _, _, hk, _ => hk.elim
  | .clo _ _ _, _, hk, _ => hk.elim
  | .cur b k Z c, u, hk, hr => by
    obtain ⟨hu, hb, hz, cur, cv, p, q, e, hc, h3, hp, hq, hr⟩ := hr
    exact ⟨hu, hb, fun j hj => ⟨(hz j hj).1, Nat.lt_of_lt_of_le (hz j hj).2.1 h.size, (hz j hj).2.2⟩, cur, cv, p, q, e, (h.oth b (block_lt hc) hk.1).trans hc, h3, hp, hq, Rd.mono (S' := Z) (fun j hj hlt => ⟨hj, h.oth j hlt (hk.2 j hj)⟩) _ _ hr⟩

/-- Whatever reads as v in w reads as v' in w'. -/
def Goes (w w' : World) (v v' : V) : Prop := ∀ (S : Nat → Prop) (u : Value), Rd w S v u → Rd w' S v' u

/-- All blocks that v names. -/
def Zof (v : V) : Nat → Prop := fun b => ∃ Z, ZIn Z v ∧ Z b
theorem Goes.of_zof {w w' : World} {v v' : V} (h : ∀ u, Rd w (Zof v) v u → Rd w' (Zof v) v' u) (hv : ∀ (S : Nat → Prop) (u : Value), Rd w S v u → Rd w (Zof v) v u) : Goes w w' v v' := fun S u hr =>
  Rd.mono (S := Zof v) (fun b ⟨Z, hZ, hb⟩ _ => ⟨(hZ.there hr b hb).1, rfl⟩) _ _ (h u (hv S u hr))

/-- A function that writes into the blocks T of its first argument, v, and hands k' back. ps: what reads otherwise behind it. -/
structure FnMz (P : Program) (f : FuncId) (v : V) (k k' : Int) (T : Nat → Prop) (ps : List (V × V)) : Prop where
  entry : ∀ (args : Array Value) (w : World), (callFunc f args).run P w = .ok (.enter f args) w
  inz : ∀ b, T b → ∃ Z, ZIn Z v ∧ Z b
  runs : ∀ (w : World) (S : Nat → Prop) (u : Value), Rd w S v u → Calls P f #[u, .int .i64 k] w fun e w' => e = .returned (.int .i64 k') ∧ OnlyIn T w w' ∧ ∀ p ∈ ps, Goes w w' p.1 p.2

/-- What a value is behind a mark. -/
def ZStep (T : Nat → Prop) (ps : List (V × V)) (a b : V) : Prop := (Keeps T a ∧ a = b) ∨ (a, b) ∈ ps

def SwSl (T : Nat → Prop) (ps : List (V × V)) : Slot → Slot → Prop
  | .one (.pv a), .one (.pv b) => ZStep T ps a b
  | .one (.own i sz off len), .one (.own i' sz' off' len') => i = i' ∧ sz = sz' ∧ off = off' ∧ len = len'
  | .one (.ptr i off), .one (.ptr i' off') => i = i' ∧ off = off'
  | _, _ => False

def SwS (T : Nat → Prop) (ps : List (V × V)) (σ : List (Nat × Slot)) : List (Nat × Slot) → Prop
  | [] => True
  | (t, v) :: r => (match lookup σ t with | some v0 => SwSl T ps v0 v | none => False) ∧ SwS T ps σ r

def SwH (T : Nat → Prop) (ps : List (V × V)) : List (Option Blk) → List (Option Blk) → Prop
  | [], [] => True
  | _ :: h, none :: h' => SwH T ps h h'
  | some b :: h, some b' :: h' => (b.elem = b'.elem ∧ b'.n ≤ b.n ∧ ∀ i, i < b'.n → ZStep T ps (b.f i) (b'.f i)) ∧ SwH T ps h h'
  | _, _ => False

theorem SwS.get {T : Nat → Prop} {ps : List (V × V)} {σ : List (Nat × Slot)} : ∀ {τ : List (Nat × Slot)} {t : Nat} {v : Slot}, SwS T ps σ τ → lookup τ t = some v → ∃ v0, lookup σ t = some v0 ∧ SwSl T ps v0 v
  | [], _, _, _, h => by cases h
  | (k, x) :: r, t, v, he, h => by
    obtain ⟨h1, h2⟩ := he
    simp only [lookup] at h
    split at h
    · rename_i e; subst e; injection h with h; subst h
      split at h1
      · rename_i v0 hv; exact ⟨v0, hv, h1⟩
      · exact h1.elim
    · exact SwS.get h2 h

theorem SwH.len {T : Nat → Prop} {ps : List (V × V)} : ∀ {h h' : List (Option Blk)}, SwH T ps h h' → h.length = h'.length
  | [], [], _ => rfl
  | [], _ :: _, h => by cases ‹Option Blk› <;> exact h.elim
  | _ :: _, [], h => by cases ‹Option Blk› <;> exact h.elim
  | x :: h, none :: h', he => by simp [SwH.len (h := h) (h' := h') (by cases x <;> exact he)]
  | none :: _, some _ :: _, he => he.elim
  | some _ :: h, some _ :: h', he => by simp [SwH.len he.2]

theorem SwH.get {T : Nat → Prop} {ps : List (V × V)} : ∀ {h h' : List (Option Blk)} {id : Nat} {b' : Blk}, SwH T ps h h' → h'[id]? = some (some b') → ∃ b, h[id]? = some (some b) ∧ b.elem = b'.elem ∧ b'.n ≤ b.n ∧ ∀ i, i < b'.n → ZStep T ps (b.f i) (b'.f i)
  | [], [], _, _, _, hi => by simp at hi
  | [], _ :: _, _, _, h, _ => by cases ‹Option Blk› <;> exact h.elim
  | _ :: _, [], _, _, _, hi => by simp at hi
  | x :: h, none :: h', id, b', he, hi => by
    cases id with
    | zero => simp at hi
    | succ id =>
      obtain ⟨b, h1, h2⟩ := SwH.get (h := h) (h' := h') (by cases x <;> exact he) (by simpa using hi)
      exact ⟨b, by simpa using h1, h2⟩
  | none :: _, some _ :: _, _, _, he, _ => he.elim
  | some b0 :: h, some b0' :: h', id, b', he, hi => by
    cases id with
    | zero => simp at hi; subst hi; exact ⟨b0, by simp, he.1⟩
    | succ id =>
      obtain ⟨b, h1, h2⟩ := SwH.get he.2 (by simpa using hi)
      exact ⟨b, by simpa using h1, h2⟩

def markZK (N : Nat) (P : Program) (f : FuncId) (x y : Operand) (d : Nat) (s : ASt) (K : ASt → Prop) : Prop :=
  ∃ (v : V) (k k' : Int) (T : Nat → Prop) (ps : List (V × V)) (s1 : ASt), opd s x = some (.one (.pv v)) ∧ opd s y = some (sc (.int .i64 k)) ∧ d < s.nt ∧ FnMz P f v k k' T ps ∧ (∀ b, T b → N ≤ b) ∧
    s1.nt = s.nt ∧ SwS T ps s.σ s1.σ ∧ SwH T ps s.h s1.h ∧ K (putS s1 d (sc (.int .i64 k')))

theorem SimAt.sweep {N : Nat} (hN : w0.heap.size = N) (sim : SimAt w0 S0 s φ a w) {T : Nat → Prop} {ps : List (V × V)} {w' : World} {s1 : ASt} (hT : ∀ b, T b → N ≤ b) (hL : ∀ b, T b → ¬ Live s.h φ b) (ho : OnlyIn T w w') (hp : ∀ p ∈ ps, Goes w w' p.1 p.2)
    (hnt : s1.nt = s.nt) (hσ : SwS T ps s.σ s1.σ) (hh : SwH T ps s.h s1.h) : SimAt w0 S0 s1 φ a w' := by
  have hst : ∀ b, Stab w0 S0 s.h φ b → Stab w0 S0 s1.h φ b := fun b hb => ⟨hb.1, fun ⟨id, blk, z, hi, hp⟩ => by
    obtain ⟨b0, h4, _⟩ := hh.get hi
    exact hb.2 ⟨id, b0, z, h4, hp⟩⟩
  have step : ∀ (v v' : V) (u : Value), ZStep T ps v v' → Rd w (Stab w0 S0 s.h φ) v u → Rd w' (Stab w0 S0 s1.h φ) v' u := fun v v' u hz hr => by
    refine Rd.mono (S := Stab w0 S0 s.h φ) (fun b hb _ => ⟨hst b hb, rfl⟩) _ _ ?_
    rcases hz with ⟨hk, rfl⟩ | hz
    · exact Keeps.rd ho v u hk hr
    · exact hp _ hz _ _ hr
  refine ⟨⟨by rw [sim.heap.len, hh.len], ⟨ho.os.trans sim.heap.below.os, ho.tape.trans sim.heap.below.tape, ho.output.trans sim.heap.below.output, Nat.le_trans sim.heap.below.size ho.size, fun b hb => ?_⟩, fun id blk hi => ?_, fun i j bi bj b z z' hi hj hi' hj' => ?_⟩, fun t v ht => ?_, sim.defers, by rw [sim.size, hnt]⟩
  · have h1 := sim.heap.below.size
    exact (ho.oth b (by omega) fun h => by have := hT b h; omega).trans (sim.heap.below.block b hb)
  · obtain ⟨b0, h4, h5, h6, h7⟩ := hh.get hi
    rcases sim.heap.blk id b0 h4 with ⟨h8, h9⟩ | ⟨b, cur, h8, h9, h10, h11, h12⟩
    · exact .inl ⟨h8, by omega⟩
    · refine .inr ⟨b, cur, h8, h9, by rw [ho.oth b (block_lt h10) fun h => hL b h ⟨id, b0, _, h4, h8⟩, ← h5]; exact h10, by omega, fun i hi' => ?_⟩
      obtain ⟨x, hx, hr⟩ := h12 i (by omega)
      exact ⟨x, hx, step _ _ _ (h7 i hi') hr⟩
  · obtain ⟨bi0, h4, _⟩ := hh.get hi
    obtain ⟨bj0, h5, _⟩ := hh.get hj
    exact sim.heap.inj i j bi0 bj0 b z z' h4 h5 hi' hj'
  · obtain ⟨v0, h4, h5⟩ := hσ.get ht
    obtain ⟨u, hu, hr⟩ := sim.slots t v0 h4
    refine ⟨u, hu, ?_⟩
    unfold SwSl at h5
    split at h5
    · exact step _ _ _ h5 hr
    · obtain ⟨rfl, rfl, rfl, rfl⟩ := h5; exact hr
    · obtain ⟨rfl, rfl⟩ := h5; exact hr
    · exact h5.elim

theorem markZ_rule {N : Nat} {f : FuncId} {x y : Operand} {d ty : Nat} {ts : Array TypeId} {pos : String} {after : Array Edge} :
    OpRule N P ⟨some d, .call ⟨.value (.func f), #[x, y], ts⟩, ty, pos, after, none⟩ (fun s K => markZK N P f x y d s K) := by
  refine ⟨rfl, fun w0 S0 s φ a w K next Q hN sim h hn => ?_⟩
  obtain ⟨v, k, k', T, ps, s1, hx, hy, hd, hf, hT, hnt, hσ, hh, hK⟩ := h
  have ey : a.eval y = .int .i64 k := sim.opd hy
  have hv : Rd w (Stab w0 S0 s.h φ) v (a.eval x) := sim.opd hx
  have hrun : (execOp a.eval ⟨some d, .call ⟨.value (.func f), #[x, y], ts⟩, ty, pos, after, none⟩).run P w = .ok (.enter f #[a.eval x, .int .i64 k]) w := by
    have e : execOp a.eval ⟨some d, .call ⟨.value (.func f), #[x, y], ts⟩, ty, pos, after, none⟩ = callFunc f (#[] ++ #[x, y].map a.eval ++ #[]) := rfl
    rw [e, hf.entry]
    congr 2
    rw [← Array.toList_inj]
    simp [ey]
  unfold Oper.wp
  rw [hrun, Oper.upon_enter]
  refine (hf.runs w _ _ hv).mono ?_
  rintro e w' ⟨rfl, ho, hp⟩
  refine hn _ _ _ hK ⟨φ, (SimAt.sweep hN sim hT (fun b hb hl => ?_) ho hp hnt hσ hh).put (by omega) rfl⟩
  obtain ⟨Z, hZ, hb'⟩ := hf.inz b hb
  exact (hZ.there hv b hb').1.2 hl

/-- A region that moves (or loads) two operands, marks, and assigns. -/
theorem AWP.region_markZ [Cx] {N : Nat} {id : Nat} {o1 o2 o4 : Oper} {f : FuncId} {x y : Operand} {d ty : Nat} {ts : Array TypeId} {pos : String} {after : Array Edge} {Q : Exit → ASt → Prop} {s : ASt}
    (h : evOps P false [o1, o2, ⟨some d, .call ⟨.value (.func f), #[x, y], ts⟩, ty, pos, after, none⟩, o4] [o1, o2] (fun s' => markZK N P f x y d s' (evOps P false [o1, o2, ⟨some d, .call ⟨.value (.func f), #[x, y], ts⟩, ty, pos, after, none⟩, o4] [o4] (Q .normal))) s) :
    AWP N P (.region id #[o1, o2, ⟨some d, .call ⟨.value (.func f), #[x, y], ts⟩, ty, pos, after, none⟩, o4] false) Q s :=
  AWP.region_rule (os1 := [o1, o2]) (os2 := [o4]) markZ_rule h

theorem markZ_go {N : Nat} {f : FuncId} {x y : Operand} {d : Nat} {s : ASt} {K : ASt → Prop} {v : V} {k k' : Int} {T : Nat → Prop} {ps : List (V × V)} (s1 : ASt) (hf : FnMz P f v k k' T ps) (hx : opd s x = some (.one (.pv v))) (hy : opd s y = some (sc (.int .i64 k))) (hd : d < s.nt)
    (hT : ∀ b, T b → N ≤ b) (hnt : s1.nt = s.nt) (hσ : SwS T ps s.σ s1.σ) (hh : SwH T ps s.h s1.h) (h : K (putS s1 d (sc (.int .i64 k')))) : markZK N P f x y d s K := ⟨v, k, k', T, ps, s1, hx, hy, hd, hf, hT, hnt, hσ, hh, h⟩

end
end Go.Proofs.Yteapdildbfimnaa
