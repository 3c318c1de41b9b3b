/- Contracts of functions; the abstract state through a call. No conditions. -/
import Derived.Test.YtpolbgenoicckaaEngC
namespace Go.Proofs.Ytpolbgenoicckaa
set_option linter.unusedSimpArgs false
set_option linter.unusedVariables false
open Go.RowKit

/-- A result: a value, or a slice of n elements of sz cells that is the call's own (or nil, if it has none). -/
inductive RV where
  | pv (v : V)
  | fr (sz len : Nat) (b : Blk)

inductive Res where
  | one (r : RV)
  | many (l : List RV)

/-- The results as slots' values, and the blocks that they bring, behind those of h. -/
def bring : List RV → List (Option Blk) → List SV × List (Option Blk)
  | [], h => ([], h)
  | .pv v :: r, h => (.pv v :: (bring r h).1, (bring r h).2)
  | .fr sz len b :: r, h => (.own h.length sz 0 len :: (bring r (h ++ [some b])).1, (bring r (h ++ [some b])).2)

def Res.list : Res → List RV
  | .one r => [r]
  | .many l => l

def Res.slot : Res → List SV → Slot
  | .one _, v :: _ => .one v
  | .one _, [] => .many []
  | .many _, vs => .many vs

theorem RdL.mono {w w' : World} {S S' : Nat → Prop} (hs : ∀ b, S b → b < w.heap.size → S' b ∧ w'.heap[b]? = w.heap[b]?) :
    ∀ (vs : List V) (us : List Value), RdL w S vs us → RdL w' S' vs us
  | [], [], _ => trivial
  | [], _ :: _, h => h.elim
  | _ :: _, [], h => h.elim
  | v :: vs, u :: us, h => ⟨Rd.mono hs v u h.1, RdL.mono hs vs us h.2⟩

/-- Called with values that read as vs the function f returns values that read as r, in a world where nothing that was there has turned; the own slices of r lie in new memory, each in a block of its own. -/
structure Fn (P : Program) (f : FuncId) (vs : List V) (r : Res) : Prop where
  entry : ∀ (args : Array Value) (w : World), (callFunc f args).run P w = .ok (.enter f args) w
  runs : ∀ (w : World) (S0 : Nat → Prop) (us : List Value), RdL w S0 vs us → Calls P f us.toArray w fun e w' =>
    ∃ u φ, e = .returned u ∧ Heap w S0 (bring r.list []).2 φ w' ∧ RdSlot w' (Stab w S0 (bring r.list []).2 φ) φ (r.slot (bring r.list []).1) u

/-- All results are scalars. -/
def allVal : List RV → Bool
  | [] => true
  | .pv (.val _) :: r => allVal r
  | _ => false

/-- No result hangs on old memory. -/
def Safe : List RV → Prop
  | [] => True
  | .pv (.val _) :: r => Safe r
  | .pv _ :: _ => False
  | .fr _ _ b :: r => (∀ i, i < b.n → ∃ v, b.f i = .val v) ∧ Safe r

def putS (s : ASt) (d : Nat) (r : Slot) : ASt := { s with σ := upd s.σ d r }

/-- The state behind a call. -/
def bringIn (s : ASt) (d : Nat) (r : Res) : ASt := { s with σ := upd s.σ d (r.slot (bring r.list s.h).1), h := (bring r.list s.h).2 }

/-- What stands behind a call of f: q: only scalars may come back; pure: no argument lies in a block of the call's own. -/
structure callK (P : Program) (q : Bool) (f : FuncId) (d : Nat) (K : ASt → Prop) (s : ASt) (pure : Bool) (vs : List V) : Prop where
  lt : d < s.nt
  met : ∃ r : Res, Fn P f vs r ∧ (allVal r.list = true ∨ (q = false ∧ (pure = true ∨ Safe r.list))) ∧ K (bringIn s d r)

/-- Arguments, handed on as values. -/
def argsK (s : ASt) : List Operand → Bool → List V → (Bool → List V → Prop) → Prop
  | [], p, vs, K => K p vs.reverse
  | x :: xs, p, vs, K =>
    match opd s x with
    | some (.one (.pv v)) => argsK s xs p (v :: vs) K
    | some (.one (.own id sz off len)) =>
      match s.h[id]? with
      | some (some b) => off + len * sz ≤ b.n ∧ argsK s xs false (.seq sz len (fun i => b.f (off + i)) :: vs) K
      | _ => False
    | _ => False

section
variable {P : Program} {w0 : World} {S0 : Nat → Prop} {s : ASt} {φ : List (Option (Nat × Nat))} {a : Act} {w : World}

/-- A slice over a block of the call's own, read as a value. -/
theorem SimAt.own_seq (sim : SimAt w0 S0 s φ a w) {id sz off len : Nat} {b : Blk} {u : Value} (hb : s.h[id]? = some (some b)) (hl : off + len * sz ≤ b.n)
    (h : RdS w (Stab w0 S0 s.h φ) φ (.own id sz off len) u) : Rd w (fun _ => True) (.seq sz len fun i => b.f (off + i)) u := by
  rcases h with ⟨_, rfl, rfl, rfl⟩ | ⟨b', c, z, hφ, rfl, hc, _, _⟩
  · exact ⟨none, 0, rfl, Nat.le_refl _, fun h => by simp at h⟩
  · obtain ⟨cur, _, _, hcur, hn, hx⟩ := sim.blkAt hb hφ
    refine ⟨_, c, rfl, hc, fun hp => ⟨b', off, rfl, trivial, fun i hi => ?_⟩⟩
    obtain ⟨x, hx1, hx2⟩ := hx (off + i) (by omega)
    exact ⟨x, cell_of_blk hcur hx1, Rd.mono (fun b _ _ => ⟨trivial, rfl⟩) _ _ hx2⟩

/-- Behind argsK: the operands' values read as the values handed on; without any own slice they lie where nobody writes. -/
theorem argsK_ok (sim : SimAt w0 S0 s φ a w) {K : Bool → List V → Prop} : ∀ (xs : List Operand) (p : Bool) (vs : List V) (us : List Value), argsK s xs p vs K →
    RdL w (fun _ => True) vs.reverse us.reverse → (p = true → RdL w (Stab w0 S0 s.h φ) vs.reverse us.reverse) →
    ∃ p' vs', K p' vs' ∧ RdL w (fun _ => True) vs' (us.reverse ++ xs.map a.eval) ∧ (p' = true → RdL w (Stab w0 S0 s.h φ) vs' (us.reverse ++ xs.map a.eval))
  | [], p, vs, us, h, h1, h2 => ⟨p, vs.reverse, h, by simpa using h1, by simpa using h2⟩
  | x :: xs, p, vs, us, h, h1, h2 => by
    unfold argsK at h
    split at h
    · rename_i v hv
      have hr := sim.opd hv
      have hr' : Rd w (fun _ => True) v (a.eval x) := Rd.mono (fun b _ _ => ⟨trivial, rfl⟩) _ _ hr
      obtain ⟨p', vs', hK, h3, h4⟩ := argsK_ok sim xs p (v :: vs) (a.eval x :: us) h
        (by rw [List.reverse_cons, List.reverse_cons]; exact RdL.append _ _ _ _ h1 hr')
        (fun hp => by rw [List.reverse_cons, List.reverse_cons]; exact RdL.append _ _ _ _ (h2 hp) hr)
      exact ⟨p', vs', hK, by simpa using h3, by simpa using h4⟩
    · rename_i id sz off len hv
      split at h
      · rename_i b hb
        have hr' := sim.own_seq hb h.1 (sim.opd hv)
        obtain ⟨p', vs', hK, h3, h4⟩ := argsK_ok sim xs false (_ :: vs) (a.eval x :: us) h.2
          (by rw [List.reverse_cons, List.reverse_cons]; exact RdL.append _ _ _ _ h1 hr') (fun hp => by cases hp)
        exact ⟨p', vs', hK, by simpa using h3, by simpa using h4⟩
      · exact h.elim
    · exact h.elim

theorem bring_append (rs : List RV) : ∀ h : List (Option Blk), ∃ h', (bring rs h).2 = h ++ h' := by
  induction rs with
  | nil => intro h; exact ⟨[], by simp [bring]⟩
  | cons r rs ih =>
    intro h
    cases r with
    | pv v => exact ih h
    | fr sz len b =>
      obtain ⟨h', e⟩ := ih (h ++ [some b])
      exact ⟨some b :: h', by simp only [bring]; rw [e]; simp⟩

/-- The blocks that come are the same whatever stands ahead of them. -/
theorem bring_heap (rs : List RV) : ∀ h g : List (Option Blk), (bring rs (h ++ g)).2 = h ++ (bring rs g).2 := by
  induction rs with
  | nil => intro h g; rfl
  | cons r rs ih =>
    intro h g
    cases r with
    | pv v => exact ih h g
    | fr sz len b =>
      have := ih h (g ++ [some b])
      simp only [bring]
      rw [List.append_assoc]; exact this

/-- And the slots' values move with them. -/
theorem bring_slots {S S' : Nat → Prop} {w : World} {φ ψ : List (Option (Nat × Nat))} (rs : List RV) (hS : ∀ b, S b → S' b) : ∀ (h g : List (Option Blk)) (us : List Value), φ.length = h.length →
    RdSs w S ψ (bring rs g).1 us → RdSs w S' (φ ++ ψ) (bring rs (h ++ g)).1 us := by
  have hs : ∀ b, S b → b < w.heap.size → S' b ∧ w.heap[b]? = w.heap[b]? := fun b h _ => ⟨hS b h, rfl⟩
  induction rs with
  | nil => intro h g us _ hr; cases us with | nil => trivial | cons _ _ => exact hr.elim
  | cons r rs ih =>
    intro h g us hl hr
    cases r with
    | pv v =>
      cases us with
      | nil => exact hr.elim
      | cons u us => exact ⟨Rd.mono hs _ _ hr.1, ih h g us hl hr.2⟩
    | fr sz len b =>
      cases us with
      | nil => exact hr.elim
      | cons u us =>
        simp only [bring] at hr ⊢
        rw [List.append_assoc]
        refine ⟨?_, ih h (g ++ [some b]) us hl hr.2⟩
        rw [List.length_append]
        have e : ∀ x, ψ[g.length]? = x → (φ ++ ψ)[h.length + g.length]? = x := fun x hx => by
          rw [List.getElem?_append_right (by omega), hl]; simpa using hx
        rcases hr.1 with ⟨h1, h2⟩ | ⟨b', c, z, h1, h2⟩
        · exact .inl ⟨e _ h1, h2⟩
        · exact .inr ⟨b', c, z, e _ h1, h2⟩

theorem live_append {h g : List (Option Blk)} {φ ψ : List (Option (Nat × Nat))} (hl : φ.length = h.length) {b : Nat} : Live (h ++ g) (φ ++ ψ) b ↔ Live h φ b ∨ Live g ψ b := by
  constructor
  · rintro ⟨id, blk, z, h1, h2⟩
    rcases Nat.lt_or_ge id h.length with hlt | hge
    · rw [List.getElem?_append_left hlt] at h1
      rw [List.getElem?_append_left (by omega)] at h2
      exact .inl ⟨id, blk, z, h1, h2⟩
    · rw [List.getElem?_append_right hge] at h1
      rw [List.getElem?_append_right (by omega), hl] at h2
      exact .inr ⟨_, blk, z, h1, h2⟩
  · rintro (⟨id, blk, z, h1, h2⟩ | ⟨id, blk, z, h1, h2⟩)
    · have hlt : id < h.length := (List.getElem?_eq_some_iff.1 h1).1
      exact ⟨id, blk, z, by rw [List.getElem?_append_left hlt]; exact h1, by rw [List.getElem?_append_left (by omega)]; exact h2⟩
    · refine ⟨h.length + id, blk, z, ?_, ?_⟩
      · rw [List.getElem?_append_right (by omega)]; simpa using h1
      · rw [List.getElem?_append_right (by omega), hl]; simpa using h2

theorem Heap.live_ge {S1 : Nat → Prop} {g : List (Option Blk)} {ψ : List (Option (Nat × Nat))} {w' : World} (hh : Heap w S1 g ψ w') {b : Nat} (h : Live g ψ b) : w.heap.size ≤ b ∧ b < w'.heap.size := by
  obtain ⟨id, blk, z, h1, h2⟩ := h
  rcases hh.blk id blk h1 with ⟨h3, _⟩ | ⟨b', cur, h3, h4, h5, _⟩
  · rw [h2] at h3; cases h3
  · rw [h2] at h3; injection h3 with h3; injection h3 with h3; injection h3 with h3 _; subst h3; exact ⟨h4, block_lt h5⟩

theorem SimAt.stab_bring (sim : SimAt w0 S0 s φ a w) {S1 : Nat → Prop} {g : List (Option Blk)} {ψ : List (Option (Nat × Nat))} {w' : World} (hh : Heap w S1 g ψ w') :
    ∀ b, Stab w0 S0 s.h φ b → b < w.heap.size → Stab w0 S0 (s.h ++ g) (φ ++ ψ) b ∧ w'.heap[b]? = w.heap[b]? := fun b h hb =>
  ⟨⟨h.1, fun hl => by
    rcases (live_append sim.heap.len).1 hl with h1 | h1
    · exact h.2 h1
    · have := (hh.live_ge h1).1; omega⟩, hh.below.block b hb⟩

/-- What the callee calls stable is stable for the caller. -/
theorem SimAt.stab_callee (sim : SimAt w0 S0 s φ a w) {g : List (Option Blk)} {ψ : List (Option (Nat × Nat))} :
    ∀ b, Stab w (Stab w0 S0 s.h φ) g ψ b → Stab w0 S0 (s.h ++ g) (φ ++ ψ) b := fun b h => by
  obtain ⟨h1, h2⟩ := h
  have hw := sim.heap.below.size
  refine ⟨h1.elim (fun h => h.1) (fun h => .inr (by omega)), fun hl => ?_⟩
  rcases (live_append sim.heap.len).1 hl with h3 | h3
  · rcases h1 with h1 | h1
    · exact h1.2 h3
    · have := (sim.heap.live_ge h3).2; omega
  · exact h2 h3

/-- The callee's blocks join the caller's. -/
theorem SimAt.join (sim : SimAt w0 S0 s φ a w) {S1 : Nat → Prop} {g : List (Option Blk)} {ψ : List (Option (Nat × Nat))} {w' : World} (hh : Heap w S1 g ψ w')
    (hc : ∀ (id : Nat) (blk : Blk) (i : Nat) (x : Value), g[id]? = some (some blk) → i < blk.n → Rd w' (Stab w S1 g ψ) (blk.f i) x → Rd w' (Stab w0 S0 (s.h ++ g) (φ ++ ψ)) (blk.f i) x) :
    SimAt w0 S0 { s with h := s.h ++ g } (φ ++ ψ) a w' := by
  have hs := sim.stab_bring hh
  have hl := sim.heap.len
  refine ⟨⟨by simp [hl, hh.len], sim.heap.below.trans (hh.below.mono sim.heap.below.size), fun id blk hi => ?_, fun i j bi bj b z z' hi hj hi' hj' => ?_⟩, fun t v ht => ?_, sim.defers, sim.size⟩
  · rcases Nat.lt_or_ge id s.h.length with hlt | hge
    · rw [List.getElem?_append_left hlt] at hi
      rw [List.getElem?_append_left (by omega)]
      rcases sim.heap.blk id blk hi with h1 | ⟨b, cur, h1, h2, h3, h4, h5⟩
      · exact .inl h1
      · refine .inr ⟨b, cur, h1, h2, by rw [hh.below.block b (block_lt h3)]; exact h3, h4, fun i hi => ?_⟩
        obtain ⟨x, hx, hr⟩ := h5 i hi
        exact ⟨x, hx, Rd.mono hs _ _ hr⟩
    · rw [List.getElem?_append_right hge] at hi
      rw [List.getElem?_append_right (by omega), hl]
      rcases hh.blk _ blk hi with h1 | ⟨b, cur, h1, h2, h3, h4, h5⟩
      · exact .inl h1
      · have := sim.heap.below.size
        refine .inr ⟨b, cur, h1, by omega, h3, h4, fun i hi' => ?_⟩
        obtain ⟨x, hx, hr⟩ := h5 i hi'
        exact ⟨x, hx, hc _ blk i x hi hi' hr⟩
  · rcases Nat.lt_or_ge i s.h.length with hlt | hge <;> rcases Nat.lt_or_ge j s.h.length with hlt' | hge'
    · rw [List.getElem?_append_left (by omega)] at hi hj hi' hj'
      exact sim.heap.inj i j bi bj b z z' hi hj hi' hj'
    · rw [List.getElem?_append_left (by omega)] at hi hi'
      rw [List.getElem?_append_right (by omega)] at hj hj'
      rw [hl] at hj'
      have h1 := (sim.heap.live_ge ⟨i, bi, _, hi, hi'⟩).2
      have h2 := (hh.live_ge ⟨_, bj, _, hj, hj'⟩).1
      omega
    · rw [List.getElem?_append_right (by omega)] at hi hi'
      rw [List.getElem?_append_left (by omega)] at hj hj'
      rw [hl] at hi'
      have h1 := (sim.heap.live_ge ⟨j, bj, _, hj, hj'⟩).2
      have h2 := (hh.live_ge ⟨_, bi, _, hi, hi'⟩).1
      omega
    · rw [List.getElem?_append_right (by omega)] at hi hj hi' hj'
      rw [hl] at hi' hj'
      have := hh.inj _ _ bi bj b z z' hi hj hi' hj'
      omega
  · obtain ⟨u, hu, hr⟩ := sim.slots t v ht
    exact ⟨u, hu, RdSlot.mono hs (fun id x hx => by rw [List.getElem?_append_left ((List.getElem?_eq_some_iff.1 hx).1)]; exact hx) v u hr⟩

theorem bring_nil (rs : List RV) (h : List (Option Blk)) : (bring rs h).2 = h ++ (bring rs []).2 := by
  have := bring_heap rs h []
  simpa using this

theorem safe_blk {rs : List RV} (h : Safe rs) : ∀ (g : List (Option Blk)) (id : Nat) (blk : Blk), (bring rs g).2[id]? = some (some blk) → (∀ (id : Nat) (blk : Blk), g[id]? = some (some blk) → ∀ i, i < blk.n → ∃ v, blk.f i = .val v) →
    ∀ i, i < blk.n → ∃ v, blk.f i = .val v := by
  induction rs with
  | nil => intro g id blk hi hg; exact hg id blk hi
  | cons r rs ih =>
    intro g id blk hi hg
    cases r with
    | pv v =>
      cases v with
      | val v => exact ih h g id blk hi hg
      | seq _ _ _ => exact h.elim
      | agg _ _ => exact h.elim
      | pin _ _ => exact h.elim
      | clo _ _ _ => exact h.elim
      | old _ _ => exact h.elim
      | row _ _ _ _ _ => exact h.elim
    | fr sz len b =>
      refine ih h.2 (g ++ [some b]) id blk hi fun id' blk' hi' => ?_
      rcases Nat.lt_or_ge id' g.length with hlt | hge
      · rw [List.getElem?_append_left hlt] at hi'; exact hg _ _ hi'
      · rw [List.getElem?_append_right hge] at hi'
        have : id' - g.length = 0 := by
          rcases Nat.eq_zero_or_pos (id' - g.length) with h0 | h0
          · exact h0
          · rw [List.getElem?_eq_none (by simp; omega)] at hi'; cases hi'
        rw [this] at hi'
        simp at hi'
        subst hi'
        exact h.1

theorem safe_slots {S S' : Nat → Prop} {w' : World} {ψ : List (Option (Nat × Nat))} {rs : List RV} (h : Safe rs) : ∀ (g : List (Option Blk)) (us : List Value), RdSs w' S ψ (bring rs g).1 us → RdSs w' S' ψ (bring rs g).1 us := by
  induction rs with
  | nil => intro g us hr; cases us with | nil => trivial | cons _ _ => exact hr.elim
  | cons r rs ih =>
    intro g us hr
    cases r with
    | pv v =>
      cases v with
      | val v =>
        cases us with
        | nil => exact hr.elim
        | cons u us => exact ⟨hr.1, ih h g us hr.2⟩
      | seq _ _ _ => exact h.elim
      | agg _ _ => exact h.elim
      | pin _ _ => exact h.elim
      | clo _ _ _ => exact h.elim
      | old _ _ => exact h.elim
      | row _ _ _ _ _ => exact h.elim
    | fr sz len b =>
      cases us with
      | nil => exact hr.elim
      | cons u us => exact ⟨hr.1, ih h.2 _ us hr.2⟩

theorem rdSlot_bring {S S' : Nat → Prop} {w' : World} {ψ ψ' : List (Option (Nat × Nat))} {g g' : List (Option Blk)} {u : Value} (r : Res)
    (h : ∀ us, RdSs w' S ψ (bring r.list g).1 us → RdSs w' S' ψ' (bring r.list g').1 us) (hr : RdSlot w' S ψ (r.slot (bring r.list g).1) u) : RdSlot w' S' ψ' (r.slot (bring r.list g').1) u := by
  cases r with
  | one r => cases r <;> exact (h [u] ⟨hr, trivial⟩).1
  | many l =>
    obtain ⟨us, rfl, hr⟩ := hr
    exact ⟨us, rfl, h us hr⟩

/-- The state behind a call whose results may hang on the arguments: these lie where nobody writes. -/
theorem SimAt.call_pure (sim : SimAt w0 S0 s φ a w) {d : Nat} (hd : d < s.nt) {r : Res} {ψ : List (Option (Nat × Nat))} {w' : World} {u : Value}
    (hh : Heap w (Stab w0 S0 s.h φ) (bring r.list []).2 ψ w') (hr : RdSlot w' (Stab w (Stab w0 S0 s.h φ) (bring r.list []).2 ψ) ψ (r.slot (bring r.list []).1) u) :
    SimAt w0 S0 (bringIn s d r) (φ ++ ψ) (a.put (some d) u) w' := by
  have hj := sim.join hh fun id blk i x _ _ hr => Rd.mono (fun b hb _ => ⟨sim.stab_callee b hb, rfl⟩) _ _ hr
  have e := bring_nil r.list s.h
  have hp := hj.put (d := d) hd (v := r.slot (bring r.list s.h).1) (u := u) (by
    refine rdSlot_bring (g := []) (g' := s.h) r (fun us hus => ?_) hr
    have := bring_slots (S' := Stab w0 S0 (s.h ++ (bring r.list []).2) (φ ++ ψ)) r.list (fun b hb => sim.stab_callee b hb) s.h [] us sim.heap.len hus
    simpa using this)
  rw [← e] at hp
  exact hp

/-- The state behind a call whose results hang on no old memory. -/
theorem SimAt.call_safe (sim : SimAt w0 S0 s φ a w) {d : Nat} (hd : d < s.nt) {r : Res} (hs : Safe r.list) {S1 : Nat → Prop} {ψ : List (Option (Nat × Nat))} {w' : World} {u : Value}
    (hh : Heap w S1 (bring r.list []).2 ψ w') (hr : RdSlot w' (Stab w S1 (bring r.list []).2 ψ) ψ (r.slot (bring r.list []).1) u) :
    SimAt w0 S0 (bringIn s d r) (φ ++ ψ) (a.put (some d) u) w' := by
  have hj := sim.join hh fun id blk i x hid hi hr => by
    obtain ⟨v, hv⟩ := safe_blk hs [] id blk hid (fun _ _ h => by simp at h) i hi
    rw [hv] at hr ⊢; exact hr
  have e := bring_nil r.list s.h
  have hp := hj.put (d := d) hd (v := r.slot (bring r.list s.h).1) (u := u) (by
    refine rdSlot_bring (g := []) (g' := s.h) r (fun us hus => ?_) hr
    have h1 := safe_slots (S' := Stab w (Stab w0 S0 s.h φ) (bring r.list []).2 ψ) hs [] us hus
    have := bring_slots (S' := Stab w0 S0 (s.h ++ (bring r.list []).2) (φ ++ ψ)) r.list (fun b hb => sim.stab_callee b hb) s.h [] us sim.heap.len h1
    simpa using this)
  rw [← e] at hp
  exact hp

theorem allVal_safe {rs : List RV} (h : allVal rs = true) : Safe rs := by
  induction rs with
  | nil => trivial
  | cons r rs ih =>
    cases r with
    | pv v => cases v <;> first | exact ih h | simp [allVal] at h
    | fr _ _ _ => simp [allVal] at h

/-- The value that scalar results are. -/
def valsOf : List RV → List Value
  | .pv (.val v) :: r => v :: valsOf r
  | _ => []

def Res.value : Res → Value
  | .one (.pv (.val v)) => v
  | .one _ => undef
  | .many l => .tuple (valsOf l).toArray

theorem rdSs_vals {S : Nat → Prop} {w' : World} {ψ : List (Option (Nat × Nat))} {rs : List RV} (h : allVal rs = true) : ∀ (g : List (Option Blk)) (us : List Value), RdSs w' S ψ (bring rs g).1 us → us = valsOf rs := by
  induction rs with
  | nil => intro g us hr; cases us with | nil => rfl | cons _ _ => exact hr.elim
  | cons r rs ih =>
    intro g us hr
    cases r with
    | pv v =>
      cases v with
      | val v =>
        cases us with
        | nil => exact hr.elim
        | cons u us =>
          have h1 : u = v := hr.1
          rw [h1, ih h g us hr.2]; rfl
      | seq _ _ _ => simp [allVal] at h
      | agg _ _ => simp [allVal] at h
      | pin _ _ => simp [allVal] at h
      | clo _ _ _ => simp [allVal] at h
      | old _ _ => simp [allVal] at h
      | row _ _ _ _ _ => simp [allVal] at h
    | fr _ _ _ => simp [allVal] at h

theorem rdSlot_value {S : Nat → Prop} {w' : World} {ψ : List (Option (Nat × Nat))} {r : Res} (h : allVal r.list = true) {g : List (Option Blk)} {u : Value} (hr : RdSlot w' S ψ (r.slot (bring r.list g).1) u) : u = r.value := by
  cases r with
  | one r =>
    cases r with
    | pv v => cases v <;> first | exact hr | simp [Res.list, allVal] at h
    | fr _ _ _ => simp [Res.list, allVal] at h
  | many l =>
    obtain ⟨us, rfl, hr⟩ := hr
    rw [rdSs_vals h g us hr]; rfl

theorem bring_vals {rs : List RV} (h : allVal rs = true) (g : List (Option Blk)) (S : Nat → Prop) (w' : World) (ψ : List (Option (Nat × Nat))) : (bring rs g).2 = g ∧ RdSs w' S ψ (bring rs g).1 (valsOf rs) := by
  induction rs with
  | nil => exact ⟨rfl, trivial⟩
  | cons r rs ih =>
    cases r with
    | pv v =>
      cases v with
      | val v => exact ⟨(ih h).1, rfl, (ih h).2⟩
      | seq _ _ _ => simp [allVal] at h
      | agg _ _ => simp [allVal] at h
      | pin _ _ => simp [allVal] at h
      | clo _ _ _ => simp [allVal] at h
      | old _ _ => simp [allVal] at h
      | row _ _ _ _ _ => simp [allVal] at h
    | fr _ _ _ => simp [allVal] at h

theorem bring_value {r : Res} (h : allVal r.list = true) (g : List (Option Blk)) (S : Nat → Prop) (w' : World) (ψ : List (Option (Nat × Nat))) : (bring r.list g).2 = g ∧ RdSlot w' S ψ (r.slot (bring r.list g).1) r.value := by
  have h1 := bring_vals h g S w' ψ
  refine ⟨h1.1, ?_⟩
  cases r with
  | one r =>
    cases r with
    | pv v => cases v <;> first | rfl | simp [Res.list, allVal] at h
    | fr _ _ _ => simp [Res.list, allVal] at h
  | many l => exact ⟨_, rfl, h1.2⟩

end
end Go.Proofs.Ytpolbgenoicckaa
