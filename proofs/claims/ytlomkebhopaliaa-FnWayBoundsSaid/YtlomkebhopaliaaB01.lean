/- Parts of the proof of LawFnWayBounds: contracts of functions, laws of an abstract state, plain facts. No conditions. -/
import Derived.Test.YtlomkebhopaliaaB00
import Derived.Deep.MidRow
namespace Go.Proofs.Ytlomkebhopaliaa
set_option linter.unusedSimpArgs false
set_option linter.unusedVariables false
open Go.RowKit
inductive RV where
  | pv (v : V)
  | fr (sz len : Nat) (b : Blk)
inductive Res where
  | one (r : RV)
  | many (l : List RV)
def bring : List RV → List (Option Blk) → List SV × List (Option Blk)
  | [], h => ([], h)
  | .pv v :: r, h => (.pv v :: (bring r h).1, (bring r h).2)
  | .fr sz len b :: r, h => (.own h.length sz 0 len :: (bring r (h ++ [some b])).1, (bring r (h ++ [some b])).2)
def Res.list : Res → List RV
  | .one r => [r]
  | .many l => l
def Res.slot : Res → List SV → Slot
  | .one _, v :: _ => .one v
  | .one _, [] => .many []
  | .many _, vs => .many vs
theorem RdL.monoB {w w' : World} {S S' : Nat → Prop} (hg : Gl w → Gl w') (hs : ∀ b, S b → b < w.heap.size → S' b ∧ w'.heap[b]? = w.heap[b]?) :
    ∀ (vs : List V) (us : List Value), RdL w S vs us → RdL w' S' vs us
  | [], [], h => hg h
  | [], _ :: _, h => h.elim
  | _ :: _, [], h => h.elim
  | v :: vs, u :: us, h => ⟨Rd.mono hs v u h.1, RdL.monoB hg hs vs us h.2⟩
theorem RdL.mono {w : World} {S S' : Nat → Prop} (hs : ∀ b, S b → b < w.heap.size → S' b ∧ w.heap[b]? = w.heap[b]?) :
    ∀ (vs : List V) (us : List Value), RdL w S vs us → RdL w S' vs us := RdL.monoB id hs
structure Fn (P : Program) (f : FuncId) (vs : List V) (r : Res) : Prop where
  entry : ∀ (args : Array Value) (w : World), (callFunc f args).run P w = .ok (.enter f args) w
  runs : ∀ (w : World) (S0 : Nat → Prop) (us : List Value), RdL w S0 vs us → Calls P f us.toArray w fun e w' =>
    ∃ u φ, e = .returned u ∧ Heap w S0 (bring r.list []).2 φ w' ∧ RdSlot w' (Stab w S0 (bring r.list []).2 φ) φ (r.slot (bring r.list []).1) u
def allVal : List RV → Bool
  | [] => true
  | .pv (.val _) :: r => allVal r
  | _ => false
def Safe : List RV → Prop
  | [] => True
  | .pv (.val _) :: r => Safe r
  | .pv _ :: _ => False
  | .fr _ _ b :: r => (∀ i, i < b.n → ∃ v, b.f i = .val v) ∧ Safe r
def putS (s : ASt) (d : Nat) (r : Slot) : ASt := { s with σ := upd s.σ d r }
def bringIn (s : ASt) (d : Nat) (r : Res) : ASt := { s with σ := upd s.σ d (r.slot (bring r.list s.h).1), h := (bring r.list s.h).2 }
structure callK (P : Program) (q : Bool) (f : FuncId) (d : Nat) (K : ASt → Prop) (s : ASt) (pure : Bool) (vs : List V) : Prop where
  lt : d < s.nt
  met : ∃ r : Res, Fn P f vs r ∧ (allVal r.list = true ∨ (q = false ∧ (pure = true ∨ Safe r.list))) ∧ K (bringIn s d r)
def argsK (s : ASt) : List Operand → Bool → List V → (Bool → List V → Prop) → Prop
  | [], p, vs, K => K p vs.reverse
  | x :: xs, p, vs, K =>
    match opd s x with
    | some (.one (.pv v)) => argsK s xs p (v :: vs) K
    | some (.one (.own id sz off len)) =>
      match s.h[id]? with
      | some (some b) => off + len * sz ≤ b.n ∧ argsK s xs false (.seq sz len (fun i => b.f (off + i)) :: vs) K
      | _ => False
    | _ => False
section
variable {P : Program} {w0 : World} {S0 : Nat → Prop} {s : ASt} {φ : List (Option (Nat × Nat))} {a : Act} {w : World}
theorem SimAt.own_seq (sim : SimAt w0 S0 s φ a w) {id sz off len : Nat} {b : Blk} {u : Value} (hb : s.h[id]? = some (some b)) (hl : off + len * sz ≤ b.n)
    (h : RdS w (Stab w0 S0 s.h φ) φ (.own id sz off len) u) : Rd w (fun _ => True) (.seq sz len fun i => b.f (off + i)) u := by
  rcases h with ⟨_, rfl, rfl, rfl⟩ | ⟨b', c, z, hφ, rfl, hc, _, _⟩
  · exact ⟨none, 0, rfl, Nat.le_refl _, fun h => by simp at h⟩
  · obtain ⟨cur, _, _, hcur, hn, hx⟩ := sim.blkAt hb hφ
    refine ⟨_, c, rfl, hc, fun hp => ⟨b', off, rfl, trivial, fun i hi => ?_⟩⟩
    obtain ⟨x, hx1, hx2⟩ := hx (off + i) (by omega)
    exact ⟨x, cell_of_blk hcur hx1, Rd.mono (fun b _ _ => ⟨trivial, rfl⟩) _ _ hx2⟩
theorem argsK_ok (sim : SimAt w0 S0 s φ a w) {K : Bool → List V → Prop} : ∀ (xs : List Operand) (p : Bool) (vs : List V) (us : List Value), argsK s xs p vs K →
    RdL w (fun _ => True) vs.reverse us.reverse → (p = true → RdL w (Stab w0 S0 s.h φ) vs.reverse us.reverse) →
    ∃ p' vs', K p' vs' ∧ RdL w (fun _ => True) vs' (us.reverse ++ xs.map a.eval) ∧ (p' = true → RdL w (Stab w0 S0 s.h φ) vs' (us.reverse ++ xs.map a.eval))
  | [], p, vs, us, h, h1, h2 => ⟨p, vs.reverse, h, by simpa using h1, by simpa using h2⟩
  | x :: xs, p, vs, us, h, h1, h2 => by
    unfold argsK at h
    split at h
    · rename_i v hv
      have hr := sim.opd hv
      have hr' : Rd w (fun _ => True) v (a.eval x) := Rd.mono (fun b _ _ => ⟨trivial, rfl⟩) _ _ hr
      obtain ⟨p', vs', hK, h3, h4⟩ := argsK_ok sim xs p (v :: vs) (a.eval x :: us) h
        (by rw [List.reverse_cons, List.reverse_cons]; exact RdL.append _ _ _ _ h1 hr')
        (fun hp => by rw [List.reverse_cons, List.reverse_cons]; exact RdL.append _ _ _ _ (h2 hp) hr)
      exact ⟨p', vs', hK, by simpa using h3, by simpa using h4⟩
    · rename_i id sz off len hv
      split at h
      · rename_i b hb
        have hr' := sim.own_seq hb h.1 (sim.opd hv)
        obtain ⟨p', vs', hK, h3, h4⟩ := argsK_ok sim xs false (_ :: vs) (a.eval x :: us) h.2
          (by rw [List.reverse_cons, List.reverse_cons]; exact RdL.append _ _ _ _ h1 hr') (fun hp => by cases hp)
        exact ⟨p', vs', hK, by simpa using h3, by simpa using h4⟩
      · exact h.elim
    · exact h.elim
theorem bring_heap (rs : List RV) : ∀ h g : List (Option Blk), (bring rs (h ++ g)).2 = h ++ (bring rs g).2 := by
  induction rs with
  | nil => intro h g; rfl
  | cons r rs ih =>
    intro h g
    cases r with
    | pv v => exact ih h g
    | fr sz len b =>
      have := ih h (g ++ [some b])
      simp only [bring]
      rw [List.append_assoc]; exact this
theorem bring_slots {S S' : Nat → Prop} {w : World} {φ ψ : List (Option (Nat × Nat))} (rs : List RV) (hS : ∀ b, S b → S' b) : ∀ (h g : List (Option Blk)) (us : List Value), φ.length = h.length →
    RdSs w S ψ (bring rs g).1 us → RdSs w S' (φ ++ ψ) (bring rs (h ++ g)).1 us := by
  have hs : ∀ b, S b → b < w.heap.size → S' b ∧ w.heap[b]? = w.heap[b]? := fun b h _ => ⟨hS b h, rfl⟩
  induction rs with
  | nil => intro h g us _ hr; cases us with | nil => trivial | cons _ _ => exact hr.elim
  | cons r rs ih =>
    intro h g us hl hr
    cases r with
    | pv v =>
      cases us with
      | nil => exact hr.elim
      | cons u us => exact ⟨Rd.mono hs _ _ hr.1, ih h g us hl hr.2⟩
    | fr sz len b =>
      cases us with
      | nil => exact hr.elim
      | cons u us =>
        simp only [bring] at hr ⊢
        rw [List.append_assoc]
        refine ⟨?_, ih h (g ++ [some b]) us hl hr.2⟩
        rw [List.length_append]
        have e : ∀ x, ψ[g.length]? = x → (φ ++ ψ)[h.length + g.length]? = x := fun x hx => by
          rw [List.getElem?_append_right (by omega), hl]; simpa using hx
        rcases hr.1 with ⟨h1, h2⟩ | ⟨b', c, z, h1, h2⟩
        · exact .inl ⟨e _ h1, h2⟩
        · exact .inr ⟨b', c, z, e _ h1, h2⟩
theorem live_append {h g : List (Option Blk)} {φ ψ : List (Option (Nat × Nat))} (hl : φ.length = h.length) {b : Nat} : Live (h ++ g) (φ ++ ψ) b ↔ Live h φ b ∨ Live g ψ b := by
  constructor
  · rintro ⟨id, blk, z, h1, h2⟩
    rcases Nat.lt_or_ge id h.length with hlt | hge
    · rw [List.getElem?_append_left hlt] at h1
      rw [List.getElem?_append_left (by omega)] at h2
      exact .inl ⟨id, blk, z, h1, h2⟩
    · rw [List.getElem?_append_right hge] at h1
      rw [List.getElem?_append_right (by omega), hl] at h2
      exact .inr ⟨_, blk, z, h1, h2⟩
  · rintro (⟨id, blk, z, h1, h2⟩ | ⟨id, blk, z, h1, h2⟩)
    · have hlt : id < h.length := (List.getElem?_eq_some_iff.1 h1).1
      exact ⟨id, blk, z, by rw [List.getElem?_append_left hlt]; exact h1, by rw [List.getElem?_append_left (by omega)]; exact h2⟩
    · refine ⟨h.length + id, blk, z, ?_, ?_⟩
      · rw [List.getElem?_append_right (by omega)]; simpa using h1
      · rw [List.getElem?_append_right (by omega), hl]; simpa using h2
theorem Heap.live_ge {S1 : Nat → Prop} {g : List (Option Blk)} {ψ : List (Option (Nat × Nat))} {w' : World} (hh : Heap w S1 g ψ w') {b : Nat} (h : Live g ψ b) : w.heap.size ≤ b ∧ b < w'.heap.size := by
  obtain ⟨id, blk, z, h1, h2⟩ := h
  rcases hh.blk id blk h1 with ⟨h3, _⟩ | ⟨b', cur, h3, h4, h5, _⟩
  · rw [h2] at h3; cases h3
  · rw [h2] at h3; injection h3 with h3; injection h3 with h3; injection h3 with h3 _; subst h3; exact ⟨h4, block_lt h5⟩
theorem SimAt.stab_bring (sim : SimAt w0 S0 s φ a w) {S1 : Nat → Prop} {g : List (Option Blk)} {ψ : List (Option (Nat × Nat))} {w' : World} (hh : Heap w S1 g ψ w') :
    ∀ b, Stab w0 S0 s.h φ b → b < w.heap.size → Stab w0 S0 (s.h ++ g) (φ ++ ψ) b ∧ w'.heap[b]? = w.heap[b]? := fun b h hb =>
  ⟨⟨h.1, fun hl => by
    rcases (live_append sim.heap.len).1 hl with h1 | h1
    · exact h.2 h1
    · have := (hh.live_ge h1).1; omega⟩, hh.below.block b hb⟩
theorem SimAt.stab_callee (sim : SimAt w0 S0 s φ a w) {g : List (Option Blk)} {ψ : List (Option (Nat × Nat))} :
    ∀ b, Stab w (Stab w0 S0 s.h φ) g ψ b → Stab w0 S0 (s.h ++ g) (φ ++ ψ) b := fun b h => by
  obtain ⟨h1, h2⟩ := h
  have hw := sim.heap.below.size
  refine ⟨h1.elim (fun h => h.1) (fun h => .inr (by omega)), fun hl => ?_⟩
  rcases (live_append sim.heap.len).1 hl with h3 | h3
  · rcases h1 with h1 | h1
    · exact h1.2 h3
    · have := (sim.heap.live_ge h3).2; omega
  · exact h2 h3
theorem SimAt.join (sim : SimAt w0 S0 s φ a w) {S1 : Nat → Prop} {g : List (Option Blk)} {ψ : List (Option (Nat × Nat))} {w' : World} (hh : Heap w S1 g ψ w')
    (hc : ∀ (id : Nat) (blk : Blk) (i : Nat) (x : Value), g[id]? = some (some blk) → i < blk.n → Rd w' (Stab w S1 g ψ) (blk.f i) x → Rd w' (Stab w0 S0 (s.h ++ g) (φ ++ ψ)) (blk.f i) x) :
    SimAt w0 S0 { s with h := s.h ++ g } (φ ++ ψ) a w' := by
  have hs := sim.stab_bring hh
  have hl := sim.heap.len
  refine ⟨⟨by simp [hl, hh.len], sim.heap.below.trans (hh.below.mono sim.heap.below.size), fun id blk hi => ?_, fun i j bi bj b z z' hi hj hi' hj' => ?_⟩, fun t v ht => ?_, sim.defers, sim.size⟩
  · rcases Nat.lt_or_ge id s.h.length with hlt | hge
    · rw [List.getElem?_append_left hlt] at hi
      rw [List.getElem?_append_left (by omega)]
      rcases sim.heap.blk id blk hi with h1 | ⟨b, cur, h1, h2, h3, h4, h5⟩
      · exact .inl h1
      · refine .inr ⟨b, cur, h1, h2, by rw [hh.below.block b (block_lt h3)]; exact h3, h4, fun i hi => ?_⟩
        obtain ⟨x, hx, hr⟩ := h5 i hi
        exact ⟨x, hx, Rd.mono hs _ _ hr⟩
    · rw [List.getElem?_append_right hge] at hi
      rw [List.getElem?_append_right (by omega), hl]
      rcases hh.blk _ blk hi with h1 | ⟨b, cur, h1, h2, h3, h4, h5⟩
      · exact .inl h1
      · have := sim.heap.below.size
        refine .inr ⟨b, cur, h1, by omega, h3, h4, fun i hi' => ?_⟩
        obtain ⟨x, hx, hr⟩ := h5 i hi'
        exact ⟨x, hx, hc _ blk i x hi hi' hr⟩
  · rcases Nat.lt_or_ge i s.h.length with hlt | hge <;> rcases Nat.lt_or_ge j s.h.length with hlt' | hge'
    · rw [List.getElem?_append_left (by omega)] at hi hj hi' hj'
      exact sim.heap.inj i j bi bj b z z' hi hj hi' hj'
    · rw [List.getElem?_append_left (by omega)] at hi hi'
      rw [List.getElem?_append_right (by omega)] at hj hj'
      rw [hl] at hj'
      have h1 := (sim.heap.live_ge ⟨i, bi, _, hi, hi'⟩).2
      have h2 := (hh.live_ge ⟨_, bj, _, hj, hj'⟩).1
      omega
    · rw [List.getElem?_append_right (by omega)] at hi hi'
      rw [List.getElem?_append_left (by omega)] at hj hj'
      rw [hl] at hi'
      have h1 := (sim.heap.live_ge ⟨j, bj, _, hj, hj'⟩).2
      have h2 := (hh.live_ge ⟨_, bi, _, hi, hi'⟩).1
      omega
    · rw [List.getElem?_append_right (by omega)] at hi hj hi' hj'
      rw [hl] at hi' hj'
      have := hh.inj _ _ bi bj b z z' hi hj hi' hj'
      omega
  · obtain ⟨u, hu, hr⟩ := sim.slots t v ht
    exact ⟨u, hu, RdSlot.mono hs (fun id x hx => by rw [List.getElem?_append_left ((List.getElem?_eq_some_iff.1 hx).1)]; exact hx) v u hr⟩
theorem bring_nil (rs : List RV) (h : List (Option Blk)) : (bring rs h).2 = h ++ (bring rs []).2 := by
  have := bring_heap rs h []
  simpa using this
theorem safe_blk {rs : List RV} (h : Safe rs) : ∀ (g : List (Option Blk)) (id : Nat) (blk : Blk), (bring rs g).2[id]? = some (some blk) → (∀ (id : Nat) (blk : Blk), g[id]? = some (some blk) → ∀ i, i < blk.n → ∃ v, blk.f i = .val v) →
    ∀ i, i < blk.n → ∃ v, blk.f i = .val v := by
  induction rs with
  | nil => intro g id blk hi hg; exact hg id blk hi
  | cons r rs ih =>
    intro g id blk hi hg
    cases r with
    | pv v =>
      cases v with
      | val v => exact ih h g id blk hi hg
      | seq _ _ _ => exact h.elim
      | agg _ _ => exact h.elim
      | pin _ _ => exact h.elim
      | clo _ _ _ => exact h.elim
      | old _ _ => exact h.elim
      | row _ _ _ _ _ => exact h.elim
      | grow _ _ _ _ _ _ => exact h.elim
      | cur _ _ _ _ => exact h.elim
    | fr sz len b =>
      refine ih h.2 (g ++ [some b]) id blk hi fun id' blk' hi' => ?_
      rcases Nat.lt_or_ge id' g.length with hlt | hge
      · rw [List.getElem?_append_left hlt] at hi'; exact hg _ _ hi'
      · rw [List.getElem?_append_right hge] at hi'
        have : id' - g.length = 0 := by
          rcases Nat.eq_zero_or_pos (id' - g.length) with h0 | h0
          · exact h0
          · rw [List.getElem?_eq_none (by simp; omega)] at hi'; cases hi'
        rw [this] at hi'
        simp at hi'
        subst hi'
        exact h.1
theorem safe_slots {S S' : Nat → Prop} {w' : World} {ψ : List (Option (Nat × Nat))} {rs : List RV} (h : Safe rs) : ∀ (g : List (Option Blk)) (us : List Value), RdSs w' S ψ (bring rs g).1 us → RdSs w' S' ψ (bring rs g).1 us := by
  induction rs with
  | nil => intro g us hr; cases us with | nil => trivial | cons _ _ => exact hr.elim
  | cons r rs ih =>
    intro g us hr
    cases r with
    | pv v =>
      cases v with
      | val v =>
        cases us with
        | nil => exact hr.elim
        | cons u us => exact ⟨hr.1, ih h g us hr.2⟩
      | seq _ _ _ => exact h.elim
      | agg _ _ => exact h.elim
      | pin _ _ => exact h.elim
      | clo _ _ _ => exact h.elim
      | old _ _ => exact h.elim
      | row _ _ _ _ _ => exact h.elim
      | grow _ _ _ _ _ _ => exact h.elim
      | cur _ _ _ _ => exact h.elim
    | fr sz len b =>
      cases us with
      | nil => exact hr.elim
      | cons u us => exact ⟨hr.1, ih h.2 _ us hr.2⟩
theorem rdSlot_bring {S S' : Nat → Prop} {w' : World} {ψ ψ' : List (Option (Nat × Nat))} {g g' : List (Option Blk)} {u : Value} (r : Res)
    (h : ∀ us, RdSs w' S ψ (bring r.list g).1 us → RdSs w' S' ψ' (bring r.list g').1 us) (hr : RdSlot w' S ψ (r.slot (bring r.list g).1) u) : RdSlot w' S' ψ' (r.slot (bring r.list g').1) u := by
  cases r with
  | one r => cases r <;> exact (h [u] ⟨hr, trivial⟩).1
  | many l =>
    obtain ⟨us, rfl, hr⟩ := hr
    exact ⟨us, rfl, h us hr⟩
theorem SimAt.call_pure (sim : SimAt w0 S0 s φ a w) {d : Nat} (hd : d < s.nt) {r : Res} {ψ : List (Option (Nat × Nat))} {w' : World} {u : Value}
    (hh : Heap w (Stab w0 S0 s.h φ) (bring r.list []).2 ψ w') (hr : RdSlot w' (Stab w (Stab w0 S0 s.h φ) (bring r.list []).2 ψ) ψ (r.slot (bring r.list []).1) u) :
    SimAt w0 S0 (bringIn s d r) (φ ++ ψ) (a.put (some d) u) w' := by
  have hj := sim.join hh fun id blk i x _ _ hr => Rd.mono (fun b hb _ => ⟨sim.stab_callee b hb, rfl⟩) _ _ hr
  have e := bring_nil r.list s.h
  have hp := hj.put (d := d) hd (v := r.slot (bring r.list s.h).1) (u := u) (by
    refine rdSlot_bring (g := []) (g' := s.h) r (fun us hus => ?_) hr
    have := bring_slots (S' := Stab w0 S0 (s.h ++ (bring r.list []).2) (φ ++ ψ)) r.list (fun b hb => sim.stab_callee b hb) s.h [] us sim.heap.len hus
    simpa using this)
  rw [← e] at hp
  exact hp
theorem SimAt.call_safe (sim : SimAt w0 S0 s φ a w) {d : Nat} (hd : d < s.nt) {r : Res} (hs : Safe r.list) {S1 : Nat → Prop} {ψ : List (Option (Nat × Nat))} {w' : World} {u : Value}
    (hh : Heap w S1 (bring r.list []).2 ψ w') (hr : RdSlot w' (Stab w S1 (bring r.list []).2 ψ) ψ (r.slot (bring r.list []).1) u) :
    SimAt w0 S0 (bringIn s d r) (φ ++ ψ) (a.put (some d) u) w' := by
  have hj := sim.join hh fun id blk i x hid hi hr => by
    obtain ⟨v, hv⟩ := safe_blk hs [] id blk hid (fun _ _ h => by simp at h) i hi
    rw [hv] at hr ⊢; exact hr
  have e := bring_nil r.list s.h
  have hp := hj.put (d := d) hd (v := r.slot (bring r.list s.h).1) (u := u) (by
    refine rdSlot_bring (g := []) (g' := s.h) r (fun us hus => ?_) hr
    have h1 := safe_slots (S' := Stab w (Stab w0 S0 s.h φ) (bring r.list []).2 ψ) hs [] us hus
    have := bring_slots (S' := Stab w0 S0 (s.h ++ (bring r.list []).2) (φ ++ ψ)) r.list (fun b hb => sim.stab_callee b hb) s.h [] us sim.heap.len h1
    simpa using this)
  rw [← e] at hp
  exact hp
theorem allVal_safe {rs : List RV} (h : allVal rs = true) : Safe rs := by
  induction rs with
  | nil => trivial
  | cons r rs ih =>
    cases r with
    | pv v => cases v <;> first | exact ih h | simp [allVal] at h
    | fr _ _ _ => simp [allVal] at h
def valsOf : List RV → List Value
  | .pv (.val v) :: r => v :: valsOf r
  | _ => []
def Res.value : Res → Value
  | .one (.pv (.val v)) => v
  | .one _ => undef
  | .many l => .tuple (valsOf l).toArray
theorem rdSs_vals {S : Nat → Prop} {w' : World} {ψ : List (Option (Nat × Nat))} {rs : List RV} (h : allVal rs = true) : ∀ (g : List (Option Blk)) (us : List Value), RdSs w' S ψ (bring rs g).1 us → us = valsOf rs := by
  induction rs with
  | nil => intro g us hr; cases us with | nil => rfl | cons _ _ => exact hr.elim
  | cons r rs ih =>
    intro g us hr
    cases r with
    | pv v =>
      cases v with
      | val v =>
        cases us with
        | nil => exact hr.elim
        | cons u us =>
          have h1 : u = v := hr.1
          rw [h1, ih h g us hr.2]; rfl
      | seq _ _ _ => simp [allVal] at h
      | agg _ _ => simp [allVal] at h
      | pin _ _ => simp [allVal] at h
      | clo _ _ _ => simp [allVal] at h
      | old _ _ => simp [allVal] at h
      | row _ _ _ _ _ => simp [allVal] at h
      | grow _ _ _ _ _ _ => simp [allVal] at h
      | cur _ _ _ _ => simp [allVal] at h
    | fr _ _ _ => simp [allVal] at h
theorem rdSlot_value {S : Nat → Prop} {w' : World} {ψ : List (Option (Nat × Nat))} {r : Res} (h : allVal r.list = true) {g : List (Option Blk)} {u : Value} (hr : RdSlot w' S ψ (r.slot (bring r.list g).1) u) : u = r.value := by
  cases r with
  | one r =>
    cases r with
    | pv v => cases v <;> first | exact hr | simp [Res.list, allVal] at h
    | fr _ _ _ => simp [Res.list, allVal] at h
  | many l =>
    obtain ⟨us, rfl, hr⟩ := hr
    rw [rdSs_vals h g us hr]; rfl
theorem bring_vals {rs : List RV} (h : allVal rs = true) (g : List (Option Blk)) (S : Nat → Prop) (w' : World) (ψ : List (Option (Nat × Nat))) : (bring rs g).2 = g ∧ RdSs w' S ψ (bring rs g).1 (valsOf rs) := by
  induction rs with
  | nil => exact ⟨rfl, trivial⟩
  | cons r rs ih =>
    cases r with
    | pv v =>
      cases v with
      | val v => exact ⟨(ih h).1, rfl, (ih h).2⟩
      | seq _ _ _ => simp [allVal] at h
      | agg _ _ => simp [allVal] at h
      | pin _ _ => simp [allVal] at h
      | clo _ _ _ => simp [allVal] at h
      | old _ _ => simp [allVal] at h
      | row _ _ _ _ _ => simp [allVal] at h
      | grow _ _ _ _ _ _ => simp [allVal] at h
      | cur _ _ _ _ => simp [allVal] at h
    | fr _ _ _ => simp [allVal] at h
theorem bring_value {r : Res} (h : allVal r.list = true) (g : List (Option Blk)) (S : Nat → Prop) (w' : World) (ψ : List (Option (Nat × Nat))) : (bring r.list g).2 = g ∧ RdSlot w' S ψ (r.slot (bring r.list g).1) r.value := by
  have h1 := bring_vals h g S w' ψ
  refine ⟨h1.1, ?_⟩
  cases r with
  | one r =>
    cases r with
    | pv v => cases v <;> first | rfl | simp [Res.list, allVal] at h
    | fr _ _ _ => simp [Res.list, allVal] at h
  | many l => exact ⟨_, rfl, h1.2⟩
end
set_option linter.unusedSimpArgs false
set_option linter.unusedVariables false
open Go.RowKit
def V.one : V → Bool
  | .val v => v.oneCell'
  | .seq _ _ _ => true
  | .agg _ _ => false
  | .pin _ _ => true
  | .clo _ _ _ => true
  | .old _ v => v.one
  | .row _ _ _ _ _ => true
  | .grow _ _ _ _ _ _ => true
  | .cur _ _ _ _ => true
theorem Rd.one {w : World} {S : Nat → Prop} {v : V} {u : Value} (h : v.one = true) (hr : Rd w S v u) : u.oneCell' = true := by
  induction v generalizing S with
  | val v => have e : u = v := hr; rw [e]; exact h
  | seq sz n f => obtain ⟨A, c, rfl, _⟩ := hr; rfl
  | agg n f => cases h
  | pin n f => obtain ⟨b, off, rfl, _⟩ := hr; rfl
  | clo g n f => obtain ⟨cs, rfl, _⟩ := hr; rfl
  | old Z v ih => exact ih h hr.2
  | row u0 Z sz n f => obtain ⟨_, _, A, c, rfl, _⟩ := hr; rfl
  | grow u0 Z e sz n f => obtain ⟨_, _, ⟨rfl, _⟩ | ⟨b, c, cur, rfl, _⟩⟩ := hr <;> rfl
  | cur b k Z c ih => obtain ⟨rfl, _⟩ := hr; rfl
section
variable {P : Program} {w0 : World} {S0 : Nat → Prop} {s : ASt} {φ : List (Option (Nat × Nat))} {a : Act} {w : World}
theorem live_set {h : List (Option Blk)} {id : Nat} {blk blk' : Blk} (hi : h[id]? = some (some blk)) (b : Nat) : Live (h.set id (some blk')) φ b ↔ Live h φ b := by
  have hlt := (List.getElem?_eq_some_iff.1 hi).1
  constructor
  · rintro ⟨i, x, z, h1, h2⟩
    by_cases e : id = i
    · subst e; exact ⟨id, blk, z, hi, h2⟩
    · rw [List.getElem?_set_ne e] at h1; exact ⟨i, x, z, h1, h2⟩
  · rintro ⟨i, x, z, h1, h2⟩
    by_cases e : id = i
    · subst e; exact ⟨id, blk', z, by simp [hlt], h2⟩
    · exact ⟨i, x, z, by rw [List.getElem?_set_ne e]; exact h1, h2⟩
theorem SimAt.write (sim : SimAt w0 S0 s φ a w) {id b z : Nat} {blk blk' : Blk} (hi : s.h[id]? = some (some blk)) (hφ : φ[id]? = some (some (b, z))) {w' : World} {cur' : Array Value}
    (hcur' : w'.heap[b]? = some (.cells cur' blk.elem (0, 0))) (hsz : cur'.size = z) (hos : w'.os = w.os) (htape : w'.tape = w.tape) (hout : w'.output = w.output)
    (hsize : w.heap.size ≤ w'.heap.size) (hoth : ∀ k, k < w.heap.size → k ≠ b → w'.heap[k]? = w.heap[k]?) (he : blk'.elem = blk.elem) (hn : blk'.n ≤ cur'.size)
    (hx : ∀ i, i < blk'.n → ∃ x, cur'[i]? = some x ∧ Rd w (Stab w0 S0 s.h φ) (blk'.f i) x) : SimAt w0 S0 { s with h := s.h.set id (some blk') } φ a w' := by
  obtain ⟨cur, hz, hB, hcur, _, _⟩ := sim.blkAt hi hφ
  have hb : b < w.heap.size := block_lt hcur
  have hlt := (List.getElem?_eq_some_iff.1 hi).1
  have hlive : Live s.h φ b := ⟨id, blk, z, hi, hφ⟩
  have hs : ∀ k, Stab w0 S0 s.h φ k → k < w.heap.size → Stab w0 S0 (s.h.set id (some blk')) φ k ∧ w'.heap[k]? = w.heap[k]? := fun k h1 h2 =>
    ⟨⟨h1.1, fun h => h1.2 ((live_set hi k).1 h)⟩, hoth k h2 (fun e => h1.2 (e ▸ hlive))⟩
  refine ⟨⟨by simp [sim.heap.len], sim.heap.below.trans ⟨hos, htape, hout, hsize, fun k hk => hoth k (by have := sim.heap.below.size; omega) (by omega)⟩, fun i x hi' => ?_, fun i j bi bj bb z1 z2 h1 h2 h3 h4 => ?_⟩, fun t v ht => ?_, sim.defers, sim.size⟩
  · by_cases e : id = i
    · subst e
      have : x = blk' := by simpa [hlt] using hi'.symm
      subst this
      refine .inr ⟨b, cur', by rw [hsz]; exact hφ, hB, by rw [he]; exact hcur', hn, fun j hj => ?_⟩
      obtain ⟨y, hy, hr⟩ := hx j hj
      exact ⟨y, hy, Rd.mono hs _ _ hr⟩
    · have hi'' : s.h[i]? = some (some x) := by rw [← hi']; exact (List.getElem?_set_ne e).symm
      rcases sim.heap.blk i x hi'' with h1 | ⟨b', c, h1, h2, h3, h4, h5⟩
      · exact .inl h1
      · have hne : b' ≠ b := fun eb => by
          subst eb
          exact e (sim.heap.inj id i blk x b' _ _ hi hi'' hφ h1)
        refine .inr ⟨b', c, h1, h2, by rw [hoth b' (block_lt h3) hne]; exact h3, h4, fun j hj => ?_⟩
        obtain ⟨y, hy, hr⟩ := h5 j hj
        exact ⟨y, hy, Rd.mono hs _ _ hr⟩
  · have g : ∀ (k : Nat) (bk : Blk), (s.h.set id (some blk'))[k]? = some (some bk) → ∃ bk', s.h[k]? = some (some bk') := fun k bk hk => by
      by_cases e : id = k
      · subst e; exact ⟨blk, hi⟩
      · rw [List.getElem?_set_ne e] at hk; exact ⟨bk, hk⟩
    obtain ⟨b1, h1'⟩ := g i bi h1
    obtain ⟨b2, h2'⟩ := g j bj h2
    exact sim.heap.inj i j b1 b2 bb z1 z2 h1' h2' h3 h4
  · obtain ⟨u, hu, hr⟩ := sim.slots t v ht
    exact ⟨u, hu, RdSlot.mono hs (fun _ _ h => h) v u hr⟩
theorem SimAt.made (sim : SimAt w0 S0 s φ a w) {blk : Blk} {cells : Array Value} {w' : World} (hw' : w' = w.alloc (.cells cells blk.elem)) (hn : blk.n ≤ cells.size)
    (hx : ∀ i, i < blk.n → ∃ x, cells[i]? = some x ∧ Rd w (Stab w0 S0 s.h φ) (blk.f i) x) : SimAt w0 S0 { s with h := s.h ++ [some blk] } (φ ++ [some (w.heap.size, cells.size)]) a w' := by
  subst hw'
  have hnew : (w.alloc (.cells cells blk.elem)).heap[w.heap.size]? = some (.cells cells blk.elem (0, 0)) := heap_alloc_new w _
  have hb : Below w.heap.size w (w.alloc (.cells cells blk.elem)) := (Below.refl _ _).alloc (Nat.le_refl _) _
  have hh : Heap w (Stab w0 S0 s.h φ) [some blk] [some (w.heap.size, cells.size)] (w.alloc (.cells cells blk.elem)) := by
    refine ⟨rfl, hb, fun id b hi => ?_, fun i j bi bj b z z' h1 h2 _ _ => ?_⟩
    · cases id with
      | zero =>
        simp at hi; subst hi
        refine .inr ⟨w.heap.size, cells, rfl, Nat.le_refl _, hnew, hn, fun i hi => ?_⟩
        obtain ⟨x, hx1, hx2⟩ := hx i hi
        refine ⟨x, hx1, Rd.mono (fun b hb' hlt => ⟨⟨.inl hb', fun hl => ?_⟩, hb.block b hlt⟩) _ _ hx2⟩
        obtain ⟨k, bk, z, h1, h2⟩ := hl
        cases k with
        | zero => simp at h2; omega
        | succ k => simp at h1
      | succ id => simp at hi
    · cases i <;> cases j <;> simp at h1 h2 <;> rfl
  exact sim.join hh fun id bk i x _ _ hr => Rd.mono (fun b hb _ => ⟨sim.stab_callee b hb, rfl⟩) _ _ hr
def placeOf (w : World) (v : Value) : Option (Nat × Nat) :=
  match v.ownBlock with
  | some b =>
    match w.heap[b]? with
    | some (.cells c _ _) => some (b, c.size)
    | _ => none
  | none => none
theorem SimAt.grown (sim : SimAt w0 S0 s φ a w) {id sz n m : Nat} {blk : Blk} {u v' : Value} {w' : World} {g : Nat → V} {xs news : List Value}
    (hi : s.h[id]? = some (some blk)) (hu : RdS w (Stab w0 S0 s.h φ) φ (.own id sz 0 n) u)
    (hxs : xs.length = n * sz) (hx : ∀ i, i < n * sz → ∃ x, xs[i]? = some x ∧ Rd w (Stab w0 S0 s.h φ) (blk.f i) x)
    (hnews : ∀ i, i < m * sz → ∃ x, news[i]? = some x ∧ Rd w (Stab w0 S0 s.h φ) (g i) x)
    (hown : w'.ownsRow w0.heap.size blk.elem sz v' (n + m) (xs ++ news)) (hgrow : w.grownBy w' u.ownBlock) (hwhere : v'.ownBlock = u.ownBlock ∨ v'.ownBlock = some w.heap.size) :
    SimAt w0 S0 { s with h := s.h.set id none ++ [some ⟨blk.elem, (n + m) * sz, fun i => if i < n * sz then blk.f i else g (i - n * sz)⟩] } (φ ++ [placeOf w' v']) a w' ∧
      RdS w' (Stab w0 S0 (s.h.set id none ++ [some ⟨blk.elem, (n + m) * sz, fun i => if i < n * sz then blk.f i else g (i - n * sz)⟩]) (φ ++ [placeOf w' v'])) (φ ++ [placeOf w' v']) (.own s.h.length sz 0 (n + m)) v' := by
  generalize hnb : (⟨blk.elem, (n + m) * sz, fun i => if i < n * sz then blk.f i else g (i - n * sz)⟩ : Blk) = nb
  have hlt := (List.getElem?_eq_some_iff.1 hi).1
  have hl := sim.heap.len
  have hub : ∀ b, u.ownBlock = some b → ∃ z, φ[id]? = some (some (b, z)) ∧ Live s.h φ b := fun b hb => by
    rcases hu with ⟨_, _, _, rfl⟩ | ⟨b', c, z, h1, rfl, _⟩
    · cases hb
    · simp only [Value.ownBlock, Option.some.injEq] at hb; subst hb; exact ⟨z, h1, id, blk, z, hi, h1⟩
  have hplace : ∀ b z, placeOf w' v' = some (b, z) → v'.ownBlock = some b := fun b z h => by
    unfold placeOf at h
    split at h
    · rename_i b' hb'
      split at h
      · injection h with h; injection h with h1 h2; subst h1; exact hb'
      · cases h
    · cases h
  have hget : ∀ (i : Nat) (x : Blk), (s.h.set id none ++ [some nb])[i]? = some (some x) → (i ≠ id ∧ i < s.h.length ∧ s.h[i]? = some (some x)) ∨ (i = s.h.length ∧ x = nb) := fun i x hi' => by
    rcases Nat.lt_or_ge i s.h.length with h | h
    · rw [List.getElem?_append_left (by simpa using h)] at hi'
      by_cases e : id = i
      · subst e; simp [hlt] at hi'
      · rw [List.getElem?_set_ne e] at hi'; exact .inl ⟨fun e' => e e'.symm, h, hi'⟩
    · rw [List.getElem?_append_right (by simpa using h)] at hi'
      have h0 : i - (s.h.set id none).length = 0 := by
        rcases Nat.eq_zero_or_pos (i - (s.h.set id none).length) with h0 | h0
        · exact h0
        · rw [List.getElem?_eq_none (by simp at h0 ⊢; omega)] at hi'; cases hi'
      rw [h0] at hi'
      simp at hi'
      exact .inr ⟨by simp at h0; omega, hi'.symm⟩
  have hφl : ∀ i, i < s.h.length → (φ ++ [placeOf w' v'])[i]? = φ[i]? := fun i h => List.getElem?_append_left (by omega)
  have hφr : (φ ++ [placeOf w' v'])[s.h.length]? = some (placeOf w' v') := by rw [← hl]; simp
  have hlive : ∀ b, Live (s.h.set id none ++ [some nb]) (φ ++ [placeOf w' v']) b → (∃ i x z, i ≠ id ∧ s.h[i]? = some (some x) ∧ φ[i]? = some (some (b, z))) ∨ v'.ownBlock = some b := fun b hb => by
    obtain ⟨i, x, z, h1, h2⟩ := hb
    rcases hget i x h1 with ⟨h3, h4, h5⟩ | ⟨rfl, _⟩
    · rw [hφl i h4] at h2; exact .inl ⟨i, x, z, h3, h5, h2⟩
    · rw [hφr] at h2; injection h2 with h2; exact .inr (hplace b z h2)
  have hs : ∀ k, Stab w0 S0 s.h φ k → k < w.heap.size → Stab w0 S0 (s.h.set id none ++ [some nb]) (φ ++ [placeOf w' v']) k ∧ w'.heap[k]? = w.heap[k]? := fun k h1 h2 => by
    refine ⟨⟨h1.1, fun h => ?_⟩, hgrow.block k h2 fun e => h1.2 (hub k e.symm).choose_spec.2⟩
    rcases hlive k h with ⟨i, x, z, _, h3, h4⟩ | h3
    · exact h1.2 ⟨i, x, z, h3, h4⟩
    · rcases hwhere with h4 | h4
      · exact h1.2 (hub k (by rw [← h4]; exact h3)).choose_spec.2
      · rw [h4] at h3; injection h3 with h3; omega
  have hbelow : Below w0.heap.size w w' := ⟨hgrow.os, hgrow.tape, hgrow.output, hgrow.size, fun k hk => hgrow.block k (by have := sim.heap.below.size; omega) fun e => by
    obtain ⟨z, h1, _⟩ := hub k e.symm
    obtain ⟨_, _, hB, _⟩ := sim.blkAt hi h1
    omega⟩
  have hnb1 : nb.elem = blk.elem := by rw [← hnb]
  have hnb2 : nb.n = (n + m) * sz := by rw [← hnb]
  -- the new slice's own block
  have hnew : (v' = .slice none 0 0 ∧ n + m = 0 ∧ placeOf w' v' = none) ∨ ∃ g cap cur, v' = .slice (some ⟨g, 0, none⟩) (n + m) cap ∧ w0.heap.size ≤ g ∧ w'.heap[g]? = some (.cells cur blk.elem (0, 0)) ∧ n + m ≤ cap ∧ cap ≤ maxLen ∧
      cur.size = cap * sz ∧ cur.toList.take ((n + m) * sz) = xs ++ news ∧ placeOf w' v' = some (g, cur.size) := by
    rcases hown.2 with ⟨rfl, h⟩ | ⟨g, cap, cur, rfl, h1, h2, h3, h4, h5, h6⟩
    · exact .inl ⟨rfl, h, rfl⟩
    · exact .inr ⟨g, cap, cur, rfl, h1, h2, h3, h4, h5, h6, by simp [placeOf, Value.ownBlock, h2]⟩
  refine ⟨⟨⟨by simp [hl], sim.heap.below.trans hbelow, fun i x hi' => ?_, fun i j bi bj bb z1 z2 h1 h2 h3 h4 => ?_⟩, fun t v ht => ?_, sim.defers, sim.size⟩, ?_⟩
  · rcases hget i x hi' with ⟨h1, h2, h3⟩ | ⟨rfl, rfl⟩
    · rw [hφl i h2]
      rcases sim.heap.blk i x h3 with h4 | ⟨b', c, h4, h5, h6, h7, h8⟩
      · exact .inl h4
      · have hne : some b' ≠ u.ownBlock := fun eb => by
          obtain ⟨z, h9, _⟩ := hub b' eb.symm
          exact h1 (sim.heap.inj i id x blk b' _ _ h3 hi h4 h9)
        refine .inr ⟨b', c, h4, h5, by rw [hgrow.block b' (block_lt h6) hne]; exact h6, h7, fun j hj => ?_⟩
        obtain ⟨y, hy, hr⟩ := h8 j hj
        exact ⟨y, hy, Rd.mono hs _ _ hr⟩
    · rw [hφr]
      rcases hnew with ⟨h1, h2, h3⟩ | ⟨g', cap, cur, h1, h2, h3, h4, h5, h6, h7, h8⟩
      · exact .inl ⟨by rw [h3], by rw [hnb2, h2]; simp⟩
      · refine .inr ⟨g', cur, by rw [h8], h2, by rw [hnb1]; exact h3, by rw [hnb2, h6]; exact Nat.mul_le_mul_right _ h4, fun j hj => ?_⟩
        rw [hnb2] at hj
        have hj' : (xs ++ news)[j]? = cur[j]? := by
          rw [← h7, List.getElem?_take, if_pos hj]; simp
        rw [← hj', ← hnb]
        by_cases hjn : j < n * sz
        · obtain ⟨y, hy, hr⟩ := hx j hjn
          refine ⟨y, by rw [List.getElem?_append_left (by omega)]; exact hy, ?_⟩
          simp only [hjn, if_true]
          exact Rd.mono (hnb ▸ hs) _ _ hr
        · have hjm : j - n * sz < m * sz := by rw [Nat.add_mul] at hj; omega
          obtain ⟨y, hy, hr⟩ := hnews (j - n * sz) hjm
          refine ⟨y, by rw [List.getElem?_append_right (by omega), hxs]; exact hy, ?_⟩
          simp only [hjn, if_false]
          exact Rd.mono (hnb ▸ hs) _ _ hr
  · have same : ∀ (i j : Nat) (x : Blk), i ≠ id → i < s.h.length → s.h[i]? = some (some x) → φ[i]? = some (some (bb, z1)) ∨ φ[i]? = some (some (bb, z2)) → v'.ownBlock = some bb → False := fun i j x e1 e2 e3 e4 e5 => by
      have hl' : Live s.h φ bb := by rcases e4 with e4 | e4 <;> exact ⟨i, x, _, e3, e4⟩
      rcases hwhere with h5 | h5
      · obtain ⟨z, h6, _⟩ := hub bb (by rw [← h5]; exact e5)
        rcases e4 with e4 | e4 <;> exact e1 (sim.heap.inj i id x blk bb _ _ e3 hi e4 h6)
      · rw [h5] at e5; injection e5 with e5
        have := (sim.heap.live_ge hl').2; omega
    rcases hget i bi h1 with ⟨e1, e2, e3⟩ | ⟨rfl, _⟩ <;> rcases hget j bj h2 with ⟨e4, e5, e6⟩ | ⟨e7, _⟩
    · rw [hφl i e2] at h3; rw [hφl j e5] at h4
      exact sim.heap.inj i j bi bj bb z1 z2 e3 e6 h3 h4
    · subst e7
      rw [hφl i e2] at h3; rw [hφr] at h4; injection h4 with h4
      exact (same i i bi e1 e2 e3 (.inl h3) (hplace _ _ h4)).elim
    · rw [hφr] at h3; rw [hφl j e5] at h4; injection h3 with h3
      exact (same j j bj e4 e5 e6 (.inr h4) (hplace _ _ h3)).elim
    · exact e7.symm
  · obtain ⟨y, hy, hr⟩ := sim.slots t v ht
    exact ⟨y, hy, RdSlot.mono hs (fun k x hk => by rw [hφl k (by rw [← hl]; exact (List.getElem?_eq_some_iff.1 hk).1)]; exact hk) v y hr⟩
  · rcases hnew with ⟨h1, h2, h3⟩ | ⟨g', cap, cur, h1, h2, h3, h4, h5, h6, h7, h8⟩
    · exact .inl ⟨by rw [hφr, h3], rfl, h2, h1⟩
    · exact .inr ⟨g', cap, cur.size, by rw [hφr, h8], h1, h4, h5, by rw [h6]; simp⟩
end
set_option linter.unusedSimpArgs false
set_option linter.unusedVariables false
open Go.RowKit
def elemInfo (P : Program) (t : TypeId) : Option (TypeId × List Value) :=
  match P.underlying t with
  | some (.slice e) =>
    match P.info? e with
    | some i =>
      match i.zero with
      | some z => if i.size = z.cells.size ∧ 0 < i.size ∧ i.bytes ≤ 64 then some (e, z.cells.toList) else none
      | none => none
    | none => none
  | _ => none
theorem elemInfo_some {P : Program} {t e : TypeId} {zs : List Value} (h : elemInfo P t = some (e, zs)) :
    ∃ i z, P.underlying t = some (.slice e) ∧ P.info? e = some i ∧ i.zero = some z ∧ i.size = zs.length ∧ z.cells = zs.toArray ∧ 0 < zs.length ∧ i.bytes ≤ 64 := by
  unfold elemInfo at h
  split at h
  · rename_i e' hu
    split at h
    · rename_i i hi
      split at h
      · rename_i z hz
        split at h
        · rename_i hc
          injection h with h; injection h with h1 h2; subst h1 h2
          exact ⟨i, z, hu, hi, hz, by simp [hc.1], by simp, by simpa [hc.1] using hc.2.1, hc.2.2⟩
        · cases h
      · cases h
    · cases h
  · cases h
def zeroOf (P : Program) (t : TypeId) : Option (List Value) :=
  match P.info? t with
  | some i => i.zero.map fun z => z.cells.toList
  | none => none
def frz (s : ASt) (x : Operand) (K : ASt → V → Prop) : Prop :=
  match opd s x with
  | some (.one (.pv v)) => K s v
  | some (.one (.own id sz off len)) =>
    match s.h[id]? with
    | some (some b) => off + len * sz ≤ b.n ∧ K { s with h := s.h.set id none } (.seq sz len fun i => b.f (off + i))
    | _ => False
  | _ => False
def setBlk (s : ASt) (id : Nat) (b : Blk) : ASt := { s with h := s.h.set id (some b) }
def storeV (P : Program) (t : TypeId) (id off : Nat) (K : ASt → Prop) (s : ASt) (v : V) : Prop :=
  match s.h[id]? with
  | some (some b) =>
    match v with
    | .agg n g => cellsIn P t = some (some n) ∧ off + n ≤ b.n ∧ (∀ i, i < n → (g i).one = true) ∧ K (setBlk s id ⟨b.elem, b.n, fun i => if off ≤ i ∧ i < off + n then g (i - off) else b.f i⟩)
    | v => cellsIn P t = some none ∧ v.one = true ∧ off < b.n ∧ K (setBlk s id ⟨b.elem, b.n, fun i => if i = off then v else b.f i⟩)
  | _ => False
def storeK (P : Program) (s : ASt) (t : TypeId) (x y : Operand) (K : ASt → Prop) : Prop :=
  match opd s x with
  | some (.one (.ptr id off)) => frz s y (storeV P t id off K)
  | _ => False
def newBlk (s : ASt) (d : Nat) (v : SV) (b : Blk) : ASt := { s with σ := upd s.σ d (.one v), h := s.h ++ [some b] }
def makeK (P : Program) (s : ASt) (t : TypeId) (l c : Operand) (d : Nat) (K : ASt → Prop) : Prop :=
  match opd s l, opd s c, elemInfo P t with
  | some (.one (.pv (.val (.int _ n)))), some (.one (.pv (.val (.int _ m)))), some (e, zs) =>
    0 ≤ n ∧ n ≤ m ∧ m ≤ 1099511627776 ∧ K (newBlk s d (.own s.h.length zs.length 0 n.toNat) ⟨e, n.toNat * zs.length, fun i => .val (zs.getD (i % zs.length) undef)⟩)
  | _, _, _ => False
def srcK (s : ASt) (y : Operand) (K : Nat → Nat → (Nat → V) → Prop) : Prop :=
  match opd s y with
  | some (.one (.pv (.seq sz m g))) => K sz m g
  | some (.one (.pv (.old Z (.seq sz m g)))) => K sz m fun i => oldZ Z (g i)
  | some (.one (.own id sz off m)) =>
    match s.h[id]? with
    | some (some b) => off + m * sz ≤ b.n ∧ K sz m fun i => b.f (off + i)
    | _ => False
  | _ => False
def growK (P : Program) (s : ASt) (t : TypeId) (d : Nat) (K : ASt → Prop) (id sz n : Nat) (sz' m : Nat) (g : Nat → V) : Prop :=
  match s.h[id]?, elemInfo P t with
  | some (some b), some (e, zs) =>
    e = b.elem ∧ zs.length = sz ∧ sz' = sz ∧ n * sz ≤ b.n ∧ n + m ≤ 1099511627776 ∧ (∀ i, i < n * sz → (b.f i).one = true) ∧ (∀ i, i < m * sz → (g i).one = true) ∧
      K { s with σ := upd s.σ d (.one (.own s.h.length sz 0 (n + m))), h := s.h.set id none ++ [some ⟨b.elem, (n + m) * sz, fun i => if i < n * sz then b.f i else g (i - n * sz)⟩] }
  | _, _ => False
def appendK (P : Program) (s : ASt) (t : TypeId) (x y : Operand) (d : Nat) (K : ASt → Prop) : Prop :=
  match opd s x with
  | some (.one (.own id sz 0 n)) => srcK s y (growK P s t d K id sz n)
  | some (.one (.pv (.val (.slice none 0 0)))) =>
    match elemInfo P t with
    | some (e, zs) => srcK s y (growK P { s with h := s.h ++ [some ⟨e, 0, fun _ => .val undef⟩] } t d K s.h.length zs.length 0)
    | none => False
  | _ => False
section
variable {P : Program} {w0 : World} {S0 : Nat → Prop} {s : ASt} {φ : List (Option (Nat × Nat))} {a : Act} {w : World}
theorem SimAt.letgo (sim : SimAt w0 S0 s φ a w) (id : Nat) : SimAt w0 S0 { s with h := s.h.set id none } φ a w ∧ ∀ b, Stab w0 S0 s.h φ b → Stab w0 S0 (s.h.set id none) φ b := by
  have g : ∀ (k : Nat) (bk : Blk), (s.h.set id none)[k]? = some (some bk) → s.h[k]? = some (some bk) := fun k bk hk => by
    by_cases e : id = k
    · subst e
      rcases Nat.lt_or_ge id s.h.length with hlt | hge
      · simp [hlt] at hk
      · rw [List.getElem?_eq_none (by simpa using hge)] at hk; cases hk
    · rw [List.getElem?_set_ne e] at hk; exact hk
  have hst : ∀ b, Stab w0 S0 s.h φ b → Stab w0 S0 (s.h.set id none) φ b := fun b hb => ⟨hb.1, fun ⟨i, x, z, h1, h2⟩ => hb.2 ⟨i, x, z, g i x h1, h2⟩⟩
  have hs : ∀ b, Stab w0 S0 s.h φ b → b < w.heap.size → Stab w0 S0 (s.h.set id none) φ b ∧ w.heap[b]? = w.heap[b]? := fun b hb _ => ⟨hst b hb, rfl⟩
  refine ⟨⟨⟨by simp [sim.heap.len], sim.heap.below, fun i x hi => ?_, fun i j bi bj b z z' hi hj => sim.heap.inj i j bi bj b z z' (g i bi hi) (g j bj hj)⟩, fun t v ht => ?_, sim.defers, sim.size⟩, hst⟩
  · rcases sim.heap.blk i x (g i x hi) with h1 | ⟨b, cur, h1, h2, h3, h4, h5⟩
    · exact .inl h1
    · refine .inr ⟨b, cur, h1, h2, h3, h4, fun j hj => ?_⟩
      obtain ⟨y, hy, hr⟩ := h5 j hj
      exact ⟨y, hy, Rd.mono hs _ _ hr⟩
  · obtain ⟨u, hu, hr⟩ := sim.slots t v ht
    exact ⟨u, hu, RdSlot.mono hs (fun _ _ h => h) v u hr⟩
theorem frz_ok (sim : SimAt w0 S0 s φ a w) {x : Operand} {K : ASt → V → Prop} (h : frz s x K) : ∃ s' v, K s' v ∧ SimAt w0 S0 s' φ a w ∧ Rd w (Stab w0 S0 s'.h φ) v (a.eval x) ∧ s'.σ = s.σ ∧ s'.nt = s.nt ∧
    (∀ (id : Nat) (b : Blk), s'.h[id]? = some (some b) → s.h[id]? = some (some b)) := by
  unfold frz at h
  split at h
  · rename_i v hv; exact ⟨s, v, h, sim, sim.opd hv, rfl, rfl, fun _ _ h => h⟩
  · rename_i id sz off len hv
    split at h
    · rename_i b hb
      obtain ⟨sim', hst⟩ := sim.letgo id
      refine ⟨_, _, h.2, sim', ?_, rfl, rfl, fun i x hi => ?_⟩
      · rcases sim.opd hv with ⟨_, rfl, rfl, e⟩ | ⟨b', c, z, hφ, e, hc, _, _⟩
        · rw [e]; exact ⟨none, 0, rfl, Nat.le_refl _, fun h => by simp at h⟩
        · obtain ⟨cur, _, hB, hcur, hn, hx⟩ := sim.blkAt hb hφ
          rw [e]
          refine ⟨_, c, rfl, hc, fun hp => ⟨b', off, rfl, ⟨.inr hB, ?_⟩, fun i hi => ?_⟩⟩
          · rintro ⟨i, x, z', h1, h2⟩
            by_cases ei : id = i
            · subst ei
              have := (List.getElem?_eq_some_iff.1 hb).1
              simp [this] at h1
            · simp only [] at h1
              rw [List.getElem?_set_ne ei] at h1
              exact ei (sim.heap.inj id i b x b' _ _ hb h1 hφ h2)
          · obtain ⟨x, hx1, hx2⟩ := hx (off + i) (by have := h.1; omega)
            exact ⟨x, cell_of_blk hcur hx1, Rd.mono (fun b hb _ => ⟨hst b hb, rfl⟩) _ _ hx2⟩
      · by_cases ei : id = i
        · subst ei
          have := (List.getElem?_eq_some_iff.1 hb).1
          simp [this] at hi
        · simp only [] at hi
          rw [List.getElem?_set_ne ei] at hi; exact hi
    · exact h.elim
  · exact h.elim
theorem setCell_at {b off : Nat} {u : Value} {cur : Array Value} {e : TypeId} {fr : Nat × Nat} (h : w.heap[b]? = some (.cells cur e fr)) :
    (w.setCell ⟨b, off, none⟩ u).heap[b]? = some (.cells (cur.setIfInBounds off u) e fr) := by
  simp [World.setCell, Array.getElem?_modify, h]
theorem setCell_size (p : Addr) (u : Value) : (w.setCell p u).heap.size = w.heap.size := by simp [World.setCell]
theorem run_store1 {t : TypeId} (ht : cellsIn P t = some none) {b off : Nat} {u x : Value} {cur : Array Value} {e : TypeId} (hu : u.oneCell' = true) (hcur : w.heap[b]? = some (.cells cur e (0, 0))) (hx : cur[off]? = some x) :
    (Instr.storeAt t (.pointer (some ⟨b, off, none⟩)) u).run P w = .ok () (w.setCell ⟨b, off, none⟩ u) := by
  obtain ⟨i, hi, hs⟩ := cellsIn_size ht
  have hc : w.cell? ⟨b, off, none⟩ = some x := cell_of_blk hcur hx
  have hf : w.frozen? ⟨b, off, none⟩ = false := by simp [World.frozen?, hcur]
  have h1 : u.cells = #[u] := by cases u <;> first | rfl | simp [Value.oneCell'] at hu
  have hst := run_store P w ⟨b, off, none⟩ u .plain hu
  simp only [hc, hf, Bool.false_eq_true, if_false] at hst
  simp only [Instr.storeAt, Instr.sureAddr, storeVar, Sem.run_bind, Sem.run_pure, Result.andThen_ok, sizeOf, typeInfo, run_program, hi, hs, h1, List.size_toArray, List.length_cons, List.length_nil, Nat.zero_add, ne_eq, not_true_eq_false, if_false,
    storeCells, add_none, Nat.add_zero, hst]
theorem setCells_at : ∀ (l : List Value) (w : World) (b o : Nat) (cur : Array Value) (e : TypeId) (fr : Nat × Nat), w.heap[b]? = some (.cells cur e fr) →
    ∃ cur' : Array Value, (w.setCells b o l).heap[b]? = some (.cells cur' e fr) ∧ cur'.size = cur.size ∧ (∀ j, (j < o ∨ o + l.length ≤ j) → cur'[j]? = cur[j]?) ∧ (∀ j, j < l.length → o + j < cur.size → cur'[o + j]? = l[j]?) ∧
      (w.setCells b o l).os = w.os ∧ (w.setCells b o l).tape = w.tape ∧ (w.setCells b o l).output = w.output ∧ (w.setCells b o l).heap.size = w.heap.size ∧ ∀ k, k ≠ b → (w.setCells b o l).heap[k]? = w.heap[k]?
  | [], w, b, o, cur, e, fr, h => ⟨cur, h, rfl, fun _ _ => rfl, fun j hj => by simp at hj, rfl, rfl, rfl, rfl, fun _ _ => rfl⟩
  | v :: l, w, b, o, cur, e, fr, h => by
    obtain ⟨cur', h1, h2, h3, h4, h5, h6, h7, h8, h9⟩ := setCells_at l (w.setCell ⟨b, o, none⟩ v) b (o + 1) _ e fr (setCell_at h)
    refine ⟨cur', h1, by simpa using h2, fun j hj => ?_, fun j hj hjs => ?_, h5, h6, h7, by rw [← setCell_size (w := w) ⟨b, o, none⟩ v]; exact h8, fun k hk => (h9 k hk).trans (Below.heap_setCell _ _ _ _ hk)⟩
    · simp only [List.length_cons] at hj
      rw [h3 j (by omega), Array.getElem?_setIfInBounds_ne (by omega)]
    · cases j with
      | zero =>
        rw [Nat.add_zero, h3 o (.inl (by omega))]
        simp at hjs ⊢
        simp [hjs]
      | succ j =>
        have := h4 j (by simpa using hj) (by simp; omega)
        rw [show o + (j + 1) = o + 1 + j by omega, this]; simp
theorem Gb.set {b : Nat} {e : TypeId} {cur : Array Value} (h : Gb w b e cur) (j : Nat) (v : Value) : Gb (w.setCell ⟨b, j, none⟩ v) b e (cur.setIfInBounds j v) := by
  rcases h with h | ⟨h1, h⟩
  · exact .inl (setCell_at h)
  · refine .inr ⟨h1, ?_⟩
    rw [setCell_at h, Array.size_setIfInBounds]
theorem run_storeG {t : TypeId} (ht : cellsIn P t = some none) {b off : Nat} {u x : Value} {cur : Array Value} {e : TypeId} (hu : u.oneCell' = true) (hcur : Gb w b e cur) (hx : cur[off]? = some x) :
    (Instr.storeAt t (.pointer (some ⟨b, off, none⟩)) u).run P w = .ok () (w.setCell ⟨b, off, none⟩ u) := by
  obtain ⟨i, hi, hs⟩ := cellsIn_size ht
  have hc : w.cell? ⟨b, off, none⟩ = some x := hcur.cell hx
  have hf : w.frozen? ⟨b, off, none⟩ = false := hcur.fz (Array.getElem?_eq_some_iff.1 hx).1
  have h1 : u.cells = #[u] := by cases u <;> first | rfl | simp [Value.oneCell'] at hu
  have hst := run_store P w ⟨b, off, none⟩ u .plain hu
  simp only [hc, hf, Bool.false_eq_true, if_false] at hst
  simp only [Instr.storeAt, Instr.sureAddr, storeVar, Sem.run_bind, Sem.run_pure, Result.andThen_ok, sizeOf, typeInfo, run_program, hi, hs, h1, List.size_toArray, List.length_cons, List.length_nil, Nat.zero_add, ne_eq, not_true_eq_false, if_false,
    storeCells, add_none, Nat.add_zero, hst]
theorem store_ok {o : Oper} {t : TypeId} {x y : Operand} {K : ASt → Prop} (sim : SimAt w0 S0 s φ a w) (ho : o.op = .store t x y) (hd : o.dst = none) (h : storeK P s t x y K) {next : Act → World → Prop} {Q : Exit → Act → World → Prop}
    (hn : ∀ s' w', K s' → SimAt w0 S0 s' φ a w' → next a w') : o.wp P a w next Q := by
  unfold storeK at h
  split at h
  · rename_i id off hx
    obtain ⟨b, z, hφ, ex⟩ := sim.opd hx
    obtain ⟨s', v1, hv, sim', hr, _, _, _⟩ := frz_ok sim h
    unfold storeV at hv
    split at hv
    · rename_i blk hb
      obtain ⟨cur, hz, hB, hcur, hn', hcs⟩ := sim'.blkAt hb hφ
      split at hv
      · rename_i n g
        obtain ⟨hc, hoff, h1, hK⟩ := hv
        obtain ⟨cs, ey, hsz, hcells⟩ := hr
        obtain ⟨i, hi, hs, _⟩ := cellsIn_many hc
        have hall : cs.all (·.oneCell') = true := by
          rw [Array.all_eq_true]
          intro j hj
          obtain ⟨y, hy1, hy2⟩ := hcells j (by omega)
          have : cs[j] = y := by rw [Array.getElem?_eq_getElem hj] at hy1; exact Option.some.inj hy1
          rw [this]; exact Rd.one (h1 j (by omega)) hy2
        have hthere : w.there b off cs.size := fun j hj => by
          obtain ⟨y, hy, _⟩ := hcs (off + j) (by omega)
          exact ⟨by rw [cell_of_blk hcur hy]; rfl, by simp [World.frozen?, hcur]⟩
        have hrun := run_storeAt_mid (P := P) w b off t cs hthere (by rw [hi, hsz]; simp [hs]) hall
        obtain ⟨cur', g1, g2, g3, g4, g5, g6, g7, g8, g9⟩ := setCells_at cs.toList w b off cur blk.elem (0, 0) hcur
        have hw := sim'.write hb hφ (blk' := ⟨blk.elem, blk.n, fun i => if off ≤ i ∧ i < off + n then g (i - off) else blk.f i⟩) g1 (by omega) g5 g6 g7 (by omega) (fun k _ hk => g9 k hk) rfl (by simp; omega) (fun i hi => by
          simp only [] at hi ⊢
          by_cases hin : off ≤ i ∧ i < off + n
          · rw [if_pos hin]
            obtain ⟨y, hy1, hy2⟩ := hcells (i - off) (by omega)
            refine ⟨y, ?_, hy2⟩
            have := g4 (i - off) (by simp; omega) (by omega)
            rw [show off + (i - off) = i by omega] at this
            rw [this]; simpa using hy1
          · rw [if_neg hin]
            obtain ⟨y, hy1, hy2⟩ := hcs i hi
            exact ⟨y, by rw [g3 i (by simp; omega)]; exact hy1, hy2⟩)
        unfold Oper.wp
        have e : (execOp a.eval o).run P w = .ok .skip (w.setCells b off cs.toList) := by
          unfold execOp
          simp only [ho, ex, ey, Sem.run_bind, hrun, Result.andThen_ok]; rfl
        rw [e, Oper.upon_skip, hd]
        exact hn _ _ hK hw
      · rename_i v2 hne
        obtain ⟨hc, h1, hoff, hK⟩ := hv
        obtain ⟨x0, hx0, _⟩ := hcs off hoff
        have hone := Rd.one h1 hr
        have hrun := run_store1 (P := P) hc hone hcur hx0
        have hlt : off < cur.size := by omega
        have hw := sim'.write hb hφ (w' := w.setCell ⟨b, off, none⟩ (a.eval y)) (blk' := ⟨blk.elem, blk.n, fun i => if i = off then v1 else blk.f i⟩) (setCell_at hcur) (by simpa using hz) rfl rfl rfl (by rw [setCell_size]; exact Nat.le_refl _)
          (fun k _ hk => Below.heap_setCell _ _ _ _ hk) rfl (by simpa using hn') (fun i hi => by
            simp only [] at hi ⊢
            by_cases e : i = off
            · subst e; rw [if_pos rfl]; exact ⟨_, by simp [hlt], hr⟩
            · rw [if_neg e]
              obtain ⟨y, hy1, hy2⟩ := hcs i hi
              exact ⟨y, by rw [Array.getElem?_setIfInBounds_ne (fun h => e h.symm)]; exact hy1, hy2⟩)
        unfold Oper.wp
        have e : (execOp a.eval o).run P w = .ok .skip (w.setCell ⟨b, off, none⟩ (a.eval y)) := by
          unfold execOp
          simp only [ho, ex, Sem.run_bind, hrun, Result.andThen_ok]; rfl
        rw [e, Oper.upon_skip, hd]
        exact hn _ _ hK hw
    · exact hv.elim
  · exact h.elim
theorem below_alloc (w : World) (o : Obj) : Below w.heap.size w (w.alloc o) := (Below.refl _ w).alloc (Nat.le_refl _) o
theorem make_ok {o : Oper} {t : TypeId} {l c : Operand} {d : Nat} {K : ASt → Prop} (sim : SimAt w0 S0 s φ a w) (ho : o.op = .makeSlice t l c) (hd : o.dst = some d) (hlt : d < s.nt) (h : makeK P s t l c d K) {next : Act → World → Prop} {Q : Exit → Act → World → Prop}
    (hn : ∀ s' a' w', K s' → Sim w0 S0 s' a' w' → Below w.heap.size w w' → next a' w') : o.wp P a w next Q := by
  unfold makeK at h
  split at h
  · rename_i kl n kc m e zs hl hc hinfo
    obtain ⟨h0, h1, h2, hK⟩ := h
    obtain ⟨i, z, hu, hi, hz, hsz, hzs, hpos, hby⟩ := elemInfo_some hinfo
    have el := val_of sim hl
    have ec := val_of sim hc
    have hb : (i.bytes : Int) * m ≤ 281474976710656 := by
      have : (i.bytes : Int) * m ≤ 64 * 1099511627776 := Int.mul_le_mul (by omega) h2 (by omega) (by omega)
      omega
    have hrun := run_make (P := P) w t e i z hu hi hz kl kc n m h0 h1 hb (by omega)
    have hlen : n.toNat * zs.length ≤ m.toNat * i.size := by rw [hsz]; exact Nat.mul_le_mul_right _ (by omega)
    have hm := sim.made (blk := ⟨e, n.toNat * zs.length, fun i => .val (zs.getD (i % zs.length) undef)⟩) (cells := madeCells z.cells (m.toNat * i.size)) rfl (by simpa [size_madeCells] using hlen) (fun j hj => by
      simp only [] at hj ⊢
      refine ⟨zs.getD (j % zs.length) undef, ?_, rfl⟩
      have hj' : j < m.toNat * i.size := by omega
      have hmod : j % zs.length < zs.length := Nat.mod_lt _ hpos
      simp [madeCells, hj', hzs, hmod])
    unfold Oper.wp
    have e1 : (execOp a.eval o).run P w = .ok (.value (.slice (some ⟨w.heap.size, 0, none⟩) n.toNat m.toNat)) (w.alloc (.cells (madeCells z.cells (m.toNat * i.size)) e)) := by
      unfold execOp
      simp only [ho, el, ec, Sem.run_bind, hrun, Result.andThen_ok]; rfl
    rw [e1, Oper.upon_value, hd]
    refine hn _ _ _ hK ⟨_, hm.put (d := d) hlt (v := .one (.own s.h.length zs.length 0 n.toNat)) (.inr ⟨w.heap.size, m.toNat, (madeCells z.cells (m.toNat * i.size)).size, ?_, rfl, by omega, by unfold maxLen; omega, ?_⟩)⟩ (below_alloc w _)
    · rw [← sim.heap.len]; simp
    · simp [size_madeCells, hsz]
  · exact h.elim
theorem run_append_none (t ty e : TypeId) (i : TypeInfo) (hu : P.underlying t = some (.slice e)) (hi : P.info? e = some i) (A : Option Addr) (n c m : Nat) (hc : n ≤ c) (w : World) :
    (Builtin.append_ #[t, t] ty #[.slice A n c, .slice none 0 m]).run P w = .ok (.slice A n c) w := by
  cases A <;> simp [Builtin.append_, run_underlying hu, sizeOf, typeInfo, hi, Builtin.lenOf, Builtin.firstCells, hc, storeCells]
theorem srcK_ok (sim : SimAt w0 S0 s φ a w) {y : Operand} {K : Nat → Nat → (Nat → V) → Prop} (h : srcK s y K) : ∃ sz m g A c, K sz m g ∧ a.eval y = .slice A m c ∧ m ≤ c ∧
    (0 < m * sz → ∃ b off, A = some ⟨b, off, none⟩ ∧ ∀ i, i < m * sz → ∃ x, w.cell? ⟨b, off + i, none⟩ = some x ∧ Rd w (Stab w0 S0 s.h φ) (g i) x) := by
  unfold srcK at h
  split at h
  · rename_i sz m g hy
    obtain ⟨A, c, e, hc, hr⟩ := sim.opd hy
    exact ⟨sz, m, g, A, c, h, e, hc, fun hp => by obtain ⟨b, off, h1, _, h2⟩ := hr hp; exact ⟨b, off, h1, h2⟩⟩
  · rename_i Z sz m g hy
    obtain ⟨hZ, A, c, e, hc, hr⟩ := sim.opd hy
    exact ⟨sz, m, _, A, c, h, e, hc, fun hp => by
      obtain ⟨b, off, h1, _, h2⟩ := hr hp
      refine ⟨b, off, h1, fun i hi => ?_⟩
      obtain ⟨x, hx1, hx2⟩ := h2 i hi
      exact ⟨x, hx1, oldZ_rd hZ _ _ hx2⟩⟩
  · rename_i id sz off m hy
    split at h
    · rename_i b hb
      rcases sim.opd hy with ⟨_, rfl, rfl, e⟩ | ⟨b', c, z, hφ, e, hc, _, _⟩
      · exact ⟨sz, 0, _, none, 0, h.2, e, Nat.le_refl _, fun hp => by simp at hp⟩
      · obtain ⟨cur, _, hB, hcur, hn, hx⟩ := sim.blkAt hb hφ
        refine ⟨sz, m, _, _, c, h.2, e, hc, fun hp => ⟨b', off, rfl, fun i hi => ?_⟩⟩
        obtain ⟨x, hx1, hx2⟩ := hx (off + i) (by have := h.1; omega)
        exact ⟨x, cell_of_blk hcur hx1, hx2⟩
    · exact h.elim
  · exact h.elim
theorem grow_ok {ty t : TypeId} {d id sz n sz' m : Nat} {g : Nat → V} {K : ASt → Prop} (sim : SimAt w0 S0 s φ a w) (hlt : d < s.nt) {u : Value} (hu : RdS w (Stab w0 S0 s.h φ) φ (.own id sz 0 n) u) (h : growK P s t d K id sz n sz' m g)
    {A : Option Addr} {c : Nat} (hc : m ≤ c) (hsrc : 0 < m * sz' → ∃ b off, A = some ⟨b, off, none⟩ ∧ ∀ i, i < m * sz' → ∃ x, w.cell? ⟨b, off + i, none⟩ = some x ∧ Rd w (Stab w0 S0 s.h φ) (g i) x) :
    ∃ s' v' w', K s' ∧ (Builtin.append_ #[t, t] ty #[u, .slice A m c]).run P w = .ok v' w' ∧ Sim w0 S0 s' (a.put (some d) v') w' := by
  unfold growK at h
  split at h
  · rename_i blk e zs hb hinfo
    obtain ⟨rfl, rfl, rfl, hn, hnm, hone1, hone2, hK⟩ := h
    obtain ⟨i, z, hu', hi, hz, hsz, hzs, hpos, hby⟩ := elemInfo_some hinfo
    have hl := sim.heap.len
    -- what the old slice owns
    obtain ⟨xs, hown, hxs⟩ : ∃ xs : List Value, w.ownsRow w0.heap.size blk.elem zs.length u n xs ∧ ∀ j, j < n * zs.length → ∃ x, xs[j]? = some x ∧ Rd w (Stab w0 S0 s.h φ) (blk.f j) x := by
      rcases hu with ⟨_, _, rfl, rfl⟩ | ⟨b, c', z', hφ, rfl, h1, h2, h3⟩
      · exact ⟨[], ⟨by simp, .inl ⟨rfl, rfl⟩⟩, fun j hj => by simp at hj⟩
      · obtain ⟨cur, hz', hB, hcur, hn', hx⟩ := sim.blkAt hb hφ
        refine ⟨cur.toList.take (n * zs.length), ⟨by simp; omega, .inr ⟨b, c', cur, rfl, hB, hcur, h1, h2, by omega, rfl⟩⟩, fun j hj => ?_⟩
        obtain ⟨x, hx1, hx2⟩ := hx j (by omega)
        exact ⟨x, by rw [List.getElem?_take, if_pos hj]; simpa using hx1, hx2⟩
    -- what is appended
    obtain ⟨news, hnl, hnews, hcells⟩ : ∃ news : List Value, news.length = m * zs.length ∧ (∀ j, j < m * zs.length → ∃ x, news[j]? = some x ∧ Rd w (Stab w0 S0 s.h φ) (g j) x) ∧
        (0 < m * zs.length → ∃ b off, A = some ⟨b, off, none⟩ ∧ ∀ j x, news[j]? = some x → w.cell? ⟨b, off + j, none⟩ = some x) := by
      rcases Nat.eq_zero_or_pos (m * zs.length) with h0 | h0
      · exact ⟨[], by simp [h0], fun j hj => by omega, fun hp => by omega⟩
      · obtain ⟨b, off, hA, hx⟩ := hsrc h0
        have hg : ∀ j, j < m * zs.length → w.cell? ⟨b, off + j, none⟩ = some ((w.cell? ⟨b, off + j, none⟩).getD undef) ∧ Rd w (Stab w0 S0 s.h φ) (g j) ((w.cell? ⟨b, off + j, none⟩).getD undef) := fun j hj => by
          obtain ⟨x, hx1, hx2⟩ := hx j hj
          rw [hx1]; exact ⟨rfl, hx2⟩
        refine ⟨(List.range (m * zs.length)).map fun j => (w.cell? ⟨b, off + j, none⟩).getD undef, by simp, fun j hj => ⟨_, by simp [hj], (hg j hj).2⟩, fun _ => ⟨b, off, hA, fun j x hjx => ?_⟩⟩
        have hj : j < m * zs.length := by simpa using (List.getElem?_eq_some_iff.1 hjx).1
        simp [hj] at hjx
        rw [← hjx]; exact (hg j hj).1
    have h1 : ∀ x ∈ news, x.oneCell' = true := fun x hx => by
      obtain ⟨j, hj, hjx⟩ := List.mem_iff_getElem.1 hx
      obtain ⟨y, hy1, hy2⟩ := hnews j (by omega)
      rw [List.getElem?_eq_getElem hj, hjx] at hy1
      injection hy1 with hy1; subst hy1
      exact Rd.one (hone2 j (by omega)) hy2
    have hbytes : (n + m) * i.bytes ≤ 140737488355328 := by
      have : (n + m) * i.bytes ≤ 1099511627776 * 64 := Nat.mul_le_mul hnm hby
      omega
    obtain ⟨v', w', hrun, hown', hgrow, hwhere⟩ : ∃ v' w', (Builtin.append_ #[t, t] ty #[u, .slice A m c]).run P w = .ok v' w' ∧ w'.ownsRow w0.heap.size blk.elem zs.length v' (n + m) (xs ++ news) ∧ w.grownBy w' u.ownBlock ∧
        (v'.ownBlock = u.ownBlock ∨ v'.ownBlock = some w.heap.size) := by
      cases A with
      | none =>
        have hm0 : m = 0 := by
          rcases Nat.eq_zero_or_pos m with h0 | h0
          · exact h0
          · obtain ⟨_, _, hA, _⟩ := hcells (Nat.mul_pos h0 hpos); cases hA
        subst hm0
        have hn0 : news = [] := List.eq_nil_of_length_eq_zero (by simpa using hnl)
        subst hn0
        rcases hown.2 with ⟨rfl, rfl⟩ | ⟨g', cap, cur, rfl, _, _, hcap, _⟩
        · exact ⟨_, w, run_append_none t ty _ i hu' hi _ _ _ _ (Nat.le_refl _) w, by simpa using hown, World.grownBy.refl w _, .inl rfl⟩
        · exact ⟨_, w, run_append_none t ty _ i hu' hi _ _ _ _ hcap w, by simpa using hown, World.grownBy.refl w _, .inl rfl⟩
      | some ad =>
        have hnews' : ∀ j x, news[j]? = some x → w.cell? (ad.add j) = some x := fun j x hjx => by
          have hp : 0 < m * zs.length := by have := (List.getElem?_eq_some_iff.1 hjx).1; omega
          obtain ⟨b, off, hA, hx⟩ := hcells hp
          injection hA with hA; subst hA
          rw [add_none]; exact hx j x hjx
        obtain ⟨v', w', r1, r2, r3, _, r5⟩ := run_append_own_at (P := P) w w0.heap.size t ty blk.elem i z zs.length i.bytes hu' hi hz hsz rfl (by simp [hzs]) hpos u n xs hown ad m c news hnl hnews' h1 (by unfold maxLen; omega) hbytes sim.heap.below.size
        exact ⟨v', w', r1, r2, r3, r5⟩
    have hxl : xs.length = n * zs.length := hown.1
    obtain ⟨sim', hv'⟩ := sim.grown (g := g) hb hu hxl hxs hnews hown' hgrow hwhere
    exact ⟨_, v', w', hK, hrun, _, sim'.put (d := d) hlt hv'⟩
  · exact h.elim
theorem SimAt.virtual (sim : SimAt w0 S0 s φ a w) (e : TypeId) : SimAt w0 S0 { s with h := s.h ++ [some ⟨e, 0, fun _ => .val undef⟩] } (φ ++ [none]) a w := by
  have hh : Heap w (Stab w0 S0 s.h φ) [some ⟨e, 0, fun _ => .val undef⟩] [none] w := by
    refine ⟨rfl, Below.refl _ _, fun id b hi => ?_, fun i j bi bj b z z' h1 h2 h3 _ => ?_⟩
    · cases id with
      | zero => simp at hi; subst hi; exact .inl ⟨rfl, rfl⟩
      | succ id => simp at hi
    · cases i <;> simp at h3
  exact sim.join hh fun id bk i x hi hlt hr => by
    cases id with
    | zero => simp at hi; subst hi; simp at hlt
    | succ id => simp at hi
theorem append_ok {o : Oper} {t : TypeId} {x y : Operand} {d : Nat} {K : ASt → Prop} (sim : SimAt w0 S0 s φ a w) (ho : o.op = .call { callee := .builtin .append, args := #[x, y], argTypes := #[t, t] }) (hd : o.dst = some d) (hlt : d < s.nt) (h : appendK P s t x y d K)
    {next : Act → World → Prop} {Q : Exit → Act → World → Prop} (hn : ∀ s' a' w', K s' → Sim w0 S0 s' a' w' → next a' w') : o.wp P a w next Q := by
  have fin : ∀ {v' w'}, (Builtin.append_ #[t, t] o.type #[a.eval x, a.eval y]).run P w = .ok v' w' → (execOp a.eval o).run P w = .ok (.value v') w' := fun {v' w'} hr => by
    unfold execOp
    simp only [ho, resolve, invoke, builtin, Sem.run_bind, Sem.run_pure, Result.andThen_ok, List.map_toArray, List.map_cons, List.map_nil, hr]
  unfold appendK at h
  split at h
  · rename_i id sz n hx
    obtain ⟨sz', m, g, A, c, hg, ey, hc, hsrc⟩ := srcK_ok sim h
    obtain ⟨s', v', w', hK, hrun, hs⟩ := grow_ok (ty := o.type) sim hlt (sim.opd hx) hg hc hsrc
    rw [← ey] at hrun
    unfold Oper.wp
    rw [fin hrun, Oper.upon_value, hd]
    exact hn _ _ _ hK hs
  · rename_i hx
    have ex := val_of sim hx
    split at h
    · rename_i e zs hinfo
      obtain ⟨sz', m, g, A, c, hg, ey, hc, hsrc⟩ := srcK_ok sim h
      have sim' := sim.virtual e
      have hst : ∀ b, Stab w0 S0 s.h φ b → b < w.heap.size → Stab w0 S0 (s.h ++ [some ⟨e, 0, fun _ => .val undef⟩]) (φ ++ [none]) b ∧ w.heap[b]? = w.heap[b]? := fun b hb _ => ⟨⟨hb.1, fun hl => by
        rcases (live_append sim.heap.len).1 hl with h1 | ⟨k, bk, z, h1, h2⟩
        · exact hb.2 h1
        · cases k <;> simp at h2⟩, rfl⟩
      have hown : RdS w (Stab w0 S0 (s.h ++ [some ⟨e, 0, fun _ => .val undef⟩]) (φ ++ [none])) (φ ++ [none]) (.own s.h.length zs.length 0 0) (.slice none 0 0) :=
        .inl ⟨by rw [← sim.heap.len]; simp, rfl, rfl, rfl⟩
      obtain ⟨s', v', w', hK, hrun, hs⟩ := grow_ok (ty := o.type) sim' hlt hown hg hc (fun hp => by
        obtain ⟨b, off, h1, h2⟩ := hsrc hp
        refine ⟨b, off, h1, fun i hi => ?_⟩
        obtain ⟨x, hx1, hx2⟩ := h2 i hi
        exact ⟨x, hx1, Rd.mono hst _ _ hx2⟩)
      rw [← ey, ← ex] at hrun
      unfold Oper.wp
      rw [fin hrun, Oper.upon_value, hd]
      exact hn _ _ _ hK hs
    · exact h.elim
  · exact h.elim
end
set_option linter.unusedSimpArgs false
set_option linter.unusedVariables false
open Go.RowKit
def partsK (pl : Nat → Option (Nat × Option Nat)) (N : Nat) : List (Nat × Operand) → ASt → (Nat → V) → (ASt → (Nat → V) → Prop) → Prop
  | [], s, f, K => K s f
  | (k, x) :: ps, s, f, K =>
    match pl k with
    | some (o, none) => frz s x fun s' v => v.one = true ∧ o < N ∧ partsK pl N ps s' (fun i => if i = o then v else f i) K
    | some (o, some n) => frz s x fun s' v =>
      match v with
      | .agg n' g => n = n' ∧ o + n ≤ N ∧ partsK pl N ps s' (fun i => if o ≤ i ∧ i < o + n then g (i - o) else f i) K
      | _ => False
    | none => False
def sizeIn (c : Option Nat) : Nat := c.getD 1
def plSlice (sz : Nat) (st : Bool) (k : Nat) : Option (Nat × Option Nat) :=
  if st then some (k * sz, some sz) else if sz = 1 then some (k, none) else none
def placesOf (P : Program) (t : TypeId) : Option (List (Nat × Nat)) :=
  match P.underlying t with
  | some (.struct fs) => fs.toList.mapM fun f => (P.info? f.type).map fun i => (f.offset, i.size)
  | _ => none
def buildK (P : Program) (s : ASt) (t : TypeId) (ps : List (Nat × Operand)) (d : Nat) (K : ASt → Prop) : Prop :=
  match zeroOf P t with
  | some zs => (placesOf P t).isSome = true ∧ partsK (fieldIn P t) zs.length ps s (fun i => .val (zs.getD i undef)) fun s' f => K { s' with σ := upd s'.σ d (.one (.pv (.agg zs.length f))) }
  | none => False
def elemAgg (P : Program) (t : TypeId) : Option Bool :=
  match P.underlying t with
  | some (.slice e) => (cellsIn P e).map Option.isSome
  | _ => none
def buildSliceK (P : Program) (s : ASt) (t : TypeId) (n : Nat) (ps : List (Nat × Operand)) (d : Nat) (K : ASt → Prop) : Prop :=
  match elemInfo P t, elemAgg P t with
  | some (e, zs), some st => n ≤ 65536 ∧ zs.length ≤ 64 ∧
    partsK (plSlice zs.length st) (n * zs.length) ps s (fun i => .val (zs.getD (i % zs.length) undef)) fun s' f => K (newBlk s' d (.own s'.h.length zs.length 0 n) ⟨e, n * zs.length, f⟩)
  | _, _ => False
def boxV (t : TypeId) (d : Nat) (K : ASt → Prop) (s : ASt) (v : V) : Prop :=
  match v with
  | .agg n g => K (newBlk s d (.ptr s.h.length 0) ⟨t, n, g⟩)
  | v => v.one = true ∧ K (newBlk s d (.ptr s.h.length 0) ⟨t, 1, fun _ => v⟩)
def allocK (P : Program) (s : ASt) (t : TypeId) (d : Nat) (K : ASt → Prop) : Prop :=
  match zeroOf P t with
  | some zs => K (newBlk s d (.ptr s.h.length 0) ⟨t, zs.length, fun i => .val (zs.getD i undef)⟩)
  | none => False
section
variable {P : Program} {w0 : World} {S0 : Nat → Prop} {φ : List (Option (Nat × Nat))} {a : Act} {w : World}
theorem foldl_set (off : Nat) : ∀ (l : List Value) (k : Nat) (cs : Array Value), ∃ cs', (l.zipIdx k).foldl (fun cs (x : Value × Nat) => cs.setIfInBounds (off + x.2) x.1) cs = cs' ∧ cs'.size = cs.size ∧
    (∀ i, (i < off + k ∨ off + k + l.length ≤ i) → cs'[i]? = cs[i]?) ∧ ∀ j, j < l.length → off + k + j < cs.size → cs'[off + k + j]? = l[j]?
  | [], k, cs => ⟨cs, rfl, rfl, fun _ _ => rfl, fun j hj => by simp at hj⟩
  | v :: l, k, cs => by
    obtain ⟨cs', h1, h2, h3, h4⟩ := foldl_set off l (k + 1) (cs.setIfInBounds (off + k) v)
    refine ⟨cs', by simpa [List.zipIdx_cons] using h1, by simpa using h2, fun i hi => ?_, fun j hj hs => ?_⟩
    · simp only [List.length_cons] at hi
      rw [h3 i (by omega), Array.getElem?_setIfInBounds_ne (by omega)]
    · cases j with
      | zero =>
        rw [Nat.add_zero, h3 (off + k) (.inl (by omega))]
        simp at hs ⊢; simp [hs]
      | succ j =>
        have := h4 j (by simpa using hj) (by simp; omega)
        rw [show off + k + (j + 1) = off + (k + 1) + j by omega, this]; simp
theorem fill_set (off : Nat) (v : Value) (cells : Array Value) : ∃ cs' : Array Value, v.cells.zipIdx.foldl (fun cs (x : Value × Nat) => cs.setIfInBounds (off + x.2) x.1) cells = cs' ∧ cs'.size = cells.size ∧
    (∀ i, (i < off ∨ off + v.cells.size ≤ i) → cs'[i]? = cells[i]?) ∧ ∀ j, j < v.cells.size → off + j < cells.size → cs'[off + j]? = v.cells[j]? := by
  obtain ⟨cs', h1, h2, h3, h4⟩ := foldl_set off v.cells.toList 0 cells
  refine ⟨cs', ?_, h2, fun i hi => h3 i (by simpa using hi), fun j hj hs => by simpa using h4 j (by simpa using hj) (by simpa using hs)⟩
  rw [← h1, ← Array.foldl_toList]
  congr 1
  simp
theorem partsK_ok {pl : Nat → Option (Nat × Option Nat)} {N : Nat} {place : Nat → Option (Nat × Nat)} (hpl : ∀ k o c, pl k = some (o, c) → place k = some (o, sizeIn c)) {K : ASt → (Nat → V) → Prop} :
    ∀ (ps : List (Nat × Operand)) (s : ASt) (f : Nat → V) (cells : Array Value), SimAt w0 S0 s φ a w → partsK pl N ps s f K → cells.size = N → (∀ i, i < N → ∃ x, cells[i]? = some x ∧ Rd w (Stab w0 S0 s.h φ) (f i) x) →
    ∃ s' f' cells', K s' f' ∧ SimAt w0 S0 s' φ a w ∧ Instr.fill place cells (ps.map fun p => (p.1, a.eval p.2)) = some cells' ∧ cells'.size = N ∧ (∀ i, i < N → ∃ x, cells'[i]? = some x ∧ Rd w (Stab w0 S0 s'.h φ) (f' i) x) ∧ s'.σ = s.σ ∧ s'.nt = s.nt ∧ s'.h.length = s.h.length
  | [], s, f, cells, sim, h, hsz, hx => ⟨s, f, cells, h, sim, rfl, hsz, hx, rfl, rfl, rfl⟩
  | (k, x) :: ps, s, f, cells, sim, h, hsz, hx => by
    unfold partsK at h
    split at h
    · rename_i o hp
      obtain ⟨s', v, ⟨h1, h2, h3⟩, sim', hr, e1, e2, hsub⟩ := frz_ok sim h
      have hlen : s'.h.length = s.h.length := by rw [← sim'.heap.len, ← sim.heap.len]
      have hst : ∀ b, Stab w0 S0 s.h φ b → b < w.heap.size → Stab w0 S0 s'.h φ b ∧ w.heap[b]? = w.heap[b]? := fun b hb _ => ⟨⟨hb.1, fun ⟨i, y, z, g1, g2⟩ => hb.2 ⟨i, y, z, hsub i y g1, g2⟩⟩, rfl⟩
      have hone := Rd.one h1 hr
      have hcl : (a.eval x).cells = #[a.eval x] := by generalize a.eval x = u at hone; cases u <;> first | rfl | simp [Value.oneCell'] at hone
      obtain ⟨cs', g1, g2, g3, g4⟩ := fill_set o (a.eval x) cells
      obtain ⟨s2, f2, c2, k1, k2, k3, k4, k5, k6, k7, k8⟩ := partsK_ok hpl ps s' _ cs' sim' h3 (by omega) (fun i hi => by
        by_cases e : i = o
        · subst e
          rw [if_pos rfl]
          refine ⟨a.eval x, ?_, hr⟩
          have := g4 0 (by simp [hcl]) (by omega)
          rw [Nat.add_zero, hcl] at this
          rw [this]; rfl
        · rw [if_neg e]
          obtain ⟨y, hy1, hy2⟩ := hx i hi
          exact ⟨y, by rw [g3 i (by simp [hcl]; omega)]; exact hy1, Rd.mono hst _ _ hy2⟩)
      refine ⟨s2, f2, c2, k1, k2, ?_, k4, k5, k6.trans e1, k7.trans e2, k8.trans hlen⟩
      rw [← k3]
      simp only [List.map_cons, Instr.fill, hpl k o none hp, sizeIn, Option.getD_none, hcl]
      rw [if_neg (by simp; omega)]
      rw [hcl] at g1
      rw [← g1]
    · rename_i o n hp
      obtain ⟨s', v, h1, sim', hr, e1, e2, hsub⟩ := frz_ok sim h
      have hlen : s'.h.length = s.h.length := by rw [← sim'.heap.len, ← sim.heap.len]
      have hst : ∀ b, Stab w0 S0 s.h φ b → b < w.heap.size → Stab w0 S0 s'.h φ b ∧ w.heap[b]? = w.heap[b]? := fun b hb _ => ⟨⟨hb.1, fun ⟨i, y, z, g1, g2⟩ => hb.2 ⟨i, y, z, hsub i y g1, g2⟩⟩, rfl⟩
      split at h1
      · rename_i n' g
        obtain ⟨rfl, h2, h3⟩ := h1
        obtain ⟨cs, ex, hn, hcs⟩ := hr
        have hcl : (a.eval x).cells = cs := by rw [ex]; rfl
        obtain ⟨cs', g1, g2, g3, g4⟩ := fill_set o (a.eval x) cells
        obtain ⟨s2, f2, c2, k1, k2, k3, k4, k5, k6, k7, k8⟩ := partsK_ok hpl ps s' _ cs' sim' h3 (by omega) (fun i hi => by
          by_cases e : o ≤ i ∧ i < o + n
          · rw [if_pos e]
            obtain ⟨y, hy1, hy2⟩ := hcs (i - o) (by omega)
            refine ⟨y, ?_, hy2⟩
            have := g4 (i - o) (by rw [hcl]; omega) (by omega)
            rw [show o + (i - o) = i by omega, hcl] at this
            rw [this]; exact hy1
          · rw [if_neg e]
            obtain ⟨y, hy1, hy2⟩ := hx i hi
            exact ⟨y, by rw [g3 i (by rw [hcl]; omega)]; exact hy1, Rd.mono hst _ _ hy2⟩)
        refine ⟨s2, f2, c2, k1, k2, ?_, k4, k5, k6.trans e1, k7.trans e2, k8.trans hlen⟩
        rw [← k3]
        simp only [List.map_cons, Instr.fill, hpl k o (some n) hp, sizeIn, Option.getD_some, hcl]
        rw [if_neg (by simp; omega)]
        rw [hcl] at g1
        rw [← g1]
      · exact h1.elim
    · exact h.elim
theorem zeroOf_some {t : TypeId} {zs : List Value} (h : zeroOf P t = some zs) : ∃ i z, P.info? t = some i ∧ i.zero = some z ∧ z.cells = zs.toArray := by
  unfold zeroOf at h
  split at h
  · rename_i i hi
    obtain ⟨z, hz, e⟩ := Option.map_eq_some_iff.1 h
    exact ⟨i, z, hi, hz, by rw [← e]⟩
  · cases h
theorem SimAt.newBlk {s : ASt} (sim : SimAt w0 S0 s φ a w) {d : Nat} (hlt : d < s.nt) {v : SV} {u : Value} {blk : Blk} {cells : Array Value} (hn : blk.n ≤ cells.size)
    (hx : ∀ i, i < blk.n → ∃ x, cells[i]? = some x ∧ Rd w (Stab w0 S0 s.h φ) (blk.f i) x)
    (hv : ∀ (S : Nat → Prop) (w' : World), RdS w' S (φ ++ [some (w.heap.size, cells.size)]) v u) : Sim w0 S0 (Go.Proofs.Ytlomkebhopaliaa.newBlk s d v blk) (a.put (some d) u) (w.alloc (.cells cells blk.elem)) :=
  ⟨_, (sim.made rfl hn hx).put (d := d) hlt (hv _ _)⟩
theorem newPlace {s : ASt} (sim : SimAt w0 S0 s φ a w) (x : Nat × Nat) : (φ ++ [some x])[s.h.length]? = some (some x) := by rw [← sim.heap.len]; simp
theorem box_ok {s : ASt} {o : Oper} {t : TypeId} {x : Operand} {d : Nat} {K : ASt → Prop} (sim : SimAt w0 S0 s φ a w) (ho : o.op = .box t x) (hd : o.dst = some d) (hlt : d < s.nt) (h : frz s x (boxV t d K)) {next : Act → World → Prop} {Q : Exit → Act → World → Prop}
    (hn : ∀ s' a' w', K s' → Sim w0 S0 s' a' w' → Below w.heap.size w w' → next a' w') : o.wp P a w next Q := by
  obtain ⟨s', v, hv, sim', hr, e1, e2, _⟩ := frz_ok sim h
  have run : (execOp a.eval o).run P w = .ok (.value (.pointer (some ⟨w.heap.size, 0, none⟩))) (w.alloc (.cells (a.eval x).cells t)) := by
    unfold execOp
    simp only [ho]; rfl
  unfold Oper.wp
  rw [run, Oper.upon_value, hd]
  unfold boxV at hv
  split at hv
  · rename_i n g
    obtain ⟨cs, ex, hsz, hcs⟩ := hr
    have hc : (a.eval x).cells = cs := by rw [ex]; rfl
    rw [hc]
    exact hn _ _ _ hv (sim'.newBlk (by rw [e2]; exact hlt) (blk := ⟨t, n, g⟩) (by simp; omega) hcs fun S w' => ⟨_, _, newPlace sim' _, rfl⟩) (below_alloc w _)
  · rename_i v' _
    have hone := Rd.one hv.1 hr
    have hc : (a.eval x).cells = #[a.eval x] := by generalize a.eval x = u at hone; cases u <;> first | rfl | simp [Value.oneCell'] at hone
    rw [hc]
    refine hn _ _ _ hv.2 (sim'.newBlk (by rw [e2]; exact hlt) (blk := ⟨t, 1, fun _ => v⟩) (by simp) (fun i hi => ⟨a.eval x, ?_, hr⟩) fun S w' => ⟨_, _, newPlace sim' _, rfl⟩) (below_alloc w _)
    have : i = 0 := by simp at hi; omega
    subst this; rfl
theorem alloc_ok {s : ASt} {o : Oper} {t : TypeId} {d : Nat} {K : ASt → Prop} (sim : SimAt w0 S0 s φ a w) (ho : o.op = .alloc t) (hd : o.dst = some d) (hlt : d < s.nt) (h : allocK P s t d K) {next : Act → World → Prop} {Q : Exit → Act → World → Prop}
    (hn : ∀ s' a' w', K s' → Sim w0 S0 s' a' w' → Below w.heap.size w w' → next a' w') : o.wp P a w next Q := by
  unfold allocK at h
  split at h
  · rename_i zs hzs
    obtain ⟨i, z, hi, hz, hc⟩ := zeroOf_some hzs
    have run : (execOp a.eval o).run P w = .ok (.value (.pointer (some ⟨w.heap.size, 0, none⟩))) (w.alloc (.cells z.cells t)) := by
      unfold execOp
      simp only [ho, Instr.alloc, zeroValue, typeInfo, Sem.run_bind, run_program, Result.andThen_ok, hi, hz, Sem.run_pure]; rfl
    unfold Oper.wp
    rw [run, Oper.upon_value, hd]
    refine hn _ _ _ h (sim.newBlk hlt (blk := ⟨t, zs.length, fun i => .val (zs.getD i undef)⟩) (by simp [hc]) (fun i hi => ⟨zs.getD i undef, ?_, rfl⟩) fun S w' => ⟨_, _, newPlace sim _, rfl⟩) (below_alloc w _)
    simp at hi
    simp [hc, hi]
  · exact h.elim
theorem mapM_get {α β : Type} {f : α → Option β} : ∀ {l : List α} {r : List β}, l.mapM f = some r → ∀ (k : Nat) (x : α), l[k]? = some x → ∃ y, f x = some y ∧ r[k]? = some y
  | [], _, _, k, x, hx => by simp at hx
  | a :: l, r, h, k, x, hx => by
    simp only [List.mapM_cons, Option.bind_eq_bind, Option.pure_def] at h
    cases ha : f a with
    | none => simp [ha] at h
    | some y =>
      cases hl : l.mapM f with
      | none => simp [ha, hl] at h
      | some r' =>
        simp [ha, hl] at h
        subst h
        cases k with
        | zero => simp at hx; subst hx; exact ⟨y, ha, rfl⟩
        | succ k => obtain ⟨y', h1, h2⟩ := mapM_get hl k x (by simpa using hx); exact ⟨y', h1, by simpa using h2⟩
theorem build_ok {s : ASt} {o : Oper} {t : TypeId} {parts : Array (Nat × Operand)} {d : Nat} {K : ASt → Prop} (sim : SimAt w0 S0 s φ a w) (ho : o.op = .build t parts) (hd : o.dst = some d) (hlt : d < s.nt) (h : buildK P s t parts.toList d K)
    {next : Act → World → Prop} {Q : Exit → Act → World → Prop} (hn : ∀ s' a' w', K s' → Sim w0 S0 s' a' w' → Below w.heap.size w w' → next a' w') : o.wp P a w next Q := by
  unfold buildK at h
  split at h
  · rename_i zs hzs
    obtain ⟨hpl, h⟩ := h
    obtain ⟨places, hplaces⟩ := Option.isSome_iff_exists.1 hpl
    obtain ⟨i, z, hi, hz, hc⟩ := zeroOf_some hzs
    have hst : ∃ fs, P.underlying t = some (.struct fs) ∧ fs.toList.mapM (fun f => (P.info? f.type).map fun i => (f.offset, i.size)) = some places := by
      unfold placesOf at hplaces
      split at hplaces
      · rename_i fs hu; exact ⟨fs, hu, hplaces⟩
      · cases hplaces
    obtain ⟨fs, hu, hmap⟩ := hst
    obtain ⟨s', f', cells', hK, sim', hfill, hcs, hcx, e1, e2, e3⟩ := partsK_ok (place := fun k => places.toArray[k]?) (fun k o c hp => by
      obtain ⟨fs', f, i', hu', hf, rfl, hi', hsz, hcf⟩ := fieldIn_some hp
      rw [hu] at hu'; injection hu' with hu'; injection hu' with hu'; subst hu'
      obtain ⟨y, h1, h2⟩ := mapM_get hmap k f (by simpa using hf)
      rw [hi'] at h1
      simp at h1
      subst h1
      have : sizeIn c = i'.size := by
        cases c with
        | none => obtain ⟨i2, h3, h4⟩ := cellsIn_size hcf; rw [hi'] at h3; injection h3 with h3; subst h3; simp [sizeIn, h4]
        | some n => obtain ⟨i2, h3, h4, _⟩ := cellsIn_many hcf; rw [hi'] at h3; injection h3 with h3; subst h3; simp [sizeIn, h4]
      rw [this]; simpa using h2) parts.toList s _ z.cells sim h (by simp [hc]) (fun j hj => ⟨zs.getD j undef, by simp [hc, hj], rfl⟩)
    have hmap2 : (parts.map fun p => (p.1, a.eval p.2)).toList = parts.toList.map fun p => (p.1, a.eval p.2) := by simp
    have hb : P.built t (parts.map fun p => (p.1, a.eval p.2)).toList = some cells' := by
      unfold Program.built
      rw [hi, hu]
      simp only [hz, hmap]
      rw [hmap2]; exact hfill
    have run : (execOp a.eval o).run P w = .ok (.value (.agg cells')) w := by
      have := run_build w t _ cells' hb
      unfold execOp
      simp only [ho, Sem.run_bind, this, Result.andThen_ok]; rfl
    unfold Oper.wp
    rw [run, Oper.upon_value, hd]
    exact hn _ _ _ hK ⟨φ, sim'.put (d := d) (by rw [e2]; exact hlt) ⟨cells', rfl, hcs, hcx⟩⟩ (Below.refl _ _)
  · exact h.elim
theorem buildSlice_ok {s : ASt} {o : Oper} {t : TypeId} {n : Nat} {parts : Array (Nat × Operand)} {d : Nat} {K : ASt → Prop} (sim : SimAt w0 S0 s φ a w) (ho : o.op = .buildSlice t n parts) (hd : o.dst = some d) (hlt : d < s.nt) (h : buildSliceK P s t n parts.toList d K)
    {next : Act → World → Prop} {Q : Exit → Act → World → Prop} (hn : ∀ s' a' w', K s' → Sim w0 S0 s' a' w' → Below w.heap.size w w' → next a' w') : o.wp P a w next Q := by
  unfold buildSliceK at h
  split at h
  · rename_i e zs st hinfo hagg
    obtain ⟨hn1, hn2, h⟩ := h
    obtain ⟨i, z, hu, hi, hz, hsz, hzs, hpos, hby⟩ := elemInfo_some hinfo
    obtain ⟨s', f', cells', hK, sim', hfill, hcs, hcx, e1, e2, e3⟩ := partsK_ok (place := fun i => some (i * zs.length, zs.length)) (fun k o c hp => by
      unfold plSlice at hp
      split at hp
      · injection hp with hp; injection hp with h1 h2; subst h1 h2; rfl
      · split at hp
        · rename_i h1; injection hp with hp; injection hp with h3 h4; subst h3 h4; simp [h1, sizeIn]
        · cases hp) parts.toList s _ ((Array.range (n * zs.length)).map (z.cells[· % z.cells.size]!)) sim h (by simp) (fun j hj => by
      have hmod : j % zs.length < zs.length := Nat.mod_lt _ hpos
      exact ⟨zs.getD (j % zs.length) undef, by simp [hj, hzs, hmod], rfl⟩)
    have hle : n * zs.length ≤ 65536 * 64 := Nat.mul_le_mul hn1 hn2
    have run : (execOp a.eval o).run P w = .ok (.value (.slice (some ⟨w.heap.size, 0, none⟩) n n)) (w.alloc (.cells cells' e)) := by
      have hmap : (parts.map fun p => (p.1, a.eval p.2)).toList = parts.toList.map fun p => (p.1, a.eval p.2) := by simp
      unfold execOp
      simp only [ho, Instr.buildSlice, Sem.run_bind, run_underlying hu, Result.andThen_ok, sizeOf, typeInfo, run_program, hi, hsz, Sem.run_pure, zeroValue]
      rw [if_neg (by omega)]
      by_cases h0 : n * zs.length = 0
      · simp only [h0, if_true, Sem.run_bind, Sem.run_pure, Result.andThen_ok]
        simp only [h0] at hfill
        simp only [Array.range_zero', Array.map_empty] at hfill ⊢
        rw [hmap, hfill]; rfl
      · simp only [h0, if_false, Sem.run_bind, Sem.run_pure, Result.andThen_ok, hi, hz, run_program]
        rw [hmap, hfill]; rfl
    unfold Oper.wp
    rw [run, Oper.upon_value, hd]
    refine hn _ _ _ hK (sim'.newBlk (by rw [e2]; exact hlt) (blk := ⟨e, n * zs.length, f'⟩) (by simp; omega) hcx fun S w' => .inr ⟨_, n, _, newPlace sim' _, rfl, Nat.le_refl _, by unfold maxLen; omega, by rw [hcs]; simp⟩) (below_alloc w _)
  · exact h.elim
end
end Go.Proofs.Ytlomkebhopaliaa
