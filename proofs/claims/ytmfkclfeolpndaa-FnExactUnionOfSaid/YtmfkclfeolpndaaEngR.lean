/- A region at whose beginning no block of the call's own is known: whatever is written in it is new; and how a block is set aside for a while. No conditions. -/
import Derived.Test.YtmfkclfeolpndaaEngS
namespace Go.Proofs.Ytmfkclfeolpndaa
set_option linter.unusedSimpArgs false
set_option linter.unusedVariables false
open Go.RowKit

/-- All blocks that a slot names have numbers from n on. -/
def SV.ge (n : Nat) : SV → Prop
  | .own id _ _ _ => n ≤ id
  | .ptr id _ => n ≤ id
  | _ => True
def geSs (n : Nat) : List SV → Prop
  | [] => True
  | v :: vs => v.ge n ∧ geSs n vs
def Slot.ge (n : Nat) : Slot → Prop
  | .one v => v.ge n
  | .many vs => geSs n vs
def geS (n : Nat) : List (Nat × Slot) → Prop
  | [] => True
  | (_, v) :: r => v.ge n ∧ geS n r
theorem geS.get {n : Nat} {v : Slot} {t : Nat} : ∀ {σ : List (Nat × Slot)}, geS n σ → lookup σ t = some v → v.ge n
  | [], _, h => by cases h
  | (k, x) :: r, g, h => by
    simp only [lookup] at h
    split at h
    · injection h with h; subst h; exact g.1
    · exact geS.get g.2 h

section
variable {P : Program} {w0 : World} {S0 : Nat → Prop} {N : Nat}

theorem RdS.shift {w : World} {S S' : Nat → Prop} {φ φ' : List (Option (Nat × Nat))} {n : Nat} (hS : ∀ b, S b → S' b) (hφ : ∀ id, n ≤ id → φ'[id]? = φ[id]?) : ∀ (v : SV) (u : Value), v.ge n → RdS w S φ v u → RdS w S' φ' v u
  | .pv v, u, _, h => Rd.mono (fun b hb _ => ⟨hS b hb, rfl⟩) v u h
  | .own id sz off len, u, hg, h => by
    rcases h with ⟨h1, h2⟩ | ⟨b, c, z, h1, h2⟩
    · exact .inl ⟨by rw [hφ id hg]; exact h1, h2⟩
    · exact .inr ⟨b, c, z, by rw [hφ id hg]; exact h1, h2⟩
  | .ptr id off, u, hg, h => by
    obtain ⟨b, z, h1, h2⟩ := h
    exact ⟨b, z, by rw [hφ id hg]; exact h1, h2⟩
  | .pin n f, u, _, h => by
    obtain ⟨b, off, rfl, h⟩ := h
    refine ⟨b, off, rfl, fun i hi => ?_⟩
    obtain ⟨h1, x, hx, hr⟩ := h i hi
    exact ⟨hS b h1, x, hx, Rd.mono (fun b hb _ => ⟨hS b hb, rfl⟩) _ _ hr⟩
theorem RdSs.shift {w : World} {S S' : Nat → Prop} {φ φ' : List (Option (Nat × Nat))} {n : Nat} (hS : ∀ b, S b → S' b) (hφ : ∀ id, n ≤ id → φ'[id]? = φ[id]?) : ∀ (vs : List SV) (us : List Value), geSs n vs → RdSs w S φ vs us → RdSs w S' φ' vs us
  | [], [], _, _ => trivial
  | [], _ :: _, _, h => h.elim
  | _ :: _, [], _, h => h.elim
  | v :: vs, u :: us, hg, h => ⟨RdS.shift hS hφ v u hg.1 h.1, RdSs.shift hS hφ vs us hg.2 h.2⟩
theorem RdSlot.shift {w : World} {S S' : Nat → Prop} {φ φ' : List (Option (Nat × Nat))} {n : Nat} (hS : ∀ b, S b → S' b) (hφ : ∀ id, n ≤ id → φ'[id]? = φ[id]?) : ∀ (v : Slot) (u : Value), v.ge n → RdSlot w S φ v u → RdSlot w S' φ' v u
  | .one v, u, hg, h => RdS.shift hS hφ v u hg h
  | .many vs, u, hg, h => by
    obtain ⟨us, rfl, h⟩ := h
    exact ⟨us, rfl, RdSs.shift hS hφ vs us hg h⟩

def memN (t : Nat) : List Nat → Bool
  | [] => false
  | x :: r => if t = x then true else memN t r
/-- A slot that says a place alone. -/
def Slot.place : Slot → Prop
  | .one (.ptr _ _) => True
  | .one (.own _ _ _ _) => True
  | _ => False
/-- The slots of T as values alone. -/
def parkS (T : List Nat) (U : Nat → Value) : List (Nat × Slot) → List (Nat × Slot)
  | [] => []
  | (t, v) :: r => (t, if memN t T = true then sc (U t) else v) :: parkS T U r
/-- The slots of T as they were in τ. -/
def backS (T : List Nat) (τ : List (Nat × Slot)) : List (Nat × Slot) → List (Nat × Slot)
  | [] => []
  | (t, v) :: r => (t, if memN t T = true then (lookup τ t).getD v else v) :: backS T τ r
def geT (n : Nat) (T : List Nat) : List (Nat × Slot) → Prop
  | [] => True
  | (t, v) :: r => (if memN t T = true then True else v.ge n) ∧ geT n T r
def sameT (U : Nat → Value) (τ : List (Nat × Slot)) : List Nat → Prop
  | [] => True
  | t :: r => lookup τ t = some (sc (U t)) ∧ sameT U τ r
def placeT (τ : List (Nat × Slot)) : List Nat → Prop
  | [] => True
  | t :: r => (match lookup τ t with | some v => v.place | none => False) ∧ placeT τ r
theorem lookup_parkS {T : List Nat} {U : Nat → Value} {t : Nat} : ∀ {σ : List (Nat × Slot)}, lookup (parkS T U σ) t = (lookup σ t).map fun v => if memN t T = true then sc (U t) else v
  | [] => rfl
  | (k, v) :: r => by
    simp only [parkS, lookup]
    split
    · rename_i e; subst e; rfl
    · exact lookup_parkS
theorem lookup_backS {T : List Nat} {τ : List (Nat × Slot)} {t : Nat} : ∀ {σ : List (Nat × Slot)}, lookup (backS T τ σ) t = (lookup σ t).map fun v => if memN t T = true then (lookup τ t).getD v else v
  | [] => rfl
  | (k, v) :: r => by
    simp only [backS, lookup]
    split
    · rename_i e; subst e; rfl
    · exact lookup_backS
theorem geT.get {n : Nat} {T : List Nat} {v : Slot} {t : Nat} (ht : memN t T = false) : ∀ {σ : List (Nat × Slot)}, geT n T σ → lookup σ t = some v → v.ge n
  | [], _, h => by cases h
  | (k, x) :: r, g, h => by
    simp only [lookup] at h
    split at h
    · rename_i e; subst e; injection h with h; subst h
      have := g.1
      rw [if_neg (by rw [ht]; simp)] at this
      exact this
    · exact geT.get ht g.2 h
theorem sameT.get {U : Nat → Value} {τ : List (Nat × Slot)} {t : Nat} : ∀ {T : List Nat}, memN t T = true → sameT U τ T → lookup τ t = some (sc (U t))
  | [], h, _ => by cases h
  | x :: r, h, g => by
    simp only [memN] at h
    split at h
    · rename_i e; subst e; exact g.1
    · exact sameT.get h g.2
theorem placeT.get {τ : List (Nat × Slot)} {t : Nat} : ∀ {T : List Nat}, memN t T = true → placeT τ T → ∃ v, lookup τ t = some v ∧ v.place
  | [], h, _ => by cases h
  | x :: r, h, g => by
    simp only [memN] at h
    split at h
    · rename_i e; subst e
      have := g.1
      split at this
      · rename_i v hv; exact ⟨v, hv, this⟩
      · exact this.elim
    · exact placeT.get h g.2
theorem Slot.place.rd {v : Slot} {u : Value} {w w' : World} {S S' : Nat → Prop} {φ φ' : List (Option (Nat × Nat))} (hp : v.place) (hφ : ∀ (id : Nat) x, φ[id]? = some x → φ'[id]? = some x) (h : RdSlot w S φ v u) : RdSlot w' S' φ' v u := by
  match v, hp with
  | .one (.ptr id off), _ =>
    obtain ⟨b, z, h1, h2⟩ := h
    exact ⟨b, z, hφ _ _ h1, h2⟩
  | .one (.own id sz off len), _ =>
    rcases h with ⟨h1, h2⟩ | ⟨b, c, z, h1, h2⟩
    · exact .inl ⟨hφ _ _ h1, h2⟩
    · exact .inr ⟨b, c, z, hφ _ _ h1, h2⟩

/-- The state without its blocks; the slots of T are values alone. -/
def parked (T : List Nat) (U : Nat → Value) (s : ASt) : ASt := ⟨parkS T U s.σ, s.h.map fun _ => none, s.nt⟩
def unparked (T : List Nat) (s0 : ASt) (s : ASt) : ASt := ⟨backS T s0.σ s.σ, s0.h ++ s.h.drop s0.h.length, s.nt⟩

theorem none_map {h : List (Option Blk)} {id : Nat} {b : Blk} : (h.map fun _ => (none : Option Blk))[id]? ≠ some (some b) := by
  intro e
  rw [List.getElem?_map] at e
  cases hh : h[id]? with
  | none => rw [hh] at e; cases e
  | some x => rw [hh] at e; simp at e

theorem SimAt.park {s : ASt} {φ : List (Option (Nat × Nat))} {a : Act} {w : World} (sim : SimAt w0 S0 s φ a w) (T : List Nat) : SimAt w (Stab w0 S0 s.h φ) (parked T (fun t => (a.tmps[t]?).getD undef) s) φ a w := by
  have hnl : ∀ b, ¬ Live (s.h.map fun _ => (none : Option Blk)) φ b := fun b ⟨id, blk, z, h1, _⟩ => none_map h1
  refine ⟨⟨by simp [parked, sim.heap.len], Below.refl _ _, fun id blk hi => (none_map hi).elim, fun i j bi bj b z z' h1 => (none_map h1).elim⟩, fun k v hk => ?_, sim.defers, sim.size⟩
  simp only [parked] at hk ⊢
  rw [lookup_parkS] at hk
  cases hl : lookup s.σ k with
  | none => rw [hl] at hk; cases hk
  | some v0 =>
    rw [hl] at hk
    obtain ⟨u', hu', hr⟩ := sim.slots k v0 hl
    have hk : (if memN k T = true then sc ((a.tmps[k]?).getD undef) else v0) = v := by injection hk
    subst hk
    refine ⟨u', hu', ?_⟩
    split
    · show u' = _
      rw [hu']; rfl
    · exact RdSlot.mono (fun b hb _ => ⟨⟨.inl hb, hnl b⟩, rfl⟩) (fun _ _ h => h) v0 u' hr

theorem SimAt.unpark {s s2 : ASt} {φ φ2 : List (Option (Nat × Nat))} {a a2 : Act} {w w2 : World} (sim : SimAt w0 S0 s φ a w) {T : List Nat} (hpl : placeT s.σ T)
    (sim2 : SimAt w (Stab w0 S0 s.h φ) s2 φ2 a2 w2) (hlen : s.h.length ≤ s2.h.length) (ht : sameT (fun t => (a.tmps[t]?).getD undef) s2.σ T) (hge : geT s.h.length T s2.σ) :
    SimAt w0 S0 (unparked T s s2) (φ ++ φ2.drop s.h.length) a2 w2 := by
  have hl := sim.heap.len
  have hl2 := sim2.heap.len
  have hB := sim.heap.below.size
  have hold : ∀ b, Live s.h φ b → b < w.heap.size := fun b ⟨id, blk, z, h1, h2⟩ => by
    rcases sim.heap.blk id blk h1 with ⟨h3, _⟩ | ⟨b', cur, h3, _, h4, _⟩
    · rw [h3] at h2; cases h2
    · rw [h3] at h2; injection h2 with h2; injection h2 with h2; injection h2 with h2 h5; subst h2
      exact block_lt h4
  have hnew : ∀ b, Live s2.h φ2 b → w.heap.size ≤ b := fun b ⟨id, blk, z, h1, h2⟩ => by
    rcases sim2.heap.blk id blk h1 with ⟨h3, _⟩ | ⟨b', cur, h3, h4, _⟩
    · rw [h3] at h2; cases h2
    · rw [h3] at h2; injection h2 with h2; injection h2 with h2; injection h2 with h2 h5; subst h2
      exact h4
  have hdrop : ∀ b, Live (s2.h.drop s.h.length) (φ2.drop s.h.length) b → Live s2.h φ2 b := fun b ⟨id, blk, z, h1, h2⟩ => by
    rw [List.getElem?_drop] at h1 h2
    exact ⟨_, blk, z, h1, h2⟩
  have hlive : ∀ b, Live (s.h ++ s2.h.drop s.h.length) (φ ++ φ2.drop s.h.length) b → Live s.h φ b ∨ Live s2.h φ2 b := fun b h => ((live_append hl).1 h).imp id (hdrop b)
  have hS : ∀ b, Stab w (Stab w0 S0 s.h φ) s2.h φ2 b → Stab w0 S0 (s.h ++ s2.h.drop s.h.length) (φ ++ φ2.drop s.h.length) b := fun b ⟨h1, h2⟩ => by
    refine ⟨h1.elim (fun h => h.1) (fun h => .inr (by omega)), fun h => ?_⟩
    rcases hlive b h with h | h
    · exact h1.elim (fun h' => h'.2 h) (fun h' => by have := hold b h; omega)
    · exact h2 h
  have hS1 : ∀ b, Stab w0 S0 s.h φ b → b < w.heap.size → Stab w0 S0 (s.h ++ s2.h.drop s.h.length) (φ ++ φ2.drop s.h.length) b ∧ w2.heap[b]? = w.heap[b]? := fun b h1 h2 => by
    refine ⟨⟨h1.1, fun h => ?_⟩, sim2.heap.below.block b h2⟩
    rcases hlive b h with h | h
    · exact h1.2 h
    · have := hnew b h; omega
  have hget : ∀ id, s.h.length ≤ id → (φ ++ φ2.drop s.h.length)[id]? = φ2[id]? := fun id h => by
    rw [List.getElem?_append_right (by omega), List.getElem?_drop, show s.h.length + (id - φ.length) = id by omega]
  have hgeth : ∀ id, s.h.length ≤ id → (s.h ++ s2.h.drop s.h.length)[id]? = s2.h[id]? := fun id h => by
    rw [List.getElem?_append_right h, List.getElem?_drop, show s.h.length + (id - s.h.length) = id by omega]
  have hlo : ∀ id, id < s.h.length → (φ ++ φ2.drop s.h.length)[id]? = φ[id]? := fun id h => List.getElem?_append_left (by omega)
  have hloh : ∀ id, id < s.h.length → (s.h ++ s2.h.drop s.h.length)[id]? = s.h[id]? := fun id h => List.getElem?_append_left h
  have place : ∀ (id : Nat) (blk : Blk) (b z : Nat), (s.h ++ s2.h.drop s.h.length)[id]? = some (some blk) → (φ ++ φ2.drop s.h.length)[id]? = some (some (b, z)) →
      (id < s.h.length ∧ s.h[id]? = some (some blk) ∧ φ[id]? = some (some (b, z)) ∧ b < w.heap.size) ∨ (s.h.length ≤ id ∧ s2.h[id]? = some (some blk) ∧ φ2[id]? = some (some (b, z)) ∧ w.heap.size ≤ b) := fun id blk b z h1 h2 => by
    rcases Nat.lt_or_ge id s.h.length with h | h
    · rw [hloh id h] at h1; rw [hlo id h] at h2
      exact .inl ⟨h, h1, h2, hold b ⟨id, blk, z, h1, h2⟩⟩
    · rw [hgeth id h] at h1; rw [hget id h] at h2
      exact .inr ⟨h, h1, h2, hnew b ⟨id, blk, z, h1, h2⟩⟩
  refine ⟨⟨?_, sim.heap.below.trans (sim2.heap.below.mono hB), fun id blk hi => ?_, fun i j bi bj b z z' h1 h2 h3 h4 => ?_⟩, fun k v hk => ?_, sim2.defers, sim2.size⟩
  · simp only [unparked, List.length_append, List.length_drop]; omega
  · simp only [unparked] at hi ⊢
    rcases Nat.lt_or_ge id s.h.length with h | h
    · rw [hloh id h] at hi; rw [hlo id h]
      rcases sim.heap.blk id blk hi with h1 | ⟨b, cur, h1, h2, h3, h4, h5⟩
      · exact .inl h1
      · refine .inr ⟨b, cur, h1, h2, by rw [sim2.heap.below.block b (block_lt h3)]; exact h3, h4, fun i hi => ?_⟩
        obtain ⟨y, hy, hr⟩ := h5 i hi
        exact ⟨y, hy, Rd.mono hS1 _ _ hr⟩
    · rw [hgeth id h] at hi; rw [hget id h]
      rcases sim2.heap.blk id blk hi with h1 | ⟨b, cur, h1, h2, h3, h4, h5⟩
      · exact .inl h1
      · refine .inr ⟨b, cur, h1, by omega, h3, h4, fun i hi => ?_⟩
        obtain ⟨y, hy, hr⟩ := h5 i hi
        exact ⟨y, hy, Rd.mono (fun b hb _ => ⟨hS b hb, rfl⟩) _ _ hr⟩
  · rcases place i bi b z h1 h3 with ⟨_, q1, q2, q3⟩ | ⟨_, q1, q2, q3⟩ <;> rcases place j bj b z' h2 h4 with ⟨_, r1, r2, r3⟩ | ⟨_, r1, r2, r3⟩
    · exact sim.heap.inj i j bi bj b z z' q1 r1 q2 r2
    · omega
    · omega
    · exact sim2.heap.inj i j bi bj b z z' q1 r1 q2 r2
  · simp only [unparked] at hk ⊢
    rw [lookup_backS] at hk
    cases hl2 : lookup s2.σ k with
    | none => rw [hl2] at hk; cases hk
    | some v0 =>
      rw [hl2] at hk
      have hk : (if memN k T = true then (lookup s.σ k).getD v0 else v0) = v := by injection hk
      obtain ⟨u', hu', hr⟩ := sim2.slots k v0 hl2
      by_cases hm : memN k T = true
      · rw [if_pos hm] at hk
        obtain ⟨x, hx, hp⟩ := hpl.get hm
        rw [hx] at hk
        have hk : x = v := hk
        subst hk
        have h1 := ht.get hm
        rw [hl2] at h1
        injection h1 with h1
        subst h1
        have h2 : u' = (a.tmps[k]?).getD undef := hr
        obtain ⟨u, hu, hrx⟩ := sim.slots k x hx
        rw [hu] at h2
        have h2 : u' = u := h2
        subst h2
        refine ⟨u', hu', Slot.place.rd hp (fun id y hy => ?_) hrx⟩
        rw [hlo id (by have := (List.getElem?_eq_some_iff.1 hy).1; omega)]; exact hy
      · rw [if_neg hm] at hk
        subst hk
        have hg : v0.ge s.h.length := geT.get (by simpa using hm) hge hl2
        exact ⟨u', hu', RdSlot.shift hS (fun id h => hget id h) v0 u' hg hr⟩

/-! ### A drawn region, no block known ahead of it -/
variable {w1 : World} {S1 : Nat → Prop}
theorem evSr_ok {ops : List Oper} {L : Nat} (hu : unguarded ops = true) (hs : Region.noSelect ops.toArray = true) {K : ASt → Prop} (hN : w1.heap.size = N) {E : Exit → Act → World → Prop} (hE : ∀ s φ a w, K s → SimAt w1 S1 s φ a w → E .normal a w) (hp : ∀ c a w, ¬ E (.panic c) a w) :
    ∀ (t : Nx) (b : Bool) (f : Nat) (listed : Array Bool) (s : ASt) (φ : List (Option (Nat × Nat))) (a : Act) (w : World),
    okSx ops.toArray L b f listed t = true → SimAt w1 S1 s φ a w → evNx N P ops K t s →
    (b = false → wpAnyS P ops.toArray E (HeldS w1) L f listed a w) ∧
    (b = true → ∀ g, f = g + 1 → ∀ j ∈ t.heads, wpOp P ops.toArray E j (fun a' w' => (j ≠ L → HeldS w1 w') ∧ wpAnyS P ops.toArray E (HeldS w1) L g (listed.setIfInBounds j true) a' w') a w)
  | .done, b, f, listed, s, φ, a, w, hB, sim, h => by
    refine ⟨fun _ => ?_, fun _ g _ j hj => by simp [Nx.heads] at hj⟩
    have hr : Region.ready .any ops.toArray listed = [] := by
      cases b <;> cases f <;> exact of_decide_eq_true hB
    exact wpAnyS_done hr (hE s φ a w h sim) f
  | .st t, true, f, listed, s, φ, a, w, hB, sim, h => by cases f <;> simp [okSx] at hB
  | .st t, false, f, listed, s, φ, a, w, hB, sim, h => by
    refine ⟨fun _ => ?_, fun hb => by cases hb⟩
    have hB' : okSx ops.toArray L false f listed t = true := by cases f <;> simpa [okSx] using hB
    obtain ⟨s', φ', hK, sim'⟩ := h w1 S1 φ a w hN sim
    exact (evSr_ok hu hs hN hE hp t false f listed s' φ' a w hB' sim' hK).1 rfl
  | .take i t, true, f, listed, s, φ, a, w, hB, sim, h => by cases f <;> simp [okSx] at hB
  | .take i t, false, 0, listed, s, φ, a, w, hB, sim, h => by simp [okSx] at hB
  | .take i t, false, f + 1, listed, s, φ, a, w, hB, sim, h => by
    refine ⟨fun _ => ?_, fun hb => by cases hb⟩
    simp only [okSx, Bool.and_eq_true] at hB
    obtain ⟨⟨⟨⟨hL, h1⟩, hr⟩, hf⟩, hB⟩ := hB
    change evAt P true ops i (evNx N P ops K t) s at h
    unfold evAt at h
    split at h
    · rename_i o ho
      have ho' : ops.toArray[i]? = some o := by simpa using ho
      rw [ho'] at h1
      simp only [Bool.and_eq_true] at h1
      obtain ⟨s', v, hK, sim', hy⟩ := evOp_pure (ops := ops.toArray) sim (unguarded_get hu ho) h1.1 h1.2 h
      exact wpAnyS_take ho' hs hL (fun c a w hq => (hp c _ w hq).elim) f listed a w (Region.free_spec ho' hf) (by simpa using hr) hy.yieldsIf sim.heap.below ((evSr_ok hu hs hN hE hp t false f _ s' φ _ w hB sim' hK).1 rfl)
    · exact h.elim
  | .one i t, b, 0, listed, s, φ, a, w, hB, sim, h => by cases b <;> simp [okSx] at hB
  | .one i t, b, f + 1, listed, s, φ, a, w, hB, sim, h => by
    have hB' : ((b || decide (Region.ready .any ops.toArray listed = [i])) = true ∧ (decide (i ≠ L) || endB t) = true) ∧ okSx ops.toArray L false f (listed.setIfInBounds i true) t = true := by
      cases b <;> simpa [okSx] using hB
    have hop : wpOp P ops.toArray E i (fun a' w' => (i ≠ L → HeldS w1 w') ∧ wpAnyS P ops.toArray E (HeldS w1) L f (listed.setIfInBounds i true) a' w') a w :=
      evAx_ok hN sim h fun s' a' w' hK ⟨φ', sim'⟩ => ⟨fun _ => sim'.heap.below, (evSr_ok hu hs hN hE hp t false f _ s' φ' a' w' hB'.2 sim' hK).1 rfl⟩
    refine ⟨fun hb => ?_, fun _ g hg j hj => ?_⟩
    · subst hb
      have hr : Region.ready .any ops.toArray listed = [i] := by simpa using hB'.1.1
      refine ⟨fun h0 => (by rw [hr] at h0; cases h0), fun j hj => ?_⟩
      rw [hr] at hj
      obtain rfl : j = i := by simpa using hj
      exact hop
    · obtain rfl : f = g := by omega
      obtain rfl : j = i := by simpa [Nx.heads] using hj
      exact hop
  | .alt i t u, b, 0, listed, s, φ, a, w, hB, sim, h => by cases b <;> simp [okSx] at hB
  | .alt i t u, b, f + 1, listed, s, φ, a, w, hB, sim, h => by
    have hB' : (((b || decide (Region.ready .any ops.toArray listed = i :: u.heads)) = true ∧ (decide (i ≠ L) || endB t) = true) ∧ okSx ops.toArray L false f (listed.setIfInBounds i true) t = true) ∧ okSx ops.toArray L true (f + 1) listed u = true := by
      cases b <;> simpa [okSx] using hB
    have hop : wpOp P ops.toArray E i (fun a' w' => (i ≠ L → HeldS w1 w') ∧ wpAnyS P ops.toArray E (HeldS w1) L f (listed.setIfInBounds i true) a' w') a w :=
      evAx_ok hN sim h.1 fun s' a' w' hK ⟨φ', sim'⟩ => ⟨fun _ => sim'.heap.below, (evSr_ok hu hs hN hE hp t false f _ s' φ' a' w' hB'.1.2 sim' hK).1 rfl⟩
    have hoth := (evSr_ok hu hs hN hE hp u true (f + 1) listed s φ a w hB'.2 sim h.2).2 rfl f rfl
    refine ⟨fun hb => ?_, fun _ g hg j hj => ?_⟩
    · subst hb
      have hr : Region.ready .any ops.toArray listed = i :: u.heads := by simpa using hB'.1.1.1
      refine ⟨fun h0 => (by rw [hr] at h0; cases h0), fun j hj => ?_⟩
      rw [hr] at hj
      rcases List.mem_cons.1 hj with rfl | hj
      · exact hop
      · exact hoth j hj
    · obtain rfl : f = g := by omega
      rcases List.mem_cons.1 (show j ∈ i :: u.heads from hj) with rfl | hj
      · exact hop
      · exact hoth j hj

/-- Behind the loads: the slots of T are set aside, the rest of the region comes in the orders of t. -/
def parkK (N : Nat) (P : Program) (ops : List Oper) (T : List Nat) (t : Nx) (Q : ASt → Prop) (s : ASt) : Prop :=
  placeT s.σ T ∧ ∀ (U : Nat → Value) (N1 : Nat), N ≤ N1 → evNx N1 P ops (fun s2 => s.h.length ≤ s2.h.length ∧ sameT U s2.σ T ∧ geT s.h.length T s2.σ ∧ Q (unparked T s s2)) t (parked T U s)
theorem park_go {ops : List Oper} {T : List Nat} {t : Nx} {Q : ASt → Prop} {s : ASt} (h1 : placeT s.σ T) (h2 : ∀ (U : Nat → Value) (N1 : Nat), N ≤ N1 → evNx N1 P ops (fun s2 => s.h.length ≤ s2.h.length ∧ sameT U s2.σ T ∧ geT s.h.length T s2.σ ∧ Q (unparked T s s2)) t (parked T U s)) : parkK N P ops T t Q s := ⟨h1, h2⟩

theorem evTakeR_ok {ops : List Oper} {L : Nat} (hu : unguarded ops = true) (hs : Region.noSelect ops.toArray = true) {T : List Nat} {Q : ASt → Prop} (hN : w0.heap.size = N) (hsz : w0.heap.size ≤ w1.heap.size) {t : Nx} : ∀ (ks : List Nat) (f : Nat) (listed : Array Bool) (s : ASt) (φ : List (Option (Nat × Nat))) (a : Act),
    okTakeS ops.toArray L t f listed ks = true → SimAt w0 S0 s φ a w1 → evTake P ops (parkK N P ops T t Q) ks s → wpAnyS P ops.toArray (Ends w0 S0 Q) (HeldS w1) L f listed a w1
  | [], f, listed, s, φ, a, hB, sim, h => by
    have h : parkK N P ops T t Q s := h
    exact (evSr_ok (E := Ends w0 S0 Q) hu hs rfl (fun s2 φ2 a' w' ⟨h1, h2, h3, hQ⟩ sim2 => ⟨rfl, _, hQ, _, sim.unpark h.1 sim2 h1 h2 h3⟩) (fun c a w h => by cases h.1) t false f listed (parked T (fun t => (a.tmps[t]?).getD undef) s) φ a w1 (by cases f <;> exact hB) (sim.park T) (h.2 _ w1.heap.size (by omega))).1 rfl
  | k :: ks, 0, listed, s, φ, a, hB, sim, h => by simp [okTakeS] at hB
  | k :: ks, f + 1, listed, s, φ, a, hB, sim, h => by
    unfold okTakeS at hB
    simp only [Bool.and_eq_true] at hB
    obtain ⟨⟨⟨⟨hL, h1⟩, hr⟩, hf⟩, hB⟩ := hB
    change evAt P true ops k (evTake P ops (parkK N P ops T t Q) ks) s at h
    unfold evAt at h
    split at h
    · rename_i o ho
      have ho' : ops.toArray[k]? = some o := by simpa using ho
      rw [ho'] at h1
      obtain ⟨s', v, hK, sim', hy⟩ := evOp_held (ops := ops.toArray) sim (unguarded_get hu ho) h1 h
      exact wpAnyS_take ho' hs hL (fun c a w hq => by cases hq.1) f listed a w1 (Region.free_spec ho' hf) (by simpa using hr) hy (Below.refl _ _) (evTakeR_ok hu hs hN hsz ks f _ s' φ _ hB sim' hK)
    · exact h.elim

/-- A region whose order is open: loads ks are taken first; then the slots of T (pointers into blocks that the region leaves alone) are set aside, and the rest comes in the orders of t. -/
theorem AWP.drawn_sr {id : Nat} {ops : List Oper} {Q : Exit → ASt → Prop} {s : ASt} (T : List Nat) (L : Nat) (ks : List Nat) (t : Nx) (hm : P.follows .mixedOrders = true)
    (hB : (unguarded ops && Region.noSelect ops.toArray && okTakeS ops.toArray L t ops.toArray.size (Array.replicate ops.toArray.size false) ks) = true)
    (h : evTake P ops (parkK N P ops T t (Q .normal)) ks s) : AWP N P (.region id ops.toArray true) Q s := by
  simp only [Bool.and_eq_true] at hB
  rintro w0 S0 a w hN ⟨φ, sim⟩
  have sim1 : SimAt w0 S0 s φ a { w with drawn := w.drawn + 1 } := sim.after ⟨rfl, rfl, rfl, Nat.le_refl _, fun _ _ => rfl⟩
  have := wp_region_any (P := P) (id := id) hm (wpAnyS.any _ _ _ _ (evTakeR_ok hB.1.1 hB.1.2 hN sim1.heap.below.size ks _ _ s φ a hB.2 sim1 h))
  refine wp_mono this fun e a' w' ⟨he, s', hK, hsim⟩ => ?_
  subst he
  exact ⟨s', hK, hsim⟩
end
end Go.Proofs.Ytmfkclfeolpndaa
