/- What a store, a new block and an append do to the abstract state. No conditions. -/
import Derived.Test.YtpolbgenoicckaaEngD
import Derived.Deep.MidRow
namespace Go.Proofs.Ytpolbgenoicckaa
set_option linter.unusedSimpArgs false
set_option linter.unusedVariables false
open Go.RowKit

/-- A value of one cell. -/
def V.one : V → Bool
  | .val v => v.oneCell'
  | .seq _ _ _ => true
  | .agg _ _ => false
  | .pin _ _ => true
  | .clo _ _ _ => true
  | .old _ v => v.one
  | .row _ _ _ _ _ => true

theorem Rd.one {w : World} {S : Nat → Prop} {v : V} {u : Value} (h : v.one = true) (hr : Rd w S v u) : u.oneCell' = true := by
  induction v generalizing S with
  | val v => have e : u = v := hr; rw [e]; exact h
  | seq sz n f => obtain ⟨A, c, rfl, _⟩ := hr; rfl
  | agg n f => cases h
  | pin n f => obtain ⟨b, off, rfl, _⟩ := hr; rfl
  | clo g n f => obtain ⟨cs, rfl, _⟩ := hr; rfl
  | old Z v ih => exact ih h hr.2
  | row u0 Z sz n f => obtain ⟨_, _, A, c, rfl, _⟩ := hr; rfl

section
variable {P : Program} {w0 : World} {S0 : Nat → Prop} {s : ASt} {φ : List (Option (Nat × Nat))} {a : Act} {w : World}

theorem live_set {h : List (Option Blk)} {id : Nat} {blk blk' : Blk} (hi : h[id]? = some (some blk)) (b : Nat) : Live (h.set id (some blk')) φ b ↔ Live h φ b := by
  have hlt := (List.getElem?_eq_some_iff.1 hi).1
  constructor
  · rintro ⟨i, x, z, h1, h2⟩
    by_cases e : id = i
    · subst e; exact ⟨id, blk, z, hi, h2⟩
    · rw [List.getElem?_set_ne e] at h1; exact ⟨i, x, z, h1, h2⟩
  · rintro ⟨i, x, z, h1, h2⟩
    by_cases e : id = i
    · subst e; exact ⟨id, blk', z, by simp [hlt], h2⟩
    · exact ⟨i, x, z, by rw [List.getElem?_set_ne e]; exact h1, h2⟩

/-- A block of the call's own is written. -/
theorem SimAt.write (sim : SimAt w0 S0 s φ a w) {id b z : Nat} {blk blk' : Blk} (hi : s.h[id]? = some (some blk)) (hφ : φ[id]? = some (some (b, z))) {w' : World} {cur' : Array Value}
    (hcur' : w'.heap[b]? = some (.cells cur' blk.elem (0, 0))) (hsz : cur'.size = z) (hos : w'.os = w.os) (htape : w'.tape = w.tape) (hout : w'.output = w.output)
    (hsize : w.heap.size ≤ w'.heap.size) (hoth : ∀ k, k < w.heap.size → k ≠ b → w'.heap[k]? = w.heap[k]?) (he : blk'.elem = blk.elem) (hn : blk'.n ≤ cur'.size)
    (hx : ∀ i, i < blk'.n → ∃ x, cur'[i]? = some x ∧ Rd w (Stab w0 S0 s.h φ) (blk'.f i) x) : SimAt w0 S0 { s with h := s.h.set id (some blk') } φ a w' := by
  obtain ⟨cur, hz, hB, hcur, _, _⟩ := sim.blkAt hi hφ
  have hb : b < w.heap.size := block_lt hcur
  have hlt := (List.getElem?_eq_some_iff.1 hi).1
  have hlive : Live s.h φ b := ⟨id, blk, z, hi, hφ⟩
  have hs : ∀ k, Stab w0 S0 s.h φ k → k < w.heap.size → Stab w0 S0 (s.h.set id (some blk')) φ k ∧ w'.heap[k]? = w.heap[k]? := fun k h1 h2 =>
    ⟨⟨h1.1, fun h => h1.2 ((live_set hi k).1 h)⟩, hoth k h2 (fun e => h1.2 (e ▸ hlive))⟩
  refine ⟨⟨by simp [sim.heap.len], sim.heap.below.trans ⟨hos, htape, hout, hsize, fun k hk => hoth k (by have := sim.heap.below.size; omega) (by omega)⟩, fun i x hi' => ?_, fun i j bi bj bb z1 z2 h1 h2 h3 h4 => ?_⟩, fun t v ht => ?_, sim.defers, sim.size⟩
  · by_cases e : id = i
    · subst e
      have : x = blk' := by simpa [hlt] using hi'.symm
      subst this
      refine .inr ⟨b, cur', by rw [hsz]; exact hφ, hB, by rw [he]; exact hcur', hn, fun j hj => ?_⟩
      obtain ⟨y, hy, hr⟩ := hx j hj
      exact ⟨y, hy, Rd.mono hs _ _ hr⟩
    · have hi'' : s.h[i]? = some (some x) := by rw [← hi']; exact (List.getElem?_set_ne e).symm
      rcases sim.heap.blk i x hi'' with h1 | ⟨b', c, h1, h2, h3, h4, h5⟩
      · exact .inl h1
      · have hne : b' ≠ b := fun eb => by
          subst eb
          exact e (sim.heap.inj id i blk x b' _ _ hi hi'' hφ h1)
        refine .inr ⟨b', c, h1, h2, by rw [hoth b' (block_lt h3) hne]; exact h3, h4, fun j hj => ?_⟩
        obtain ⟨y, hy, hr⟩ := h5 j hj
        exact ⟨y, hy, Rd.mono hs _ _ hr⟩
  · have g : ∀ (k : Nat) (bk : Blk), (s.h.set id (some blk'))[k]? = some (some bk) → ∃ bk', s.h[k]? = some (some bk') := fun k bk hk => by
      by_cases e : id = k
      · subst e; exact ⟨blk, hi⟩
      · rw [List.getElem?_set_ne e] at hk; exact ⟨bk, hk⟩
    obtain ⟨b1, h1'⟩ := g i bi h1
    obtain ⟨b2, h2'⟩ := g j bj h2
    exact sim.heap.inj i j b1 b2 bb z1 z2 h1' h2' h3 h4
  · obtain ⟨u, hu, hr⟩ := sim.slots t v ht
    exact ⟨u, hu, RdSlot.mono hs (fun _ _ h => h) v u hr⟩

/-- A block is made. -/
theorem SimAt.made (sim : SimAt w0 S0 s φ a w) {blk : Blk} {cells : Array Value} {w' : World} (hw' : w' = w.alloc (.cells cells blk.elem)) (hn : blk.n ≤ cells.size)
    (hx : ∀ i, i < blk.n → ∃ x, cells[i]? = some x ∧ Rd w (Stab w0 S0 s.h φ) (blk.f i) x) : SimAt w0 S0 { s with h := s.h ++ [some blk] } (φ ++ [some (w.heap.size, cells.size)]) a w' := by
  subst hw'
  have hnew : (w.alloc (.cells cells blk.elem)).heap[w.heap.size]? = some (.cells cells blk.elem (0, 0)) := heap_alloc_new w _
  have hb : Below w.heap.size w (w.alloc (.cells cells blk.elem)) := (Below.refl _ _).alloc (Nat.le_refl _) _
  have hh : Heap w (Stab w0 S0 s.h φ) [some blk] [some (w.heap.size, cells.size)] (w.alloc (.cells cells blk.elem)) := by
    refine ⟨rfl, hb, fun id b hi => ?_, fun i j bi bj b z z' h1 h2 _ _ => ?_⟩
    · cases id with
      | zero =>
        simp at hi; subst hi
        refine .inr ⟨w.heap.size, cells, rfl, Nat.le_refl _, hnew, hn, fun i hi => ?_⟩
        obtain ⟨x, hx1, hx2⟩ := hx i hi
        refine ⟨x, hx1, Rd.mono (fun b hb' hlt => ⟨⟨.inl hb', fun hl => ?_⟩, hb.block b hlt⟩) _ _ hx2⟩
        obtain ⟨k, bk, z, h1, h2⟩ := hl
        cases k with
        | zero => simp at h2; omega
        | succ k => simp at h1
      | succ id => simp at hi
    · cases i <;> cases j <;> simp at h1 h2 <;> rfl
  exact sim.join hh fun id bk i x _ _ hr => Rd.mono (fun b hb _ => ⟨sim.stab_callee b hb, rfl⟩) _ _ hr

/-- Where a slice of the call's own lies, and how many cells its block has. -/
def placeOf (w : World) (v : Value) : Option (Nat × Nat) :=
  match v.ownBlock with
  | some b =>
    match w.heap[b]? with
    | some (.cells c _ _) => some (b, c.size)
    | _ => none
  | none => none

/-- Behind an append: the old slice is gone, the new one is there. -/
theorem SimAt.grown (sim : SimAt w0 S0 s φ a w) {id sz n m : Nat} {blk : Blk} {u v' : Value} {w' : World} {g : Nat → V} {xs news : List Value}
    (hi : s.h[id]? = some (some blk)) (hu : RdS w (Stab w0 S0 s.h φ) φ (.own id sz 0 n) u)
    (hxs : xs.length = n * sz) (hx : ∀ i, i < n * sz → ∃ x, xs[i]? = some x ∧ Rd w (Stab w0 S0 s.h φ) (blk.f i) x)
    (hnews : ∀ i, i < m * sz → ∃ x, news[i]? = some x ∧ Rd w (Stab w0 S0 s.h φ) (g i) x)
    (hown : w'.ownsRow w0.heap.size blk.elem sz v' (n + m) (xs ++ news)) (hgrow : w.grownBy w' u.ownBlock) (hwhere : v'.ownBlock = u.ownBlock ∨ v'.ownBlock = some w.heap.size) :
    SimAt w0 S0 { s with h := s.h.set id none ++ [some ⟨blk.elem, (n + m) * sz, fun i => if i < n * sz then blk.f i else g (i - n * sz)⟩] } (φ ++ [placeOf w' v']) a w' ∧
      RdS w' (Stab w0 S0 (s.h.set id none ++ [some ⟨blk.elem, (n + m) * sz, fun i => if i < n * sz then blk.f i else g (i - n * sz)⟩]) (φ ++ [placeOf w' v'])) (φ ++ [placeOf w' v']) (.own s.h.length sz 0 (n + m)) v' := by
  generalize hnb : (⟨blk.elem, (n + m) * sz, fun i => if i < n * sz then blk.f i else g (i - n * sz)⟩ : Blk) = nb
  have hlt := (List.getElem?_eq_some_iff.1 hi).1
  have hl := sim.heap.len
  have hub : ∀ b, u.ownBlock = some b → ∃ z, φ[id]? = some (some (b, z)) ∧ Live s.h φ b := fun b hb => by
    rcases hu with ⟨_, _, _, rfl⟩ | ⟨b', c, z, h1, rfl, _⟩
    · cases hb
    · simp only [Value.ownBlock, Option.some.injEq] at hb; subst hb; exact ⟨z, h1, id, blk, z, hi, h1⟩
  have hplace : ∀ b z, placeOf w' v' = some (b, z) → v'.ownBlock = some b := fun b z h => by
    unfold placeOf at h
    split at h
    · rename_i b' hb'
      split at h
      · injection h with h; injection h with h1 h2; subst h1; exact hb'
      · cases h
    · cases h
  have hget : ∀ (i : Nat) (x : Blk), (s.h.set id none ++ [some nb])[i]? = some (some x) → (i ≠ id ∧ i < s.h.length ∧ s.h[i]? = some (some x)) ∨ (i = s.h.length ∧ x = nb) := fun i x hi' => by
    rcases Nat.lt_or_ge i s.h.length with h | h
    · rw [List.getElem?_append_left (by simpa using h)] at hi'
      by_cases e : id = i
      · subst e; simp [hlt] at hi'
      · rw [List.getElem?_set_ne e] at hi'; exact .inl ⟨fun e' => e e'.symm, h, hi'⟩
    · rw [List.getElem?_append_right (by simpa using h)] at hi'
      have h0 : i - (s.h.set id none).length = 0 := by
        rcases Nat.eq_zero_or_pos (i - (s.h.set id none).length) with h0 | h0
        · exact h0
        · rw [List.getElem?_eq_none (by simp at h0 ⊢; omega)] at hi'; cases hi'
      rw [h0] at hi'
      simp at hi'
      exact .inr ⟨by simp at h0; omega, hi'.symm⟩
  have hφl : ∀ i, i < s.h.length → (φ ++ [placeOf w' v'])[i]? = φ[i]? := fun i h => List.getElem?_append_left (by omega)
  have hφr : (φ ++ [placeOf w' v'])[s.h.length]? = some (placeOf w' v') := by rw [← hl]; simp
  have hlive : ∀ b, Live (s.h.set id none ++ [some nb]) (φ ++ [placeOf w' v']) b → (∃ i x z, i ≠ id ∧ s.h[i]? = some (some x) ∧ φ[i]? = some (some (b, z))) ∨ v'.ownBlock = some b := fun b hb => by
    obtain ⟨i, x, z, h1, h2⟩ := hb
    rcases hget i x h1 with ⟨h3, h4, h5⟩ | ⟨rfl, _⟩
    · rw [hφl i h4] at h2; exact .inl ⟨i, x, z, h3, h5, h2⟩
    · rw [hφr] at h2; injection h2 with h2; exact .inr (hplace b z h2)
  have hs : ∀ k, Stab w0 S0 s.h φ k → k < w.heap.size → Stab w0 S0 (s.h.set id none ++ [some nb]) (φ ++ [placeOf w' v']) k ∧ w'.heap[k]? = w.heap[k]? := fun k h1 h2 => by
    refine ⟨⟨h1.1, fun h => ?_⟩, hgrow.block k h2 fun e => h1.2 (hub k e.symm).choose_spec.2⟩
    rcases hlive k h with ⟨i, x, z, _, h3, h4⟩ | h3
    · exact h1.2 ⟨i, x, z, h3, h4⟩
    · rcases hwhere with h4 | h4
      · exact h1.2 (hub k (by rw [← h4]; exact h3)).choose_spec.2
      · rw [h4] at h3; injection h3 with h3; omega
  have hbelow : Below w0.heap.size w w' := ⟨hgrow.os, hgrow.tape, hgrow.output, hgrow.size, fun k hk => hgrow.block k (by have := sim.heap.below.size; omega) fun e => by
    obtain ⟨z, h1, _⟩ := hub k e.symm
    obtain ⟨_, _, hB, _⟩ := sim.blkAt hi h1
    omega⟩
  have hnb1 : nb.elem = blk.elem := by rw [← hnb]
  have hnb2 : nb.n = (n + m) * sz := by rw [← hnb]
  -- the new slice's own block
  have hnew : (v' = .slice none 0 0 ∧ n + m = 0 ∧ placeOf w' v' = none) ∨ ∃ g cap cur, v' = .slice (some ⟨g, 0, none⟩) (n + m) cap ∧ w0.heap.size ≤ g ∧ w'.heap[g]? = some (.cells cur blk.elem (0, 0)) ∧ n + m ≤ cap ∧ cap ≤ maxLen ∧
      cur.size = cap * sz ∧ cur.toList.take ((n + m) * sz) = xs ++ news ∧ placeOf w' v' = some (g, cur.size) := by
    rcases hown.2 with ⟨rfl, h⟩ | ⟨g, cap, cur, rfl, h1, h2, h3, h4, h5, h6⟩
    · exact .inl ⟨rfl, h, rfl⟩
    · exact .inr ⟨g, cap, cur, rfl, h1, h2, h3, h4, h5, h6, by simp [placeOf, Value.ownBlock, h2]⟩
  refine ⟨⟨⟨by simp [hl], sim.heap.below.trans hbelow, fun i x hi' => ?_, fun i j bi bj bb z1 z2 h1 h2 h3 h4 => ?_⟩, fun t v ht => ?_, sim.defers, sim.size⟩, ?_⟩
  · rcases hget i x hi' with ⟨h1, h2, h3⟩ | ⟨rfl, rfl⟩
    · rw [hφl i h2]
      rcases sim.heap.blk i x h3 with h4 | ⟨b', c, h4, h5, h6, h7, h8⟩
      · exact .inl h4
      · have hne : some b' ≠ u.ownBlock := fun eb => by
          obtain ⟨z, h9, _⟩ := hub b' eb.symm
          exact h1 (sim.heap.inj i id x blk b' _ _ h3 hi h4 h9)
        refine .inr ⟨b', c, h4, h5, by rw [hgrow.block b' (block_lt h6) hne]; exact h6, h7, fun j hj => ?_⟩
        obtain ⟨y, hy, hr⟩ := h8 j hj
        exact ⟨y, hy, Rd.mono hs _ _ hr⟩
    · rw [hφr]
      rcases hnew with ⟨h1, h2, h3⟩ | ⟨g', cap, cur, h1, h2, h3, h4, h5, h6, h7, h8⟩
      · exact .inl ⟨by rw [h3], by rw [hnb2, h2]; simp⟩
      · refine .inr ⟨g', cur, by rw [h8], h2, by rw [hnb1]; exact h3, by rw [hnb2, h6]; exact Nat.mul_le_mul_right _ h4, fun j hj => ?_⟩
        rw [hnb2] at hj
        have hj' : (xs ++ news)[j]? = cur[j]? := by
          rw [← h7, List.getElem?_take, if_pos hj]; simp
        rw [← hj', ← hnb]
        by_cases hjn : j < n * sz
        · obtain ⟨y, hy, hr⟩ := hx j hjn
          refine ⟨y, by rw [List.getElem?_append_left (by omega)]; exact hy, ?_⟩
          simp only [hjn, if_true]
          exact Rd.mono (hnb ▸ hs) _ _ hr
        · have hjm : j - n * sz < m * sz := by rw [Nat.add_mul] at hj; omega
          obtain ⟨y, hy, hr⟩ := hnews (j - n * sz) hjm
          refine ⟨y, by rw [List.getElem?_append_right (by omega), hxs]; exact hy, ?_⟩
          simp only [hjn, if_false]
          exact Rd.mono (hnb ▸ hs) _ _ hr
  · have same : ∀ (i j : Nat) (x : Blk), i ≠ id → i < s.h.length → s.h[i]? = some (some x) → φ[i]? = some (some (bb, z1)) ∨ φ[i]? = some (some (bb, z2)) → v'.ownBlock = some bb → False := fun i j x e1 e2 e3 e4 e5 => by
      have hl' : Live s.h φ bb := by rcases e4 with e4 | e4 <;> exact ⟨i, x, _, e3, e4⟩
      rcases hwhere with h5 | h5
      · obtain ⟨z, h6, _⟩ := hub bb (by rw [← h5]; exact e5)
        rcases e4 with e4 | e4 <;> exact e1 (sim.heap.inj i id x blk bb _ _ e3 hi e4 h6)
      · rw [h5] at e5; injection e5 with e5
        have := (sim.heap.live_ge hl').2; omega
    rcases hget i bi h1 with ⟨e1, e2, e3⟩ | ⟨rfl, _⟩ <;> rcases hget j bj h2 with ⟨e4, e5, e6⟩ | ⟨e7, _⟩
    · rw [hφl i e2] at h3; rw [hφl j e5] at h4
      exact sim.heap.inj i j bi bj bb z1 z2 e3 e6 h3 h4
    · subst e7
      rw [hφl i e2] at h3; rw [hφr] at h4; injection h4 with h4
      exact (same i i bi e1 e2 e3 (.inl h3) (hplace _ _ h4)).elim
    · rw [hφr] at h3; rw [hφl j e5] at h4; injection h3 with h3
      exact (same j j bj e4 e5 e6 (.inr h4) (hplace _ _ h3)).elim
    · exact e7.symm
  · obtain ⟨y, hy, hr⟩ := sim.slots t v ht
    exact ⟨y, hy, RdSlot.mono hs (fun k x hk => by rw [hφl k (by rw [← hl]; exact (List.getElem?_eq_some_iff.1 hk).1)]; exact hk) v y hr⟩
  · rcases hnew with ⟨h1, h2, h3⟩ | ⟨g', cap, cur, h1, h2, h3, h4, h5, h6, h7, h8⟩
    · exact .inl ⟨by rw [hφr, h3], rfl, h2, h1⟩
    · exact .inr ⟨g', cap, cur.size, by rw [hφr, h8], h1, h4, h5, by rw [h6]; simp⟩

end
end Go.Proofs.Ytpolbgenoicckaa
