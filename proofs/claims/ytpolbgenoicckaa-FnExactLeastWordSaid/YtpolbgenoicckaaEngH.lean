/- A state in other words, its blocks renamed or let go; a nil slice as a block of no cells. No conditions. -/
import Derived.Test.YtpolbgenoicckaaEngG
namespace Go.Proofs.Ytpolbgenoicckaa
set_option linter.unusedSimpArgs false
set_option linter.unusedVariables false
open Go.RowKit

/-- A slot that reads as another one's words; m: a block's new number to its old one. -/
def SlR (m : List Nat) : Slot → Slot → Prop
  | .one (.own id sz off len), .one (.own id' sz' off' len') => m[id']? = some id ∧ sz = sz' ∧ off = off' ∧ len = len'
  | .one (.ptr id off), .one (.ptr id' off') => m[id']? = some id ∧ off = off'
  | .one (.pv a), .one (.pv b) => VE a b
  | .one (.pin n f), .one (.pin n' g) => n' ≤ n ∧ ∀ i, i < n' → VE (f i) (g i)
  | _, _ => False

def EntSR (m : List Nat) (σ : List (Nat × Slot)) : List (Nat × Slot) → Prop
  | [] => True
  | (t, v) :: r => (match lookup σ t with | some v0 => SlR m v0 v | none => False) ∧ EntSR m σ r

def EntHR (h : List (Option Blk)) : List Nat → List (Option Blk) → Prop
  | [], [] => True
  | _ :: m, none :: h' => EntHR h m h'
  | j :: m, some b' :: h' => (match h[j]? with | some (some b) => BE b b' | _ => False) ∧ EntHR h m h'
  | _, _ => False

def EntR (m : List Nat) (s s' : ASt) : Prop := s'.nt = s.nt ∧ m.Nodup ∧ EntSR m s.σ s'.σ ∧ EntHR s.h m s'.h

/-- Where the renamed blocks lie. -/
def ren (φ : List (Option (Nat × Nat))) (m : List Nat) : List (Option (Nat × Nat)) := m.map fun j => (φ[j]?).join

theorem ren_get {φ : List (Option (Nat × Nat))} {m : List Nat} {i j : Nat} {x : Option (Nat × Nat)} (h : m[i]? = some j) (hx : φ[j]? = some x) : (ren φ m)[i]? = some x := by
  simp [ren, h, hx]

theorem EntSR.get {m : List Nat} {σ : List (Nat × Slot)} : ∀ {τ : List (Nat × Slot)} {t : Nat} {v : Slot}, EntSR m σ τ → lookup τ t = some v → ∃ v0, lookup σ t = some v0 ∧ SlR m v0 v
  | [], _, _, _, h => by cases h
  | (k, x) :: r, t, v, he, h => by
    obtain ⟨h1, h2⟩ := he
    simp only [lookup] at h
    split at h
    · rename_i e; subst e; injection h with h; subst h
      split at h1
      · rename_i v0 hv; exact ⟨v0, hv, h1⟩
      · exact h1.elim
    · exact EntSR.get h2 h

theorem EntHR.len {h : List (Option Blk)} : ∀ {m : List Nat} {h' : List (Option Blk)}, EntHR h m h' → m.length = h'.length
  | [], [], _ => rfl
  | [], _ :: _, he => by cases ‹Option Blk› <;> exact he.elim
  | _ :: _, [], he => he.elim
  | _ :: m, none :: h', he => by simp [EntHR.len (m := m) (h' := h') he]
  | _ :: m, some _ :: h', he => by simp [EntHR.len (m := m) (h' := h') he.2]

theorem EntHR.get {h : List (Option Blk)} : ∀ {m : List Nat} {h' : List (Option Blk)} {i : Nat} {b' : Blk}, EntHR h m h' → h'[i]? = some (some b') → ∃ j b, m[i]? = some j ∧ h[j]? = some (some b) ∧ BE b b'
  | [], [], _, _, _, hi => by simp at hi
  | [], _ :: _, _, _, he, _ => by cases ‹Option Blk› <;> exact he.elim
  | _ :: _, [], _, _, he, _ => he.elim
  | j :: m, none :: h', i, b', he, hi => by
    cases i with
    | zero => simp at hi
    | succ i =>
      obtain ⟨j', b, h1, h2, h3⟩ := EntHR.get (m := m) (h' := h') he (by simpa using hi)
      exact ⟨j', b, by simpa using h1, h2, h3⟩
  | j :: m, some b0 :: h', i, b', he, hi => by
    obtain ⟨h0, he⟩ := he
    cases i with
    | zero =>
      simp at hi; subst hi
      split at h0
      · rename_i b hb; exact ⟨j, b, by simp, hb, h0⟩
      · exact h0.elim
    | succ i =>
      obtain ⟨j', b, h1, h2, h3⟩ := EntHR.get (m := m) (h' := h') he (by simpa using hi)
      exact ⟨j', b, by simpa using h1, h2, h3⟩

theorem SlR.rd {w : World} {S S' : Nat → Prop} {φ : List (Option (Nat × Nat))} {m : List Nat} {x y : Slot} {u : Value} (hs : ∀ b, S b → S' b) (h : SlR m x y) (hr : RdSlot w S φ x u) : RdSlot w S' (ren φ m) y u := by
  have hs' : ∀ b, S b → b < w.heap.size → S' b ∧ w.heap[b]? = w.heap[b]? := fun b hb _ => ⟨hs b hb, rfl⟩
  unfold SlR at h
  split at h
  · obtain ⟨hm, rfl, rfl, rfl⟩ := h
    rcases hr with ⟨h1, h2⟩ | ⟨b, c, z, h1, h2⟩
    · exact .inl ⟨ren_get hm h1, h2⟩
    · exact .inr ⟨b, c, z, ren_get hm h1, h2⟩
  · obtain ⟨hm, rfl⟩ := h
    obtain ⟨b, z, h1, h2⟩ := hr
    exact ⟨b, z, ren_get hm h1, h2⟩
  · exact VE.rd _ _ _ h (Rd.mono hs' _ _ hr)
  · obtain ⟨hn, he⟩ := h
    obtain ⟨b, off, rfl, hr⟩ := hr
    refine ⟨b, off, rfl, fun i hi => ?_⟩
    obtain ⟨hb, x, hx, hx'⟩ := hr i (by omega)
    exact ⟨hs b hb, x, hx, VE.rd _ _ _ (he i hi) (Rd.mono hs' _ _ hx')⟩
  · exact h.elim

theorem EntR.sim {m : List Nat} {s s' : ASt} (h : EntR m s s') {w0 : World} {S0 : Nat → Prop} {a : Act} {w : World} (hs : Sim w0 S0 s a w) : Sim w0 S0 s' a w := by
  obtain ⟨φ, sim⟩ := hs
  obtain ⟨h1, hnd, h2, h3⟩ := h
  have old : ∀ (i b z : Nat) (blk' : Blk), s'.h[i]? = some (some blk') → (ren φ m)[i]? = some (some (b, z)) → ∃ j blk, m[i]? = some j ∧ s.h[j]? = some (some blk) ∧ φ[j]? = some (some (b, z)) := fun i b z blk' hi hp => by
    obtain ⟨j, b0, h4, h5, _⟩ := h3.get hi
    refine ⟨j, b0, h4, h5, ?_⟩
    have : j < φ.length := by rw [sim.heap.len]; exact (List.getElem?_eq_some_iff.1 h5).1
    obtain ⟨x, hx⟩ : ∃ x, φ[j]? = some x := ⟨_, List.getElem?_eq_getElem this⟩
    rw [ren_get h4 hx] at hp
    rw [hx, Option.some.inj hp]
  have hst : ∀ b, Stab w0 S0 s.h φ b → Stab w0 S0 s'.h (ren φ m) b := fun b hb => ⟨hb.1, fun ⟨id, blk, z, hi, hp⟩ => by
    obtain ⟨j, b0, _, h5, h6⟩ := old id b z blk hi hp
    exact hb.2 ⟨j, b0, z, h5, h6⟩⟩
  have hs : ∀ b, Stab w0 S0 s.h φ b → b < w.heap.size → Stab w0 S0 s'.h (ren φ m) b ∧ w.heap[b]? = w.heap[b]? := fun b hb _ => ⟨hst b hb, rfl⟩
  refine ⟨ren φ m, ⟨⟨by simp [ren, h3.len], sim.heap.below, fun id blk hi => ?_, fun i j bi bj b z z' hi hj hi' hj' => ?_⟩, fun t v ht => ?_, sim.defers, by rw [sim.size, h1]⟩⟩
  · obtain ⟨j, b0, h4, h5, h6⟩ := h3.get hi
    rcases sim.heap.blk j b0 h5 with ⟨h7, h8⟩ | ⟨b, cur, h7, h8, h9, h10, h11⟩
    · exact .inl ⟨ren_get h4 h7, by have := h6.2.1; omega⟩
    · refine .inr ⟨b, cur, ren_get h4 h7, h8, by rw [← h6.1]; exact h9, by have := h6.2.1; omega, fun i hi' => ?_⟩
      obtain ⟨x, hx, hr⟩ := h11 i (by have := h6.2.1; omega)
      exact ⟨x, hx, VE.rd _ _ _ (h6.2.2 i hi') (Rd.mono hs _ _ hr)⟩
  · obtain ⟨j1, b1, h4, h5, h6⟩ := old i b z bi hi hi'
    obtain ⟨j2, b2, h7, h8, h9⟩ := old j b z' bj hj hj'
    have e := sim.heap.inj j1 j2 b1 b2 b z z' h5 h8 h6 h9
    subst e
    exact (List.getElem?_inj (List.getElem?_eq_some_iff.1 h4).1 hnd).1 (h4.trans h7.symm)
  · obtain ⟨v0, h4, h5⟩ := h2.get ht
    obtain ⟨u, hu, hr⟩ := sim.slots t v0 h4
    exact ⟨u, hu, h5.rd hst hr⟩

theorem AWP.entR {N : Nat} {P : Program} {c : Code} {Q : Exit → ASt → Prop} {s : ASt} (m : List Nat) (s' : ASt) (h : EntR m s s') (h' : AWP N P c Q s') : AWP N P c Q s :=
  fun w0 S0 a w hN sim => h' w0 S0 a w hN (h.sim sim)

/-- A loop whose rounds make new blocks; m: which of a round's blocks go on. -/
theorem AWP.loop_entR {N : Nat} {P : Program} {c : Code} {Q : Exit → ASt → Prop} {s : ASt} {ι : Type} (m0 : List Nat) (inv : ι → ASt) (G : ι → Prop) (μ : ι → Nat) (x : ι) (hG : G x) (h0 : EntR m0 s (inv x))
    (h : ∀ x, G x → AWP N P c (thenQ (fun s' => ∃ y, G y ∧ μ y < μ x ∧ ∃ m, EntR m s' (inv y)) Q) (inv x)) : AWP N P (.loop c) Q s := by
  refine AWP.entR m0 _ h0 (AWP.loop inv μ G x hG fun x hx w0 S0 a w hN sim => wp_mono (h x hx w0 S0 a w hN sim) fun e a' w' ⟨s', hq, sim'⟩ => ?_)
  cases e with
  | normal =>
    obtain ⟨y, hy, hlt, m, he⟩ := hq
    exact ⟨s', ⟨y, hy, hlt, fun w0 S0 a w hs => he.sim hs⟩, sim'⟩
  | _ => exact ⟨s', hq, sim'⟩

/-- The ways through x meet again in s1. -/
theorem AWP.seq_cutR {N : Nat} {P : Program} {x y : Code} {Q : Exit → ASt → Prop} {s : ASt} (s1 : ASt) (h : AWP N P x (thenQ (fun s' => ∃ m, EntR m s' s1) Q) s) (h' : AWP N P y Q s1) : AWP N P (.seq x y) Q s := by
  refine AWP.seq fun w0 S0 a w hN sim => wp_mono (h w0 S0 a w hN sim) fun e a' w' ⟨s', hq, sim'⟩ => ?_
  cases e with
  | normal => obtain ⟨m, hq⟩ := hq; exact ⟨s1, h', EntR.sim hq sim'⟩
  | _ => exact ⟨s', hq, sim'⟩

/-- A nil slice in slot t, as a block of no cells. -/
theorem AWP.virtual {N : Nat} {P : Program} {c : Code} {Q : Exit → ASt → Prop} {s : ASt} (t : Nat) (e : TypeId) (sz : Nat) (h : lookup s.σ t = some (sc (.slice none 0 0)))
    (h' : AWP N P c Q ⟨upd s.σ t (.one (.own s.h.length sz 0 0)), s.h ++ [some ⟨e, 0, fun _ => .val undef⟩], s.nt⟩) : AWP N P c Q s := by
  rintro w0 S0 a w hN ⟨φ, sim⟩
  refine h' w0 S0 a w hN ⟨φ ++ [none], ?_⟩
  have sv := sim.virtual e
  refine ⟨sv.heap, fun t' v ht => ?_, sv.defers, sv.size⟩
  rw [lookup_upd] at ht
  split at ht
  · rename_i et; subst et; injection ht with ht; subst ht
    obtain ⟨u, hu, hr⟩ := sv.slots t' _ h
    refine ⟨u, hu, .inl ⟨?_, rfl, rfl, hr⟩⟩
    rw [List.getElem?_append_right (by rw [sim.heap.len]; exact Nat.le_refl _), sim.heap.len]; simp
  · exact sv.slots t' v ht

/-- A variable's block, pointed at by slot t, is written no more. -/
theorem AWP.freeze {N : Nat} {P : Program} {c : Code} {Q : Exit → ASt → Prop} {s : ASt} (t id : Nat) {b : Blk} (ht : lookup s.σ t = some (.one (.ptr id 0))) (hb : s.h[id]? = some (some b))
    (h' : AWP N P c Q ⟨upd s.σ t (.one (.pv (.pin b.n b.f))), s.h.set id none, s.nt⟩) : AWP N P c Q s := by
  rintro w0 S0 a w hN ⟨φ, sim⟩
  refine h' w0 S0 a w hN ⟨φ, ?_⟩
  obtain ⟨sv, hst⟩ := sim.letgo id
  refine ⟨sv.heap, fun t' v hv => ?_, sv.defers, sv.size⟩
  rw [lookup_upd] at hv
  split at hv
  · rename_i et; subst et; injection hv with hv; subst hv
    obtain ⟨u, hu, b', z, hφ, rfl⟩ := sim.slots t' _ ht
    obtain ⟨cur, _, hB, hcur, hn, hx⟩ := sim.blkAt hb hφ
    refine ⟨_, hu, b', 0, rfl, fun i hi => ⟨⟨.inr hB, ?_⟩, ?_⟩⟩
    · rintro ⟨i, x, z', h1, h2⟩
      by_cases ei : id = i
      · subst ei
        have := (List.getElem?_eq_some_iff.1 hb).1
        simp [this] at h1
      · simp only [] at h1
        rw [List.getElem?_set_ne ei] at h1
        exact ei (sim.heap.inj id i b x b' _ _ hb h1 hφ h2)
    · obtain ⟨x, hx1, hx2⟩ := hx i hi
      exact ⟨x, by rw [Nat.zero_add]; exact cell_of_blk hcur hx1, Rd.mono (fun b hb _ => ⟨hst b hb, rfl⟩) _ _ hx2⟩
  · exact sv.slots t' v hv

/-- A list grown by one element reads as one element more of g. -/
theorem grow_ve {k i : Nat} {g : Nat → V} {v z : V} (hi : i < k + 1) (h : VE v (g k)) : VE (if i < k then g i else if i - k = 0 then v else z) (g i) := by
  by_cases h1 : i < k
  · rw [if_pos h1]; exact VE.rfl' _
  · rw [if_neg h1, if_pos (by omega), show i = k by omega]; exact h

theorem grow_be {e : TypeId} {k : Nat} {g : Nat → V} {v z : V} (h : VE v (g k)) : BE ⟨e, k + 1, fun i => if i < k then g i else if i - k = 0 then v else z⟩ ⟨e, k + 1, g⟩ :=
  ⟨rfl, Nat.le_refl _, fun _ hi => grow_ve hi h⟩

end Go.Proofs.Ytpolbgenoicckaa
