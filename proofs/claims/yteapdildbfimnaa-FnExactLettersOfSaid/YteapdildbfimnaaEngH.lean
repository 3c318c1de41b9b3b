/- A state in other words, its blocks renamed or let go; a nil slice as a block of no cells. No conditions. -/
import Derived.Test.YteapdildbfimnaaEngE
import Derived.StillTail
import Derived.Lib.Walk
import Derived.Lib.SlicesMore
namespace Go.Proofs.Yteapdildbfimnaa
set_option linter.unusedSimpArgs false
set_option linter.unusedVariables false
open Go.RowKit

/-- A slot that reads as another one's words; m: a block's new number to its old one. -/
def SlR (m : List Nat) : Slot → Slot → Prop
  | .one (.own id sz off len), .one (.own id' sz' off' len') => m[id']? = some id ∧ sz = sz' ∧ off = off' ∧ len = len'
  | .one (.ptr id off), .one (.ptr id' off') => m[id']? = some id ∧ off = off'
  | .one (.pv a), .one (.pv b) => VE a b
  | .one (.pin n f), .one (.pin n' g) => n' ≤ n ∧ ∀ i, i < n' → VE (f i) (g i)
  | .one (.mp b L), .one (.mp b' L') => b = b' ∧ L = L'
  | _, _ => False

def EntSR (m : List Nat) (σ : List (Nat × Slot)) : List (Nat × Slot) → Prop
  | [] => True
  | (t, v) :: r => (match lookup σ t with | some v0 => SlR m v0 v | none => False) ∧ EntSR m σ r

def EntHR (h : List (Option Blk)) : List Nat → List (Option Blk) → Prop
  | [], [] => True
  | _ :: m, none :: h' => EntHR h m h'
  | j :: m, some b' :: h' => (match h[j]? with | some (some b) => BE b b' | _ => False) ∧ EntHR h m h'
  | _, _ => False

def EntR (m : List Nat) (s s' : ASt) : Prop := s'.nt = s.nt ∧ m.Nodup ∧ EntSR m s.σ s'.σ ∧ EntHR s.h m s'.h

/-- Where the renamed blocks lie. -/
def ren (φ : List (Option (Nat × Nat))) (m : List Nat) : List (Option (Nat × Nat)) := m.map fun j => (φ[j]?).join

theorem ren_get {φ : List (Option (Nat × Nat))} {m : List Nat} {i j : Nat} {x : Option (Nat × Nat)} (h : m[i]? = some j) (hx : φ[j]? = some x) : (ren φ m)[i]? = some x := by
  simp [ren, h, hx]

theorem EntSR.get {m : List Nat} {σ : List (Nat × Slot)} : ∀ {τ : List (Nat × Slot)} {t : Nat} {v : Slot}, EntSR m σ τ → lookup τ t = some v → ∃ v0, lookup σ t = some v0 ∧ SlR m v0 v
  | [], _, _, _, h => by cases h
  | (k, x) :: r, t, v, he, h => by
    obtain ⟨h1, h2⟩ := he
    simp only [lookup] at h
    split at h
    · rename_i e; subst e; injection h with h; subst h
      split at h1
      · rename_i v0 hv; exact ⟨v0, hv, h1⟩
      · exact h1.elim
    · exact EntSR.get h2 h

theorem EntHR.len {h : List (Option Blk)} : ∀ {m : List Nat} {h' : List (Option Blk)}, EntHR h m h' → m.length = h'.length
  | [], [], _ => rfl
  | [], _ :: _, he => by cases ‹Option Blk› <;> exact he.elim
  | _ :: _, [], he => he.elim
  | _ :: m, none :: h', he => by simp [EntHR.len (m := m) (h' := h') he]
  | _ :: m, some _ :: h', he => by simp [EntHR.len (m := m) (h' := h') he.2]

theorem EntHR.get {h : List (Option Blk)} : ∀ {m : List Nat} {h' : List (Option Blk)} {i : Nat} {b' : Blk}, EntHR h m h' → h'[i]? = some (some b') → ∃ j b, m[i]? = some j ∧ h[j]? = some (some b) ∧ BE b b'
  | [], [], _, _, _, hi => by simp at hi
  | [], _ :: _, _, _, he, _ => by cases ‹Option Blk› <;> exact he.elim
  | _ :: _, [], _, _, he, _ => he.elim
  | j :: m, none :: h', i, b', he, hi => by
    cases i with
    | zero => simp at hi
    | succ i =>
      obtain ⟨j', b, h1, h2, h3⟩ := EntHR.get (m := m) (h' := h') he (by simpa using hi)
      exact ⟨j', b, by simpa using h1, h2, h3⟩
  | j :: m, some b0 :: h', i, b', he, hi => by
    obtain ⟨h0, he⟩ := he
    cases i with
    | zero =>
      simp at hi; subst hi
      split at h0
      · rename_i b hb; exact ⟨j, b, by simp, hb, h0⟩
      · exact h0.elim
    | succ i =>
      obtain ⟨j', b, h1, h2, h3⟩ := EntHR.get (m := m) (h' := h') he (by simpa using hi)
      exact ⟨j', b, by simpa using h1, h2, h3⟩

theorem SlR.rd {w : World} {S S' : Nat → Prop} {φ : List (Option (Nat × Nat))} {m : List Nat} {x y : Slot} {u : Value} (hs : ∀ b, S b → S' b) (h : SlR m x y) (hr : RdSlot w S φ x u) : RdSlot w S' (ren φ m) y u := by
  have hs' : ∀ b, S b → b < w.heap.size → S' b ∧ w.heap[b]? = w.heap[b]? := fun b hb _ => ⟨hs b hb, rfl⟩
  unfold SlR at h
  split at h
  · obtain ⟨hm, rfl, rfl, rfl⟩ := h
    rcases hr with ⟨h1, h2⟩ | ⟨b, c, z, h1, h2⟩
    · exact .inl ⟨ren_get hm h1, h2⟩
    · exact .inr ⟨b, c, z, ren_get hm h1, h2⟩
  · obtain ⟨hm, rfl⟩ := h
    obtain ⟨b, z, h1, h2⟩ := hr
    exact ⟨b, z, ren_get hm h1, h2⟩
  · exact VE.rd _ _ _ h (Rd.mono hs' _ _ hr)
  · obtain ⟨hn, he⟩ := h
    obtain ⟨b, off, rfl, hr⟩ := hr
    refine ⟨b, off, rfl, fun i hi => ?_⟩
    obtain ⟨hb, x, hx, hx'⟩ := hr i (by omega)
    exact ⟨hs b hb, x, hx, VE.rd _ _ _ (he i hi) (Rd.mono hs' _ _ hx')⟩
  · obtain ⟨rfl, rfl⟩ := h
    exact ⟨hr.1, hs _ hr.2.1, hr.2.2⟩
  · exact h.elim

theorem EntR.sim {m : List Nat} {s s' : ASt} (h : EntR m s s') {w0 : World} {S0 : Nat → Prop} {a : Act} {w : World} (hs : Sim w0 S0 s a w) : Sim w0 S0 s' a w := by
  obtain ⟨φ, sim⟩ := hs
  obtain ⟨h1, hnd, h2, h3⟩ := h
  have old : ∀ (i b z : Nat) (blk' : Blk), s'.h[i]? = some (some blk') → (ren φ m)[i]? = some (some (b, z)) → ∃ j blk, m[i]? = some j ∧ s.h[j]? = some (some blk) ∧ φ[j]? = some (some (b, z)) := fun i b z blk' hi hp => by
    obtain ⟨j, b0, h4, h5, _⟩ := h3.get hi
    refine ⟨j, b0, h4, h5, ?_⟩
    have : j < φ.length := by rw [sim.heap.len]; exact (List.getElem?_eq_some_iff.1 h5).1
    obtain ⟨x, hx⟩ : ∃ x, φ[j]? = some x := ⟨_, List.getElem?_eq_getElem this⟩
    rw [ren_get h4 hx] at hp
    rw [hx, Option.some.inj hp]
  have hst : ∀ b, Stab w0 S0 s.h φ b → Stab w0 S0 s'.h (ren φ m) b := fun b hb => ⟨hb.1, fun ⟨id, blk, z, hi, hp⟩ => by
    obtain ⟨j, b0, _, h5, h6⟩ := old id b z blk hi hp
    exact hb.2 ⟨j, b0, z, h5, h6⟩⟩
  have hs : ∀ b, Stab w0 S0 s.h φ b → b < w.heap.size → Stab w0 S0 s'.h (ren φ m) b ∧ w.heap[b]? = w.heap[b]? := fun b hb _ => ⟨hst b hb, rfl⟩
  refine ⟨ren φ m, ⟨⟨by simp [ren, h3.len], sim.heap.below, fun id blk hi => ?_, fun i j bi bj b z z' hi hj hi' hj' => ?_⟩, fun t v ht => ?_, sim.defers, by rw [sim.size, h1]⟩⟩
  · obtain ⟨j, b0, h4, h5, h6⟩ := h3.get hi
    rcases sim.heap.blk j b0 h5 with ⟨h7, h8⟩ | ⟨b, cur, h7, h8, h9, h10, h11⟩
    · exact .inl ⟨ren_get h4 h7, by have := h6.2.1; omega⟩
    · refine .inr ⟨b, cur, ren_get h4 h7, h8, by rw [← h6.1]; exact h9, by have := h6.2.1; omega, fun i hi' => ?_⟩
      obtain ⟨x, hx, hr⟩ := h11 i (by have := h6.2.1; omega)
      exact ⟨x, hx, VE.rd _ _ _ (h6.2.2 i hi') (Rd.mono hs _ _ hr)⟩
  · obtain ⟨j1, b1, h4, h5, h6⟩ := old i b z bi hi hi'
    obtain ⟨j2, b2, h7, h8, h9⟩ := old j b z' bj hj hj'
    have e := sim.heap.inj j1 j2 b1 b2 b z z' h5 h8 h6 h9
    subst e
    exact (List.getElem?_inj (List.getElem?_eq_some_iff.1 h4).1 hnd).1 (h4.trans h7.symm)
  · obtain ⟨v0, h4, h5⟩ := h2.get ht
    obtain ⟨u, hu, hr⟩ := sim.slots t v0 h4
    exact ⟨u, hu, h5.rd hst hr⟩

theorem AWP.entR [Cx] {N : Nat} {P : Program} {c : Code} {Q : Exit → ASt → Prop} {s : ASt} (m : List Nat) (s' : ASt) (h : EntR m s s') (h' : AWP N P c Q s') : AWP N P c Q s :=
  fun w0 S0 a w hN ⟨w1, hR, sim⟩ => h' w0 S0 a w hN ⟨w1, hR, h.sim sim⟩

/-- A loop whose rounds make new blocks; m: which of a round's blocks go on. -/
theorem AWP.loop_entR [Cx] {N : Nat} {P : Program} {c : Code} {Q : Exit → ASt → Prop} {s : ASt} {ι : Type} (m0 : List Nat) (inv : ι → ASt) (G : ι → Prop) (μ : ι → Nat) (x : ι) (hG : G x) (h0 : EntR m0 s (inv x))
    (h : ∀ x, G x → AWP N P c (thenQ (fun s' => ∃ y, G y ∧ μ y < μ x ∧ ∃ m, EntR m s' (inv y)) Q) (inv x)) : AWP N P (.loop c) Q s := by
  refine AWP.entR m0 _ h0 (AWP.loop inv μ G x hG fun x hx w0 S0 a w hN sim => wp_mono (h x hx w0 S0 a w hN sim) fun e a' w' ⟨s', hq, sim'⟩ => ?_)
  cases e with
  | normal =>
    obtain ⟨y, hy, hlt, m, he⟩ := hq
    exact ⟨s', ⟨y, hy, hlt, fun w0 S0 a w hs => he.sim hs⟩, sim'⟩
  | _ => exact ⟨s', hq, sim'⟩

/-- The ways through x meet again in s1. -/
theorem AWP.seq_cutR [Cx] {N : Nat} {P : Program} {x y : Code} {Q : Exit → ASt → Prop} {s : ASt} (s1 : ASt) (h : AWP N P x (thenQ (fun s' => ∃ m, EntR m s' s1) Q) s) (h' : AWP N P y Q s1) : AWP N P (.seq x y) Q s := by
  refine AWP.seq fun w0 S0 a w hN sim => wp_mono (h w0 S0 a w hN sim) fun e a' w' ⟨s', hq, sim'⟩ => ?_
  cases e with
  | normal => obtain ⟨m, hq⟩ := hq; obtain ⟨w1, hR, sim'⟩ := sim'; exact ⟨s1, h', w1, hR, EntR.sim hq sim'⟩
  | _ => exact ⟨s', hq, sim'⟩

/-- A nil slice in slot t, as a block of no cells. -/
theorem AWP.virtual [Cx] {N : Nat} {P : Program} {c : Code} {Q : Exit → ASt → Prop} {s : ASt} (t : Nat) (e : TypeId) (sz : Nat) (h : lookup s.σ t = some (sc (.slice none 0 0)))
    (h' : AWP N P c Q ⟨upd s.σ t (.one (.own s.h.length sz 0 0)), s.h ++ [some ⟨e, 0, fun _ => .val undef⟩], s.nt⟩) : AWP N P c Q s := by
  refine AWP.of_step fun w0 S0 φ a w hN sim => ⟨_, φ ++ [none], h', ?_⟩
  have sv := sim.virtual e
  refine ⟨sv.heap, fun t' v ht => ?_, sv.defers, sv.size⟩
  rw [lookup_upd] at ht
  split at ht
  · rename_i et; subst et; injection ht with ht; subst ht
    obtain ⟨u, hu, hr⟩ := sv.slots t' _ h
    refine ⟨u, hu, .inl ⟨?_, rfl, rfl, hr⟩⟩
    rw [List.getElem?_append_right (by rw [sim.heap.len]; exact Nat.le_refl _), sim.heap.len]; simp
  · exact sv.slots t' v ht

/-- A variable's block, pointed at by slot t, is written no more. -/
theorem AWP.freeze [Cx] {N : Nat} {P : Program} {c : Code} {Q : Exit → ASt → Prop} {s : ASt} (t id : Nat) {b : Blk} (ht : lookup s.σ t = some (.one (.ptr id 0))) (hb : s.h[id]? = some (some b))
    (h' : AWP N P c Q ⟨upd s.σ t (.one (.pv (.pin b.n b.f))), s.h.set id none, s.nt⟩) : AWP N P c Q s := by
  refine AWP.of_step fun w0 S0 φ a w hN sim => ⟨_, φ, h', ?_⟩
  obtain ⟨sv, hst⟩ := sim.letgo id
  refine ⟨sv.heap, fun t' v hv => ?_, sv.defers, sv.size⟩
  rw [lookup_upd] at hv
  split at hv
  · rename_i et; subst et; injection hv with hv; subst hv
    obtain ⟨u, hu, b', z, hφ, rfl⟩ := sim.slots t' _ ht
    obtain ⟨cur, _, hB, hcur, hn, hx⟩ := sim.blkAt hb hφ
    refine ⟨_, hu, b', 0, rfl, fun i hi => ⟨⟨.inr hB, ?_⟩, ?_⟩⟩
    · rintro ⟨i, x, z', h1, h2⟩
      by_cases ei : id = i
      · subst ei
        have := (List.getElem?_eq_some_iff.1 hb).1
        simp [this] at h1
      · simp only [] at h1
        rw [List.getElem?_set_ne ei] at h1
        exact ei (sim.heap.inj id i b x b' _ _ hb h1 hφ h2)
    · obtain ⟨x, hx1, hx2⟩ := hx i hi
      exact ⟨x, by rw [Nat.zero_add]; exact cell_of_blk hcur hx1, Rd.mono (fun b hb _ => ⟨hst b hb, rfl⟩) _ _ hx2⟩
  · exact sv.slots t' v hv

/-- A list grown by one element reads as one element more of g. -/
theorem grow_ve {k i : Nat} {g : Nat → V} {v z : V} (hi : i < k + 1) (h : VE v (g k)) : VE (if i < k then g i else if i - k = 0 then v else z) (g i) := by
  by_cases h1 : i < k
  · rw [if_pos h1]; exact VE.rfl' _
  · rw [if_neg h1, if_pos (by omega), show i = k by omega]; exact h

theorem grow_be {e : TypeId} {k : Nat} {g : Nat → V} {v z : V} (h : VE v (g k)) : BE ⟨e, k + 1, fun i => if i < k then g i else if i - k = 0 then v else z⟩ ⟨e, k + 1, g⟩ :=
  ⟨rfl, Nat.le_refl _, fun _ hi => grow_ve hi h⟩

set_option linter.unusedSimpArgs false
set_option linter.unusedVariables false
open Go.RowKit

section
variable {P : Program} {w0 : World} {S0 : Nat → Prop}

/-- Some operations of a region, then the rest of them. -/
theorem evOps_then {l tl : List Oper} : ∀ (os : List Oper) {K : ASt → Prop} {s : ASt} {φ : List (Option (Nat × Nat))} {a : Act} {w : World}, SimAt w0 S0 s φ a w → evOps P false l os K s → ∀ {Q : Exit → Act → World → Prop},
    (∀ s' a' w', K s' → Sim w0 S0 s' a' w' → wpList P l.toArray Q tl a' w') → wpList P l.toArray Q (os ++ tl) a w
  | [], K, s, φ, a, w, sim, h, Q, hn => hn _ _ _ h ⟨φ, sim⟩
  | o :: os, K, s, φ, a, w, sim, h, Q, hn => by
    have hrest : ∀ s' a' w', evOps P false l os K s' → Sim w0 S0 s' a' w' → wpList P l.toArray Q (os ++ tl) a' w' := fun s' a' w' h' ⟨φ', sim'⟩ => evOps_then os sim' h' hn
    have hskip : ∀ s', SimAt w0 S0 s' φ a w → skipOp o (evOps P false l os K) s' → wpList P l.toArray Q (os ++ tl) (a.put o.dst undef) w := fun s' sim' h' => by
      unfold skipOp at h'
      split at h'
      · rename_i d hd
        rw [hd]
        exact hrest _ _ _ h'.2 ⟨φ, sim'.put h'.1 rfl⟩
      · rename_i hd
        rw [hd]
        exact hrest _ _ _ h' ⟨φ, sim'⟩
    unfold evOps at h
    show wpList P l.toArray Q (o :: (os ++ tl)) a w
    split at h
    · rename_i hg
      unfold wpList
      rw [if_pos (by simp [Region.wanted, hg])]
      exact .inl (evOp_plain sim h hrest)
    · rename_i j want hg
      split at h
      · rename_i d hd
        split at h
        · rename_i b hb
          have hy := yielded_bool sim hd hb
          have say : ∀ c, b = c → SimAt w0 S0 (putS s d (sc (.bool c))) φ a w := fun c e => sim.say (by rw [hb, e])
          unfold wpList
          by_cases hbw : b = want
          · rw [if_pos (by simp [Region.wanted, hg, hy, hbw])]
            exact .inl (evOp_plain (say _ hbw) (h.1 hbw) hrest)
          · rw [if_neg (by simp [Region.wanted, hg, hy, hbw])]
            have hb' : b = !want := by cases b <;> cases want <;> simp_all
            exact hskip _ (say _ hb') (h.2 hb')
        · rename_i x hb
          have hy := yielded_bool sim hd hb
          unfold wpList
          rw [if_neg (by simp [Region.wanted, hg, hy])]
          exact hskip _ sim h
        · exact h.elim
      · exact h.elim

/-- What an operation with a rule of its own does. -/
def OpRule (N : Nat) (P : Program) (o : Oper) (X : ASt → (ASt → Prop) → Prop) : Prop :=
  o.guard = none ∧ ∀ (w0 : World) (S0 : Nat → Prop) (s : ASt) (φ : List (Option (Nat × Nat))) (a : Act) (w : World) (K : ASt → Prop) (next : Act → World → Prop) (Q : Exit → Act → World → Prop), w0.heap.size = N → SimAt w0 S0 s φ a w → X s K →
    (∀ s' a' w', K s' → Sim w0 S0 s' a' w' → next a' w') → o.wp P a w next Q

theorem AWP.region_rule [Cx] {N : Nat} {id : Nat} {o : Oper} {os1 os2 : List Oper} {X : ASt → (ASt → Prop) → Prop} {Q : Exit → ASt → Prop} {s : ASt} (hX : OpRule N P o X)
    (h : evOps P false (os1 ++ o :: os2) os1 (fun s' => X s' (evOps P false (os1 ++ o :: os2) os2 (Q .normal))) s) : AWP N P (.region id (os1 ++ o :: os2).toArray false) Q s := by
  refine AWP.of0 ?_
  rintro w0 S0 a w hN ⟨φ, sim⟩
  refine wp_region_lit (evOps_then os1 sim h fun s' a' w' hK ⟨φ', sim'⟩ => ?_)
  unfold wpList
  rw [if_pos (by simp [Region.wanted, hX.1])]
  refine .inl (hX.2 w0 S0 s' φ' a' w' _ _ _ hN sim' hK fun s'' a'' w'' hK' ⟨φ'', sim''⟩ => ?_)
  exact evOps_plain os2 sim'' hK' fun s3 a3 w3 hK3 sim3 => ⟨s3, hK3, sim3⟩

/-- Is a slice nil? -/
def eqNilK (s : ASt) (x : Operand) (d : Nat) (K : ASt → Prop) : Prop :=
  match opd s x with
  | some (.one (.pv (.seq sz n _))) => d < s.nt ∧ ∀ b : Bool, (b = true → n * sz = 0) → K (putS s d (sc (.bool b)))
  | _ => False

theorem eqNil_rule {N : Nat} {x : Operand} {d t t' ty : Nat} {pos : String} {after : Array Edge} {e : TypeId} (ht : P.underlying t = some (.slice e)) :
    OpRule N P ⟨some d, .binOp .eql t x (.const (.slice none 0 0)) t', ty, pos, after, none⟩ (fun s K => eqNilK s x d K) := by
  refine ⟨rfl, fun w0 S0 s φ a w K next Q hN sim h hn => ?_⟩
  replace h : eqNilK s x d K := h
  unfold eqNilK at h
  split at h
  · rename_i sz n f hx
    obtain ⟨hd, h⟩ := h
    obtain ⟨A, c, ev, _, hp⟩ := sim.opd hx
    have hrun : (execOp a.eval ⟨some d, .binOp .eql t x (.const (.slice none 0 0)) t', ty, pos, after, none⟩).run P w = .ok (.value (.bool A.isNone)) w := by
      have hg : eqGuard .eql t x (.const (.slice none 0 0)) (.slice A n c) (.slice none 0 0) = pure () := rfl
      have hq := Lib.run_eql_slice_nil (P := P) w t e A n c 0 0 ht
      unfold execOp
      simp only [ev, show a.eval (.const (.slice none 0 0)) = .slice none 0 0 from rfl, hg, Sem.run_bind, Sem.run_pure, Result.andThen_ok, hq]
    unfold Oper.wp
    rw [hrun, Oper.upon_value]
    refine hn _ _ _ (h A.isNone fun hb => ?_) ⟨φ, sim.put hd rfl⟩
    rcases Nat.eq_zero_or_pos (n * sz) with h0 | h0
    · exact h0
    · obtain ⟨b, off, rfl, _⟩ := hp h0; cases hb
  · exact h.elim

/-- No call of a function. -/
def noCall (o : Oper) : Bool := match o.op with | .call ⟨.value _, _, _⟩ => false | _ => true

theorem evOp_still {o : Oper} {K : ASt → Prop} {s : ASt} {φ : List (Option (Nat × Nat))} {a : Act} {w : World} (sim : SimAt w0 S0 s φ a w) (hc : noCall o = true) (h : evOp P true o K s) {next : Act → Prop}
    (hn : ∀ s' a', K s' → SimAt w0 S0 s' φ a' w → next a') : o.still P a w next := by
  obtain ⟨dst, op, ty, pos, after, guard⟩ := o
  unfold evOp at h
  split at h
  · rename_i f args ts d hop hdst
    simp only at hop hdst
    subst hop hdst
    simp [noCall] at hc
  · rename_i t args ts d hop hdst
    simp only at hop hdst
    subst hop hdst
    simp [noCall] at hc
  · exact absurd h.1 (by simp)
  · exact absurd h.1 (by simp)
  · exact absurd h.1 (by simp)
  · exact absurd h.1 (by simp)
  · exact absurd h.1 (by simp)
  · exact absurd h.1 (by simp)
  · exact absurd h.1 (by simp)
  · rename_i d hdst _ _ _ _ _ _ _ _
    simp only at hdst
    subst hdst
    obtain ⟨r, v, hK, hr, hrun⟩ := evQ_ok (o := ⟨some d, op, ty, pos, after, guard⟩) h.2 sim
    unfold Oper.still
    rw [hrun w (.inr (Below.refl _ _)), Oper.stillUpon_value]
    exact hn _ _ hK (sim.put h.1 hr)
  · exact h.elim

theorem evOps_still {l : List Oper} : ∀ (os : List Oper) {K : ASt → Prop} {s : ASt} {φ : List (Option (Nat × Nat))} {a : Act} {w : World}, SimAt w0 S0 s φ a w → os.all noCall = true → evOps P true l os K s → ∀ {Q : Act → Prop},
    (∀ s' a', K s' → SimAt w0 S0 s' φ a' w → Q a') → wpStill P l.toArray w Q os a
  | [], K, s, φ, a, w, sim, _, h, Q, hn => hn _ _ h sim
  | o :: os, K, s, φ, a, w, sim, hc, h, Q, hn => by
    simp only [List.all_cons, Bool.and_eq_true] at hc
    have hrest : ∀ s' a', evOps P true l os K s' → SimAt w0 S0 s' φ a' w → wpStill P l.toArray w Q os a' := fun s' a' h' sim' => evOps_still os sim' hc.2 h' hn
    have hskip : ∀ s', SimAt w0 S0 s' φ a w → skipOp o (evOps P true l os K) s' → wpStill P l.toArray w Q os (a.put o.dst undef) := fun s' sim' h' => by
      unfold skipOp at h'
      split at h'
      · rename_i d hd
        rw [hd]
        exact hrest _ _ h'.2 (sim'.put h'.1 rfl)
      · rename_i hd
        rw [hd]
        exact hrest _ _ h' sim'
    unfold evOps at h
    split at h
    · rename_i hg
      unfold wpStill
      rw [if_pos (by simp [Region.wanted, hg])]
      exact evOp_still sim hc.1 h hrest
    · rename_i j want hg
      split at h
      · rename_i d hd
        split at h
        · rename_i b hb
          have hy := yielded_bool sim hd hb
          have say : ∀ c, b = c → SimAt w0 S0 (putS s d (sc (.bool c))) φ a w := fun c e => sim.say (by rw [hb, e])
          unfold wpStill
          by_cases hbw : b = want
          · rw [if_pos (by simp [Region.wanted, hg, hy, hbw])]
            exact evOp_still (say _ hbw) hc.1 (h.1 hbw) hrest
          · rw [if_neg (by simp [Region.wanted, hg, hy, hbw])]
            have hb' : b = !want := by cases b <;> cases want <;> simp_all
            exact hskip _ (say _ hb') (h.2 hb')
        · rename_i x hb
          have hy := yielded_bool sim hd hb
          unfold wpStill
          rw [if_neg (by simp [Region.wanted, hg, hy])]
          exact hskip _ sim h
        · exact h.elim
      · exact h.elim

/-- A region whose order is open, but for its last operations, n and on. -/
theorem AWP.drawn_tail [Cx] {N : Nat} {id : Nat} {ops : List Oper} {Q : Exit → ASt → Prop} {s : ASt} (n : Nat) (hm : P.follows .mixedOrders = true) (hB : Region.lexTailB .any ops.toArray n = true) (hc : (ops.take n).all noCall = true)
    (h : evOps P true ops (ops.take n) (fun s' => evOps P false ops (ops.drop n) (Q .normal) s') s) : AWP N P (.region id ops.toArray true) Q s := by
  refine AWP.of0 ?_
  rintro w0 S0 a w hN ⟨φ, sim⟩
  have sim1 : SimAt w0 S0 s φ a { w with drawn := w.drawn + 1 } := sim.after ⟨rfl, rfl, rfl, Nat.le_refl _, fun _ _ => rfl⟩
  refine wp_region_still_tail n hm hB (evOps_still (ops.take n) sim1 hc h fun s' a' hK sim' => ?_)
  exact evOps_plain (ops.drop n) sim' hK fun s3 a3 w3 hK3 sim3 => ⟨s3, hK3, sim3⟩

/-- All but block b is as it was. -/
structure AllBut (b : Nat) (w w' : World) : Prop where
  os : w'.os = w.os
  tape : w'.tape = w.tape
  output : w'.output = w.output
  size : w.heap.size ≤ w'.heap.size
  oth : ∀ k, k < w.heap.size → k ≠ b → w'.heap[k]? = w.heap[k]?

/-- A function that writes the block of its first argument, a slice of n elements from the block's head, and hands a scalar back. -/
structure FnMk (P : Program) (f : FuncId) (n : Nat) (blk blk' : Blk) (u v : Value) : Prop where
  entry : ∀ (args : Array Value) (w : World), (callFunc f args).run P w = .ok (.enter f args) w
  elem : blk'.elem = blk.elem
  le : blk'.n ≤ blk.n
  runsNil : n = 0 → ∀ w, Calls P f #[.slice none 0 0, u] w fun e w' => e = .returned v ∧ Below w.heap.size w w'
  runsAt : ∀ (w : World) (b c : Nat) (cur : Array Value), w.heap[b]? = some (.cells cur blk.elem (0, 0)) → blk.n ≤ cur.size → Calls P f #[.slice (some ⟨b, 0, none⟩) n c, u] w fun e w' =>
    e = .returned v ∧ AllBut b w w' ∧ ∃ cur' : Array Value, w'.heap[b]? = some (.cells cur' blk.elem (0, 0)) ∧ cur'.size = cur.size ∧ ∀ i, i < blk'.n → ∃ x, cur'[i]? = some x ∧ blk'.f i = .val x

def markK (P : Program) (f : FuncId) (x y : Operand) (d : Nat) (s : ASt) (K : ASt → Prop) : Prop :=
  ∃ (id sz n : Nat) (blk blk' : Blk) (u v : Value), opd s x = some (.one (.own id sz 0 n)) ∧ s.h[id]? = some (some blk) ∧ opd s y = some (sc u) ∧ d < s.nt ∧ FnMk P f n blk blk' u v ∧
    K ⟨upd s.σ d (sc v), s.h.set id (some blk'), s.nt⟩

/-- A block that is not there is said to be another one that is not there. -/
theorem SimAt.unsaid {s : ASt} {φ : List (Option (Nat × Nat))} {a : Act} {w : World} (sim : SimAt w0 S0 s φ a w) {id : Nat} {blk blk' : Blk} (hi : s.h[id]? = some (some blk)) (hφ : φ[id]? = some none) (hn : blk'.n = 0) :
    SimAt w0 S0 { s with h := s.h.set id (some blk') } φ a w := by
  have hlt := (List.getElem?_eq_some_iff.1 hi).1
  have hs : ∀ k, Stab w0 S0 s.h φ k → k < w.heap.size → Stab w0 S0 (s.h.set id (some blk')) φ k ∧ w.heap[k]? = w.heap[k]? := fun k h1 _ => ⟨⟨h1.1, fun h => h1.2 ((live_set hi k).1 h)⟩, rfl⟩
  refine ⟨⟨by simp [sim.heap.len], sim.heap.below, fun i x hi' => ?_, fun i j bi bj bb z1 z2 h1 h2 h3 h4 => ?_⟩, fun t v ht => ?_, sim.defers, sim.size⟩
  · by_cases e : id = i
    · subst e
      have : x = blk' := by simpa [hlt] using hi'.symm
      subst this
      exact .inl ⟨hφ, hn⟩
    · have hi'' : s.h[i]? = some (some x) := by rw [← hi']; exact (List.getElem?_set_ne e).symm
      rcases sim.heap.blk i x hi'' with h1 | ⟨b', c, h1, h2, h3, h4, h5⟩
      · exact .inl h1
      · refine .inr ⟨b', c, h1, h2, h3, h4, fun j hj => ?_⟩
        obtain ⟨y, hy, hr⟩ := h5 j hj
        exact ⟨y, hy, Rd.mono hs _ _ hr⟩
  · have g : ∀ (k : Nat) (bk : Blk), (s.h.set id (some blk'))[k]? = some (some bk) → ∃ bk', s.h[k]? = some (some bk') := fun k bk hk => by
      by_cases e : id = k
      · subst e; exact ⟨blk, hi⟩
      · rw [List.getElem?_set_ne e] at hk; exact ⟨bk, hk⟩
    obtain ⟨b1, h1'⟩ := g i bi h1
    obtain ⟨b2, h2'⟩ := g j bj h2
    exact sim.heap.inj i j b1 b2 bb z1 z2 h1' h2' h3 h4
  · obtain ⟨u, hu, hr⟩ := sim.slots t v ht
    exact ⟨u, hu, RdSlot.mono hs (fun _ _ h => h) v u hr⟩

theorem mark_rule {N : Nat} {f : FuncId} {x y : Operand} {d ty : Nat} {ts : Array TypeId} {pos : String} {after : Array Edge} :
    OpRule N P ⟨some d, .call ⟨.value (.func f), #[x, y], ts⟩, ty, pos, after, none⟩ (fun s K => markK P f x y d s K) := by
  refine ⟨rfl, fun w0 S0 s φ a w K next Q hN sim h hn => ?_⟩
  obtain ⟨id, sz, n, blk, blk', u, v, hx, hb, hy, hd, hf, hK⟩ := h
  have ey : a.eval y = u := sim.opd hy
  have hrun : (execOp a.eval ⟨some d, .call ⟨.value (.func f), #[x, y], ts⟩, ty, pos, after, none⟩).run P w = .ok (.enter f #[a.eval x, u]) w := by
    have e : execOp a.eval ⟨some d, .call ⟨.value (.func f), #[x, y], ts⟩, ty, pos, after, none⟩ = callFunc f (#[] ++ #[x, y].map a.eval ++ #[]) := rfl
    rw [e, hf.entry]
    congr 2
    rw [← Array.toList_inj]
    simp [ey]
  unfold Oper.wp
  rw [hrun, Oper.upon_enter]
  rcases sim.opd hx with ⟨hφ, _, hl, ev⟩ | ⟨b, c, z, hφ, ev, hc, _, _⟩
  · rw [ev]
    subst hl
    have hbn : blk.n = 0 := by
      rcases sim.heap.blk id blk hb with ⟨_, h0⟩ | ⟨b, cur, h0, _⟩
      · exact h0
      · rw [hφ] at h0; cases h0
    refine (hf.runsNil rfl w).mono ?_
    rintro e w' ⟨rfl, hbel⟩
    refine hn _ _ _ hK ⟨φ, ?_⟩
    exact ((sim.after hbel).unsaid hb hφ (by have := hf.le; omega)).put hd rfl
  · rw [ev]
    obtain ⟨cur, hz, hB, hcur, hbn, _⟩ := sim.blkAt hb hφ
    refine (hf.runsAt w b c cur hcur hbn).mono ?_
    rintro e w' ⟨rfl, hall, cur', hcur', hsz, hcells⟩
    refine hn _ _ _ hK ⟨φ, ?_⟩
    refine (sim.write hb hφ (blk' := blk') hcur' (by omega) hall.os hall.tape hall.output hall.size hall.oth hf.elem (by have := hf.le; omega) fun i hi => ?_).put hd rfl
    obtain ⟨x, h1, h2⟩ := hcells i hi
    exact ⟨x, h1, by rw [h2]; rfl⟩

/-- A region that moves two operands, marks, and assigns. -/
theorem AWP.region_mark [Cx] {N : Nat} {id : Nat} {o1 o2 o4 : Oper} {f : FuncId} {x y : Operand} {d ty : Nat} {ts : Array TypeId} {pos : String} {after : Array Edge} {Q : Exit → ASt → Prop} {s : ASt}
    (h : evOps P false [o1, o2, ⟨some d, .call ⟨.value (.func f), #[x, y], ts⟩, ty, pos, after, none⟩, o4] [o1, o2] (fun s' => markK P f x y d s' (evOps P false [o1, o2, ⟨some d, .call ⟨.value (.func f), #[x, y], ts⟩, ty, pos, after, none⟩, o4] [o4] (Q .normal))) s) :
    AWP N P (.region id #[o1, o2, ⟨some d, .call ⟨.value (.func f), #[x, y], ts⟩, ty, pos, after, none⟩, o4] false) Q s :=
  AWP.region_rule (os1 := [o1, o2]) (os2 := [o4]) mark_rule h

theorem mark_go {f : FuncId} {x y : Operand} {d : Nat} {s : ASt} {K : ASt → Prop} {id sz n : Nat} {blk blk' : Blk} {u v : Value} (hx : opd s x = some (.one (.own id sz 0 n))) (hb : s.h[id]? = some (some blk)) (hy : opd s y = some (sc u)) (hd : d < s.nt)
    (hf : FnMk P f n blk blk' u v) (h : K ⟨upd s.σ d (sc v), s.h.set id (some blk'), s.nt⟩) : markK P f x y d s K := ⟨id, sz, n, blk, blk', u, v, hx, hb, hy, hd, hf, h⟩

theorem eqNil_go {x : Operand} {d : Nat} {s : ASt} {K : ASt → Prop} {sz n : Nat} {f : Nat → V} (hx : opd s x = some (.one (.pv (.seq sz n f)))) (hd : d < s.nt) (h : ∀ b : Bool, (b = true → n * sz = 0) → K (putS s d (sc (.bool b)))) : eqNilK s x d K := by
  unfold eqNilK; rw [hx]; exact ⟨hd, h⟩

/-- A region that moves an operand and asks whether it is nil. -/
theorem AWP.region_eqNil [Cx] {N : Nat} {id : Nat} {o1 : Oper} {x : Operand} {d t t' ty : Nat} {pos : String} {after : Array Edge} {e : TypeId} {Q : Exit → ASt → Prop} {s : ASt} (ht : P.underlying t = some (.slice e))
    (h : evOps P false [o1, ⟨some d, .binOp .eql t x (.const (.slice none 0 0)) t', ty, pos, after, none⟩] [o1] (fun s' => eqNilK s' x d (evOps P false [o1, ⟨some d, .binOp .eql t x (.const (.slice none 0 0)) t', ty, pos, after, none⟩] [] (Q .normal))) s) :
    AWP N P (.region id #[o1, ⟨some d, .binOp .eql t x (.const (.slice none 0 0)) t', ty, pos, after, none⟩] false) Q s :=
  AWP.region_rule (os1 := [o1]) (os2 := []) (eqNil_rule ht) h

def VEL : List V → List V → Prop
  | [], [] => True
  | v :: vs, v' :: vs' => VE v v' ∧ VEL vs vs'
  | _, _ => False

theorem VEL.rd {w : World} {S : Nat → Prop} : ∀ (vs vs' : List V) (us : List Value), VEL vs vs' → RdL w S vs us → RdL w S vs' us
  | [], [], _, _, h => h
  | [], _ :: _, _, e, _ => e.elim
  | _ :: _, [], _, e, _ => e.elim
  | _ :: _, _ :: _, [], _, h => h.elim
  | v :: vs, v' :: vs', u :: us, e, h => ⟨VE.rd v v' u e.1 h.1, VEL.rd vs vs' us e.2 h.2⟩

/-- A contract in other words for its arguments. -/
theorem Fn.of_ve {f : FuncId} {vs vs' : List V} {r : Res} (h : Fn P f vs r) (e : VEL vs' vs) : Fn P f vs' r := ⟨h.entry, fun w S us hr => h.runs w S us (VEL.rd vs' vs us e hr)⟩

end

end Go.Proofs.Yteapdildbfimnaa
