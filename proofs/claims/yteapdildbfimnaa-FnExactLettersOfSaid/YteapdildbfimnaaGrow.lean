/- An own slice in a cell: it is let go there, and taken back to be grown. No conditions. -/
import Derived.Test.YteapdildbfimnaaEngZ
namespace Go.Proofs.Yteapdildbfimnaa
set_option linter.unusedSimpArgs false
set_option linter.unusedVariables false
open Go.RowKit

section
variable {P : Program} {w0 : World} {S0 : Nat → Prop} {s : ASt} {φ : List (Option (Nat × Nat))} {a : Act} {w : World}

/-! ### Let go -/
def letGrowK (N : Nat) (t : Nat) (s : ASt) (K : ASt → Prop) : Prop :=
  ∃ (id sz len : Nat) (blk : Blk), lookup s.σ t = some (.one (.own id sz 0 len)) ∧ s.h[id]? = some (some blk) ∧ len * sz ≤ blk.n ∧
    ∀ (u0 : Value) (Z : Nat → Prop), (∀ b, Z b → N ≤ b) → (∀ Z', ZSt Z' s → Disj Z' Z) → K ⟨upd s.σ t (.one (.pv (.grow u0 Z blk.elem sz len blk.f))), s.h.set id none, s.nt⟩

theorem letGrow_ok {N : Nat} {t : Nat} {K : ASt → Prop} (hN : w0.heap.size = N) (sim : SimAt w0 S0 s φ a w) (h : letGrowK N t s K) : ∃ s', K s' ∧ SimAt w0 S0 s' φ a w := by
  obtain ⟨id, sz, len, blk, ht, hb, hl, h⟩ := h
  obtain ⟨sv, hst⟩ := sim.letgo id
  obtain ⟨u, hu, hr⟩ := sim.slots t _ ht
  have fin : ∀ Z : Nat → Prop, (∀ b, Z b → N ≤ b) → (∀ Z', ZSt Z' s → Disj Z' Z) → Rd w (Stab w0 S0 (s.h.set id none) φ) (.grow u Z blk.elem sz len blk.f) u → ∃ s', K s' ∧ SimAt w0 S0 s' φ a w := fun Z h1 h2 h3 => by
    refine ⟨_, h u Z h1 h2, ⟨sv.heap, fun t' v hv => ?_, sv.defers, sv.size⟩⟩
    rw [lookup_upd] at hv
    split at hv
    · rename_i et; subst et; injection hv with hv; subst hv
      exact ⟨u, hu, h3⟩
    · exact sv.slots t' v hv
  rcases hr with ⟨hφ, _, hl0, rfl⟩ | ⟨b', c, z, hφ, rfl, hc, hm, hz⟩
  · subst hl0
    exact fin (fun _ => False) (fun _ h => h.elim) (fun _ _ _ _ h => h) ⟨rfl, fun _ h => h.elim, .inl ⟨rfl, rfl⟩⟩
  · obtain ⟨cur, hcz, hB, hcur, hn, hx⟩ := sim.blkAt hb hφ
    have hlive : Live s.h φ b' := ⟨id, blk, _, hb, hφ⟩
    refine fin (fun b => b = b') (fun b hb' => by subst hb'; omega) (fun Z' hZ' b hz hb' => ?_) ⟨rfl, fun b hb' => ?_, .inr ⟨b', c, cur, rfl, hc, hm, rfl, .inl hcur, by omega, fun i hi => ?_⟩⟩
    · have hb' : b = b' := hb'
      subst hb'
      exact (hZ'.there sim b hz).1.2 hlive
    · have hb' : b = b' := hb'
      subst hb'
      refine ⟨⟨.inr hB, ?_⟩, cur, blk.elem, .inl hcur⟩
      rintro ⟨i, x, z', h1, h2⟩
      by_cases ei : id = i
      · subst ei
        have := (List.getElem?_eq_some_iff.1 hb).1
        simp [this] at h1
      · rw [List.getElem?_set_ne ei] at h1
        exact ei (sim.heap.inj id i blk x b _ _ hb h1 hφ h2)
    · obtain ⟨x, hx1, hx2⟩ := hx i (by omega)
      exact ⟨x, hx1, Rd.mono (fun b hb _ => ⟨hst b hb, rfl⟩) _ _ hx2⟩

/-- Within a region. -/
theorem AWP.region_letGrow [Cx] {N : Nat} {id : Nat} {Q : Exit → ASt → Prop} {s : ASt} (os1 os2 : List Oper) (t : Nat)
    (h : evOps P false (os1 ++ os2) os1 (fun s' => letGrowK N t s' (evOps P false (os1 ++ os2) os2 (Q .normal))) s) : AWP N P (.region id (os1 ++ os2).toArray false) Q s := by
  refine AWP.of0 ?_
  rintro w0 S0 a w hN ⟨φ, sim⟩
  refine wp_region_lit (evOps_then os1 sim h fun s' a' w' hK ⟨φ', sim'⟩ => ?_)
  obtain ⟨s'', hK', sim''⟩ := letGrow_ok hN sim' hK
  exact evOps_plain os2 sim'' hK' fun s3 a3 w3 hK3 sim3 => ⟨s3, hK3, sim3⟩
theorem AWP.letGrow [Cx] {N : Nat} {c : Code} {Q : Exit → ASt → Prop} {s : ASt} (t : Nat) (h : letGrowK N t s (AWP N P c Q)) : AWP N P c Q s := by
  refine AWP.of_step fun w0 S0 φ a w hN sim => ?_
  obtain ⟨s', hK, sim'⟩ := letGrow_ok hN sim h
  exact ⟨s', φ, hK, sim'⟩

/-! ### Taken back -/
/-- What lies outside T is read without T. -/
theorem Keeps.less {T S S' : Nat → Prop} (hS : ∀ b, S b → ¬ T b → S' b) : ∀ (v : V) (u : Value), Keeps T v → Rd w S v u → Rd w S' v u
  | .val _, _, _, hr => hr
  | .old Z v, u, hk, hr => ⟨fun b hb => ⟨hS b (hr.1 b hb).1 (hk b hb), (hr.1 b hb).2⟩, hr.2⟩
  | .row u0 Z sz n f, u, hk, hr => by
    obtain ⟨e, hz, A, c, hu, hc, hr⟩ := hr
    refine ⟨e, fun b hb => ⟨hS b (hz b hb).1 (hk.1 b hb), (hz b hb).2⟩, A, c, hu, hc, fun hp => ?_⟩
    obtain ⟨b, off, hA, hZ, hr⟩ := hr hp
    refine ⟨b, off, hA, hZ, fun i hi => ?_⟩
    obtain ⟨x, hx, hr⟩ := hr i hi
    exact ⟨x, hx, Keeps.less hS (f i) x (hk.2 i hi) hr⟩
  | .grow u0 Z e sz n f, u, hk, hr => by
    obtain ⟨hu, hz, hr⟩ := hr
    refine ⟨hu, fun b hb => ⟨hS b (hz b hb).1 (hk.1 b hb), (hz b hb).2⟩, ?_⟩
    rcases hr with hr | ⟨b, c, cur, h1, h2, h3, h4, h5, h6, h7⟩
    · exact .inl hr
    · refine .inr ⟨b, c, cur, h1, h2, h3, h4, h5, h6, fun i hi => ?_⟩
      obtain ⟨x, hx, hr⟩ := h7 i hi
      exact ⟨x, hx, Keeps.less hS (f i) x (hk.2 i hi) hr⟩
  | .agg n f, u, hk, hr => by
    obtain ⟨cs, hu, hn, hr⟩ := hr
    refine ⟨cs, hu, hn, fun i hi => ?_⟩
    obtain ⟨x, hx, hr⟩ := hr i hi
    exact ⟨x, hx, Keeps.less hS (f i) x (hk i hi) hr⟩
  | .seq _ _ _, _, hk, _ => hk.elim
  | .pin _ _, _, hk, _ => hk.elim
  | .clo _ _ _, _, hk, _ => hk.elim
  | .cur b k Z c, u, hk, hr => by
    obtain ⟨hu, hb, hz, h⟩ := hr
    exact ⟨hu, hS b hb hk.1, fun j hj => ⟨hS j (hz j hj).1 (hk.2 j hj), (hz j hj).2⟩, h⟩

/-- The slice in slot t is taken back; s1: what else is known. -/
def takeK (N : Nat) (t : Nat) (s : ASt) (K : ASt → Prop) : Prop :=
  ∃ (u0 : Value) (Z : Nat → Prop) (e : TypeId) (sz n : Nat) (f : Nat → V) (s1 : ASt), lookup s.σ t = some (.one (.pv (.grow u0 Z e sz n f))) ∧ (∀ b, Z b → N ≤ b) ∧ (∀ i, i < n * sz → Keeps Z (f i)) ∧
    s1.nt = s.nt ∧ SwS Z [(.grow u0 Z e sz n f, .val u0)] s.σ s1.σ ∧ SwH Z [(.grow u0 Z e sz n f, .val u0)] s.h s1.h ∧ K ⟨upd s1.σ t (.one (.own s1.h.length sz 0 n)), s1.h ++ [some ⟨e, n * sz, f⟩], s1.nt⟩ ∧ e < bigE

theorem take_ok {N : Nat} {t : Nat} {K : ASt → Prop} (hN : w0.heap.size = N) (sim : SimAt w0 S0 s φ a w) (h : takeK N t s K) : ∃ s' φ', K s' ∧ SimAt w0 S0 s' φ' a w := by
  obtain ⟨u0, Z, e, sz, n, f, s1, ht, hZ, hf, hnt, hσ, hh, hK, he⟩ := h
  obtain ⟨u, hu, hr⟩ := sim.slots t _ ht
  obtain ⟨hu0, hz, hr⟩ : Rd w (Stab w0 S0 s.h φ) (.grow u0 Z e sz n f) u := hr
  subst hu0
  have hlen : φ.length = s1.h.length := by rw [sim.heap.len, hh.len]
  -- the parts of a world that are read as before
  have gen : ∀ (x : Option (Nat × Nat)) (hx : ∀ b z, x = some (b, z) → Z b), ∀ b, Stab w0 S0 s.h φ b → ¬ Z b → Stab w0 S0 (s1.h ++ [some ⟨e, n * sz, f⟩]) (φ ++ [x]) b := fun x hx b hb hnz => by
    refine ⟨hb.1, fun hl => ?_⟩
    rcases (live_append hlen).1 hl with ⟨id, blk, z, hi, hp⟩ | ⟨id, blk, z, hi, hp⟩
    · obtain ⟨b0, h4, _⟩ := hh.get hi
      exact hb.2 ⟨id, b0, z, h4, hp⟩
    · have : id = 0 := by
        rcases Nat.eq_zero_or_pos id with h | h
        · exact h
        · rw [List.getElem?_eq_none (by simp; omega)] at hp; cases hp
      subst this
      have hp : x = some (b, z) := by simpa using hp
      exact hnz (hx b z hp)
  have main : ∀ (x : Option (Nat × Nat)) (hx : ∀ b z, x = some (b, z) → Z b),
      ((x = none ∧ n * sz = 0) ∨ ∃ b cur, x = some (b, cur.size) ∧ w0.heap.size ≤ b ∧ ¬ Live s.h φ b ∧ w.heap[b]? = some (.cells cur e (0, 0)) ∧ n * sz ≤ cur.size ∧ ∀ i, i < n * sz → ∃ y, cur[i]? = some y ∧ Rd w (Stab w0 S0 s.h φ) (f i) y) →
      RdS w (Stab w0 S0 (s1.h ++ [some ⟨e, n * sz, f⟩]) (φ ++ [x])) (φ ++ [x]) (.own s1.h.length sz 0 n) u → ∃ s' φ', K s' ∧ SimAt w0 S0 s' φ' a w := fun x hx hb hown => by
    have hst := gen x hx
    have step : ∀ (v v' : V) (y : Value), ZStep Z [(.grow u Z e sz n f, .val u)] v v' → Rd w (Stab w0 S0 s.h φ) v y → Rd w (Stab w0 S0 (s1.h ++ [some ⟨e, n * sz, f⟩]) (φ ++ [x])) v' y := fun v v' y hz hr => by
      rcases hz with ⟨hk, rfl⟩ | hz
      · exact Keeps.less hst v y hk hr
      · simp only [List.mem_singleton, Prod.mk.injEq] at hz
        obtain ⟨rfl, rfl⟩ := hz
        exact hr.1
    have hnew : ∀ {id : Nat} {blk : Blk}, (s1.h ++ [some ⟨e, n * sz, f⟩])[id]? = some (some blk) → (id < s1.h.length ∧ s1.h[id]? = some (some blk)) ∨ (id = s1.h.length ∧ blk = ⟨e, n * sz, f⟩) := fun {id blk} hi => by
      rcases Nat.lt_or_ge id s1.h.length with h | h
      · rw [List.getElem?_append_left h] at hi; exact .inl ⟨h, hi⟩
      · rw [List.getElem?_append_right h] at hi
        have h0 : id - s1.h.length = 0 := by
          rcases Nat.eq_zero_or_pos (id - s1.h.length) with h | h
          · exact h
          · rw [List.getElem?_eq_none (by simp; omega)] at hi; cases hi
        rw [h0] at hi
        simp at hi
        exact .inr ⟨by omega, hi.symm⟩
    refine ⟨_, φ ++ [x], hK, ⟨⟨by simp [hlen], sim.heap.below, fun id blk hi => ?_, fun i j bi bj b z z' hi hj hi' hj' => ?_⟩, fun t' v hv => ?_, sim.defers, by rw [sim.size, hnt]⟩⟩
    · rcases hnew hi with ⟨hlt, hi⟩ | ⟨rfl, rfl⟩
      · obtain ⟨b0, h4, h5, h6, h7⟩ := hh.get hi
        rcases sim.heap.blk id b0 h4 with ⟨h8, h9⟩ | ⟨b, cur, h8, h9, h10, h11, h12⟩
        · exact .inl ⟨by rw [List.getElem?_append_left (by omega)]; exact h8, by omega⟩
        · refine .inr ⟨b, cur, by rw [List.getElem?_append_left (by omega)]; exact h8, h9, by rw [← h5]; exact h10, by omega, fun i hi' => ?_⟩
          obtain ⟨y, hy, hr⟩ := h12 i (by omega)
          exact ⟨y, hy, step _ _ _ (h7 i hi') hr⟩
      · have hat : (φ ++ [x])[s1.h.length]? = some x := by rw [← hlen]; simp
        rcases hb with ⟨hx0, h0⟩ | ⟨b, cur, hx0, hB, hl, hcur, hle, hcells⟩
        · exact .inl ⟨by rw [hat, hx0], h0⟩
        · refine .inr ⟨b, cur, by rw [hat, hx0], hB, hcur, hle, fun i hi' => ?_⟩
          obtain ⟨y, hy, hr⟩ := hcells i hi'
          exact ⟨y, hy, Keeps.less hst _ _ (hf i hi') hr⟩
    · have hat : (φ ++ [x])[s1.h.length]? = some x := by rw [← hlen]; simp
      have old : ∀ {k : Nat} {bk : Blk} {zz : Nat}, k < s1.h.length → s1.h[k]? = some (some bk) → (φ ++ [x])[k]? = some (some (b, zz)) → Live s.h φ b ∧ φ[k]? = some (some (b, zz)) ∧ ∃ b0, s.h[k]? = some (some b0) := fun {k bk zz} h1 h2 h3 => by
        rw [List.getElem?_append_left (by omega)] at h3
        obtain ⟨b0, h4, _⟩ := hh.get h2
        exact ⟨⟨k, b0, _, h4, h3⟩, h3, b0, h4⟩
      have new : ∀ {zz : Nat}, (φ ++ [x])[s1.h.length]? = some (some (b, zz)) → ¬ Live s.h φ b := fun {zz} h => by
        rw [hat] at h
        injection h with h
        rcases hb with ⟨hx0, _⟩ | ⟨b', cur, hx0, _, hl, _⟩
        · rw [hx0] at h; cases h
        · rw [hx0] at h; injection h with h; injection h with h1 h2; rw [← h1]; exact hl
      rcases hnew hi with ⟨h1, h2⟩ | ⟨rfl, _⟩ <;> rcases hnew hj with ⟨h3, h4⟩ | ⟨rfl, _⟩
      · obtain ⟨_, q1, b1, q2⟩ := old h1 h2 hi'
        obtain ⟨_, q3, b2, q4⟩ := old h3 h4 hj'
        exact sim.heap.inj i j b1 b2 b z z' q2 q4 q1 q3
      · exact absurd (old h1 h2 hi').1 (new hj')
      · exact absurd (old h3 h4 hj').1 (new hi')
      · rfl
    · rw [lookup_upd] at hv
      split at hv
      · rename_i et; subst et; injection hv with hv; subst hv
        exact ⟨u, hu, hown⟩
      · obtain ⟨v0, h4, h5⟩ := hσ.get hv
        obtain ⟨y, hy, hr⟩ := sim.slots t' v0 h4
        refine ⟨y, hy, ?_⟩
        unfold SwSl at h5
        have hid : ∀ {i : Nat} {p : Nat × Nat}, φ[i]? = some (some p) → (φ ++ [x])[i]? = some (some p) := fun {i p} h => by rw [List.getElem?_append_left (List.getElem?_eq_some_iff.1 h).1]; exact h
        split at h5
        · exact step _ _ _ h5 hr
        · obtain ⟨rfl, rfl, rfl, rfl⟩ := h5
          rcases hr with ⟨q1, q2⟩ | ⟨b, c, z, q1, q2⟩
          · exact .inl ⟨by rw [List.getElem?_append_left (List.getElem?_eq_some_iff.1 q1).1]; exact q1, q2⟩
          · exact .inr ⟨b, c, z, hid q1, q2⟩
        · obtain ⟨rfl, rfl⟩ := h5
          obtain ⟨b, z, q1, q2⟩ := hr
          exact ⟨b, z, hid q1, q2⟩
        · exact h5.elim
  rcases hr with ⟨rfl, hn⟩ | ⟨b, c, cur, rfl, h2, h3, h4, h5, h6, h7⟩
  · exact main none (fun _ _ h => by cases h) (.inl ⟨rfl, by rw [hn]; omega⟩) (.inl ⟨by rw [← hlen]; simp, rfl, hn, rfl⟩)
  · have hle : n * sz ≤ cur.size := by rw [h6]; exact Nat.mul_le_mul_right _ h2
    exact main (some (b, cur.size)) (fun b' z h => by injection h with h; injection h with h1 h2; subst h1; exact h4) (.inr ⟨b, cur, rfl, by have := hZ b h4; omega, (hz b h4).1.2, h5.small he, hle, h7⟩)
      (.inr ⟨b, c, cur.size, by rw [← hlen]; simp, rfl, h2, h3, by omega⟩)

/-- Within a region. -/
theorem AWP.region_take [Cx] {N : Nat} {id : Nat} {Q : Exit → ASt → Prop} {s : ASt} (os1 os2 : List Oper) (t : Nat)
    (h : evOps P false (os1 ++ os2) os1 (fun s' => takeK N t s' (evOps P false (os1 ++ os2) os2 (Q .normal))) s) : AWP N P (.region id (os1 ++ os2).toArray false) Q s := by
  refine AWP.of0 ?_
  rintro w0 S0 a w hN ⟨φ, sim⟩
  refine wp_region_lit (evOps_then os1 sim h fun s' a' w' hK ⟨φ', sim'⟩ => ?_)
  obtain ⟨s'', φ'', hK', sim''⟩ := take_ok hN sim' hK
  exact evOps_plain os2 sim'' hK' fun s3 a3 w3 hK3 sim3 => ⟨s3, hK3, sim3⟩
theorem AWP.take [Cx] {N : Nat} {c : Code} {Q : Exit → ASt → Prop} {s : ASt} (t : Nat) (h : takeK N t s (AWP N P c Q)) : AWP N P c Q s := by
  exact AWP.of_step fun w0 S0 φ a w hN sim => take_ok hN sim h
/-- Within a region: taken back behind os1, let go behind os2. -/
theorem AWP.region_takeLet [Cx] {N : Nat} {id : Nat} {Q : Exit → ASt → Prop} {s : ASt} (os1 os2 os3 : List Oper) (t t' : Nat)
    (h : evOps P false (os1 ++ (os2 ++ os3)) os1 (fun s' => takeK N t s' (evOps P false (os1 ++ (os2 ++ os3)) os2 (fun s'' => letGrowK N t' s'' (evOps P false (os1 ++ (os2 ++ os3)) os3 (Q .normal))))) s) : AWP N P (.region id (os1 ++ (os2 ++ os3)).toArray false) Q s := by
  refine AWP.of0 ?_
  rintro w0 S0 a w hN ⟨φ, sim⟩
  refine wp_region_lit (evOps_then os1 sim h fun s' a' w' hK ⟨φ', sim'⟩ => ?_)
  obtain ⟨s'', φ'', hK', sim''⟩ := take_ok hN sim' hK
  refine evOps_then os2 sim'' hK' fun s3 a3 w3 hK3 ⟨φ3, sim3⟩ => ?_
  obtain ⟨s4, hK4, sim4⟩ := letGrow_ok hN sim3 hK3
  exact evOps_plain os3 sim4 hK4 fun s5 a5 w5 hK5 sim5 => ⟨s5, hK5, sim5⟩
theorem take_go {N t : Nat} {s : ASt} {K : ASt → Prop} {u0 : Value} {Z : Nat → Prop} {e : TypeId} {sz n : Nat} {f : Nat → V} (s1 : ASt) (ht : lookup s.σ t = some (.one (.pv (.grow u0 Z e sz n f)))) (hZ : ∀ b, Z b → N ≤ b) (hf : ∀ i, i < n * sz → Keeps Z (f i))
    (hnt : s1.nt = s.nt) (hσ : SwS Z [(.grow u0 Z e sz n f, .val u0)] s.σ s1.σ) (hh : SwH Z [(.grow u0 Z e sz n f, .val u0)] s.h s1.h) (h : K ⟨upd s1.σ t (.one (.own s1.h.length sz 0 n)), s1.h ++ [some ⟨e, n * sz, f⟩], s1.nt⟩) (he : e < bigE := by decide) : takeK N t s K :=
  ⟨u0, Z, e, sz, n, f, s1, ht, hZ, hf, hnt, hσ, hh, h, he⟩
theorem letGrow_go {N t : Nat} {s : ASt} {K : ASt → Prop} {id sz len : Nat} {blk : Blk} (ht : lookup s.σ t = some (.one (.own id sz 0 len))) (hb : s.h[id]? = some (some blk)) (hl : len * sz ≤ blk.n)
    (h : ∀ (u0 : Value) (Z : Nat → Prop), (∀ b, Z b → N ≤ b) → (∀ Z', ZSt Z' s → Disj Z' Z) → K ⟨upd s.σ t (.one (.pv (.grow u0 Z blk.elem sz len blk.f))), s.h.set id none, s.nt⟩) : letGrowK N t s K := ⟨id, sz, len, blk, ht, hb, hl, h⟩
end
end Go.Proofs.Yteapdildbfimnaa
