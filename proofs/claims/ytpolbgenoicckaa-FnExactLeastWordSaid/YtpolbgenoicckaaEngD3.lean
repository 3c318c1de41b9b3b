/- What an operation that writes or makes memory gives, by the abstract state; and that the model's own gives it. No conditions. -/
import Derived.Test.YtpolbgenoicckaaEngD2
namespace Go.Proofs.Ytpolbgenoicckaa
set_option linter.unusedSimpArgs false
set_option linter.unusedVariables false
open Go.RowKit

/-- A slice type's element type, and the cells of its zero. -/
def elemInfo (P : Program) (t : TypeId) : Option (TypeId × List Value) :=
  match P.underlying t with
  | some (.slice e) =>
    match P.info? e with
    | some i =>
      match i.zero with
      | some z => if i.size = z.cells.size ∧ 0 < i.size ∧ i.bytes ≤ 64 then some (e, z.cells.toList) else none
      | none => none
    | none => none
  | _ => none

theorem elemInfo_some {P : Program} {t e : TypeId} {zs : List Value} (h : elemInfo P t = some (e, zs)) :
    ∃ i z, P.underlying t = some (.slice e) ∧ P.info? e = some i ∧ i.zero = some z ∧ i.size = zs.length ∧ z.cells = zs.toArray ∧ 0 < zs.length ∧ i.bytes ≤ 64 := by
  unfold elemInfo at h
  split at h
  · rename_i e' hu
    split at h
    · rename_i i hi
      split at h
      · rename_i z hz
        split at h
        · rename_i hc
          injection h with h; injection h with h1 h2; subst h1 h2
          exact ⟨i, z, hu, hi, hz, by simp [hc.1], by simp, by simpa [hc.1] using hc.2.1, hc.2.2⟩
        · cases h
      · cases h
    · cases h
  · cases h

/-- A type's zero, as cells. -/
def zeroOf (P : Program) (t : TypeId) : Option (List Value) :=
  match P.info? t with
  | some i => i.zero.map fun z => z.cells.toList
  | none => none

/-- An operand as a value that nobody writes any more. -/
def frz (s : ASt) (x : Operand) (K : ASt → V → Prop) : Prop :=
  match opd s x with
  | some (.one (.pv v)) => K s v
  | some (.one (.own id sz off len)) =>
    match s.h[id]? with
    | some (some b) => off + len * sz ≤ b.n ∧ K { s with h := s.h.set id none } (.seq sz len fun i => b.f (off + i))
    | _ => False
  | _ => False

def setBlk (s : ASt) (id : Nat) (b : Blk) : ASt := { s with h := s.h.set id (some b) }

def storeV (P : Program) (t : TypeId) (id off : Nat) (K : ASt → Prop) (s : ASt) (v : V) : Prop :=
  match s.h[id]? with
  | some (some b) =>
    match v with
    | .agg n g => cellsIn P t = some (some n) ∧ off + n ≤ b.n ∧ (∀ i, i < n → (g i).one = true) ∧ K (setBlk s id ⟨b.elem, b.n, fun i => if off ≤ i ∧ i < off + n then g (i - off) else b.f i⟩)
    | v => cellsIn P t = some none ∧ v.one = true ∧ off < b.n ∧ K (setBlk s id ⟨b.elem, b.n, fun i => if i = off then v else b.f i⟩)
  | _ => False

def storeK (P : Program) (s : ASt) (t : TypeId) (x y : Operand) (K : ASt → Prop) : Prop :=
  match opd s x with
  | some (.one (.ptr id off)) => frz s y (storeV P t id off K)
  | _ => False

def newBlk (s : ASt) (d : Nat) (v : SV) (b : Blk) : ASt := { s with σ := upd s.σ d (.one v), h := s.h ++ [some b] }

def makeK (P : Program) (s : ASt) (t : TypeId) (l c : Operand) (d : Nat) (K : ASt → Prop) : Prop :=
  match opd s l, opd s c, elemInfo P t with
  | some (.one (.pv (.val (.int _ n)))), some (.one (.pv (.val (.int _ m)))), some (e, zs) =>
    0 ≤ n ∧ n ≤ m ∧ m ≤ 1099511627776 ∧ K (newBlk s d (.own s.h.length zs.length 0 n.toNat) ⟨e, n.toNat * zs.length, fun i => .val (zs.getD (i % zs.length) undef)⟩)
  | _, _, _ => False

/-- What is appended. -/
def srcK (s : ASt) (y : Operand) (K : Nat → Nat → (Nat → V) → Prop) : Prop :=
  match opd s y with
  | some (.one (.pv (.seq sz m g))) => K sz m g
  | some (.one (.own id sz off m)) =>
    match s.h[id]? with
    | some (some b) => off + m * sz ≤ b.n ∧ K sz m fun i => b.f (off + i)
    | _ => False
  | _ => False

def growK (P : Program) (s : ASt) (t : TypeId) (d : Nat) (K : ASt → Prop) (id sz n : Nat) (sz' m : Nat) (g : Nat → V) : Prop :=
  match s.h[id]?, elemInfo P t with
  | some (some b), some (e, zs) =>
    e = b.elem ∧ zs.length = sz ∧ sz' = sz ∧ n * sz ≤ b.n ∧ n + m ≤ 1099511627776 ∧ (∀ i, i < n * sz → (b.f i).one = true) ∧ (∀ i, i < m * sz → (g i).one = true) ∧
      K { s with σ := upd s.σ d (.one (.own s.h.length sz 0 (n + m))), h := s.h.set id none ++ [some ⟨b.elem, (n + m) * sz, fun i => if i < n * sz then b.f i else g (i - n * sz)⟩] }
  | _, _ => False

def appendK (P : Program) (s : ASt) (t : TypeId) (x y : Operand) (d : Nat) (K : ASt → Prop) : Prop :=
  match opd s x with
  | some (.one (.own id sz 0 n)) => srcK s y (growK P s t d K id sz n)
  | some (.one (.pv (.val (.slice none 0 0)))) =>
    match elemInfo P t with
    | some (e, zs) => srcK s y (growK P { s with h := s.h ++ [some ⟨e, 0, fun _ => .val undef⟩] } t d K s.h.length zs.length 0)
    | none => False
  | _ => False

section
variable {P : Program} {w0 : World} {S0 : Nat → Prop} {s : ASt} {φ : List (Option (Nat × Nat))} {a : Act} {w : World}

/-- A block is let go: it is written no more. -/
theorem SimAt.letgo (sim : SimAt w0 S0 s φ a w) (id : Nat) : SimAt w0 S0 { s with h := s.h.set id none } φ a w ∧ ∀ b, Stab w0 S0 s.h φ b → Stab w0 S0 (s.h.set id none) φ b := by
  have g : ∀ (k : Nat) (bk : Blk), (s.h.set id none)[k]? = some (some bk) → s.h[k]? = some (some bk) := fun k bk hk => by
    by_cases e : id = k
    · subst e
      rcases Nat.lt_or_ge id s.h.length with hlt | hge
      · simp [hlt] at hk
      · rw [List.getElem?_eq_none (by simpa using hge)] at hk; cases hk
    · rw [List.getElem?_set_ne e] at hk; exact hk
  have hst : ∀ b, Stab w0 S0 s.h φ b → Stab w0 S0 (s.h.set id none) φ b := fun b hb => ⟨hb.1, fun ⟨i, x, z, h1, h2⟩ => hb.2 ⟨i, x, z, g i x h1, h2⟩⟩
  have hs : ∀ b, Stab w0 S0 s.h φ b → b < w.heap.size → Stab w0 S0 (s.h.set id none) φ b ∧ w.heap[b]? = w.heap[b]? := fun b hb _ => ⟨hst b hb, rfl⟩
  refine ⟨⟨⟨by simp [sim.heap.len], sim.heap.below, fun i x hi => ?_, fun i j bi bj b z z' hi hj => sim.heap.inj i j bi bj b z z' (g i bi hi) (g j bj hj)⟩, fun t v ht => ?_, sim.defers, sim.size⟩, hst⟩
  · rcases sim.heap.blk i x (g i x hi) with h1 | ⟨b, cur, h1, h2, h3, h4, h5⟩
    · exact .inl h1
    · refine .inr ⟨b, cur, h1, h2, h3, h4, fun j hj => ?_⟩
      obtain ⟨y, hy, hr⟩ := h5 j hj
      exact ⟨y, hy, Rd.mono hs _ _ hr⟩
  · obtain ⟨u, hu, hr⟩ := sim.slots t v ht
    exact ⟨u, hu, RdSlot.mono hs (fun _ _ h => h) v u hr⟩

theorem frz_ok (sim : SimAt w0 S0 s φ a w) {x : Operand} {K : ASt → V → Prop} (h : frz s x K) : ∃ s' v, K s' v ∧ SimAt w0 S0 s' φ a w ∧ Rd w (Stab w0 S0 s'.h φ) v (a.eval x) ∧ s'.σ = s.σ ∧ s'.nt = s.nt ∧
    (∀ (id : Nat) (b : Blk), s'.h[id]? = some (some b) → s.h[id]? = some (some b)) := by
  unfold frz at h
  split at h
  · rename_i v hv; exact ⟨s, v, h, sim, sim.opd hv, rfl, rfl, fun _ _ h => h⟩
  · rename_i id sz off len hv
    split at h
    · rename_i b hb
      obtain ⟨sim', hst⟩ := sim.letgo id
      refine ⟨_, _, h.2, sim', ?_, rfl, rfl, fun i x hi => ?_⟩
      · rcases sim.opd hv with ⟨_, rfl, rfl, e⟩ | ⟨b', c, z, hφ, e, hc, _, _⟩
        · rw [e]; exact ⟨none, 0, rfl, Nat.le_refl _, fun h => by simp at h⟩
        · obtain ⟨cur, _, hB, hcur, hn, hx⟩ := sim.blkAt hb hφ
          rw [e]
          refine ⟨_, c, rfl, hc, fun hp => ⟨b', off, rfl, ⟨.inr hB, ?_⟩, fun i hi => ?_⟩⟩
          · rintro ⟨i, x, z', h1, h2⟩
            by_cases ei : id = i
            · subst ei
              have := (List.getElem?_eq_some_iff.1 hb).1
              simp [this] at h1
            · simp only [] at h1
              rw [List.getElem?_set_ne ei] at h1
              exact ei (sim.heap.inj id i b x b' _ _ hb h1 hφ h2)
          · obtain ⟨x, hx1, hx2⟩ := hx (off + i) (by have := h.1; omega)
            exact ⟨x, cell_of_blk hcur hx1, Rd.mono (fun b hb _ => ⟨hst b hb, rfl⟩) _ _ hx2⟩
      · by_cases ei : id = i
        · subst ei
          have := (List.getElem?_eq_some_iff.1 hb).1
          simp [this] at hi
        · simp only [] at hi
          rw [List.getElem?_set_ne ei] at hi; exact hi
    · exact h.elim
  · exact h.elim

theorem setCell_at {b off : Nat} {u : Value} {cur : Array Value} {e : TypeId} {fr : Nat × Nat} (h : w.heap[b]? = some (.cells cur e fr)) :
    (w.setCell ⟨b, off, none⟩ u).heap[b]? = some (.cells (cur.setIfInBounds off u) e fr) := by
  simp [World.setCell, Array.getElem?_modify, h]

theorem setCell_size (p : Addr) (u : Value) : (w.setCell p u).heap.size = w.heap.size := by simp [World.setCell]

theorem run_store1 {t : TypeId} (ht : cellsIn P t = some none) {b off : Nat} {u x : Value} {cur : Array Value} {e : TypeId} (hu : u.oneCell' = true) (hcur : w.heap[b]? = some (.cells cur e (0, 0))) (hx : cur[off]? = some x) :
    (Instr.storeAt t (.pointer (some ⟨b, off, none⟩)) u).run P w = .ok () (w.setCell ⟨b, off, none⟩ u) := by
  obtain ⟨i, hi, hs⟩ := cellsIn_size ht
  have hc : w.cell? ⟨b, off, none⟩ = some x := cell_of_blk hcur hx
  have hf : w.frozen? ⟨b, off, none⟩ = false := by simp [World.frozen?, hcur]
  have h1 : u.cells = #[u] := by cases u <;> first | rfl | simp [Value.oneCell'] at hu
  have hst := run_store P w ⟨b, off, none⟩ u .plain hu
  simp only [hc, hf, Bool.false_eq_true, if_false] at hst
  simp only [Instr.storeAt, Instr.sureAddr, storeVar, Sem.run_bind, Sem.run_pure, Result.andThen_ok, sizeOf, typeInfo, run_program, hi, hs, h1, List.size_toArray, List.length_cons, List.length_nil, Nat.zero_add, ne_eq, not_true_eq_false, if_false,
    storeCells, add_none, Nat.add_zero, hst]

theorem setCells_at : ∀ (l : List Value) (w : World) (b o : Nat) (cur : Array Value) (e : TypeId) (fr : Nat × Nat), w.heap[b]? = some (.cells cur e fr) →
    ∃ cur' : Array Value, (w.setCells b o l).heap[b]? = some (.cells cur' e fr) ∧ cur'.size = cur.size ∧ (∀ j, (j < o ∨ o + l.length ≤ j) → cur'[j]? = cur[j]?) ∧ (∀ j, j < l.length → o + j < cur.size → cur'[o + j]? = l[j]?) ∧
      (w.setCells b o l).os = w.os ∧ (w.setCells b o l).tape = w.tape ∧ (w.setCells b o l).output = w.output ∧ (w.setCells b o l).heap.size = w.heap.size ∧ ∀ k, k ≠ b → (w.setCells b o l).heap[k]? = w.heap[k]?
  | [], w, b, o, cur, e, fr, h => ⟨cur, h, rfl, fun _ _ => rfl, fun j hj => by simp at hj, rfl, rfl, rfl, rfl, fun _ _ => rfl⟩
  | v :: l, w, b, o, cur, e, fr, h => by
    obtain ⟨cur', h1, h2, h3, h4, h5, h6, h7, h8, h9⟩ := setCells_at l (w.setCell ⟨b, o, none⟩ v) b (o + 1) _ e fr (setCell_at h)
    refine ⟨cur', h1, by simpa using h2, fun j hj => ?_, fun j hj hjs => ?_, h5, h6, h7, by rw [← setCell_size (w := w) ⟨b, o, none⟩ v]; exact h8, fun k hk => (h9 k hk).trans (Below.heap_setCell _ _ _ _ hk)⟩
    · simp only [List.length_cons] at hj
      rw [h3 j (by omega), Array.getElem?_setIfInBounds_ne (by omega)]
    · cases j with
      | zero =>
        rw [Nat.add_zero, h3 o (.inl (by omega))]
        simp at hjs ⊢
        simp [hjs]
      | succ j =>
        have := h4 j (by simpa using hj) (by simp; omega)
        rw [show o + (j + 1) = o + 1 + j by omega, this]; simp

/-- A store. -/
theorem store_ok {o : Oper} {t : TypeId} {x y : Operand} {K : ASt → Prop} (sim : SimAt w0 S0 s φ a w) (ho : o.op = .store t x y) (hd : o.dst = none) (h : storeK P s t x y K) {next : Act → World → Prop} {Q : Exit → Act → World → Prop}
    (hn : ∀ s' w', K s' → SimAt w0 S0 s' φ a w' → next a w') : o.wp P a w next Q := by
  unfold storeK at h
  split at h
  · rename_i id off hx
    obtain ⟨b, z, hφ, ex⟩ := sim.opd hx
    obtain ⟨s', v1, hv, sim', hr, _, _, _⟩ := frz_ok sim h
    unfold storeV at hv
    split at hv
    · rename_i blk hb
      obtain ⟨cur, hz, hB, hcur, hn', hcs⟩ := sim'.blkAt hb hφ
      split at hv
      · rename_i n g
        obtain ⟨hc, hoff, h1, hK⟩ := hv
        obtain ⟨cs, ey, hsz, hcells⟩ := hr
        obtain ⟨i, hi, hs, _⟩ := cellsIn_many hc
        have hall : cs.all (·.oneCell') = true := by
          rw [Array.all_eq_true]
          intro j hj
          obtain ⟨y, hy1, hy2⟩ := hcells j (by omega)
          have : cs[j] = y := by rw [Array.getElem?_eq_getElem hj] at hy1; exact Option.some.inj hy1
          rw [this]; exact Rd.one (h1 j (by omega)) hy2
        have hthere : w.there b off cs.size := fun j hj => by
          obtain ⟨y, hy, _⟩ := hcs (off + j) (by omega)
          exact ⟨by rw [cell_of_blk hcur hy]; rfl, by simp [World.frozen?, hcur]⟩
        have hrun := run_storeAt_mid (P := P) w b off t cs hthere (by rw [hi, hsz]; simp [hs]) hall
        obtain ⟨cur', g1, g2, g3, g4, g5, g6, g7, g8, g9⟩ := setCells_at cs.toList w b off cur blk.elem (0, 0) hcur
        have hw := sim'.write hb hφ (blk' := ⟨blk.elem, blk.n, fun i => if off ≤ i ∧ i < off + n then g (i - off) else blk.f i⟩) g1 (by omega) g5 g6 g7 (by omega) (fun k _ hk => g9 k hk) rfl (by simp; omega) (fun i hi => by
          simp only [] at hi ⊢
          by_cases hin : off ≤ i ∧ i < off + n
          · rw [if_pos hin]
            obtain ⟨y, hy1, hy2⟩ := hcells (i - off) (by omega)
            refine ⟨y, ?_, hy2⟩
            have := g4 (i - off) (by simp; omega) (by omega)
            rw [show off + (i - off) = i by omega] at this
            rw [this]; simpa using hy1
          · rw [if_neg hin]
            obtain ⟨y, hy1, hy2⟩ := hcs i hi
            exact ⟨y, by rw [g3 i (by simp; omega)]; exact hy1, hy2⟩)
        unfold Oper.wp
        have e : (execOp a.eval o).run P w = .ok .skip (w.setCells b off cs.toList) := by
          unfold execOp
          simp only [ho, ex, ey, Sem.run_bind, hrun, Result.andThen_ok]; rfl
        rw [e, Oper.upon_skip, hd]
        exact hn _ _ hK hw
      · rename_i v2 hne
        obtain ⟨hc, h1, hoff, hK⟩ := hv
        obtain ⟨x0, hx0, _⟩ := hcs off hoff
        have hone := Rd.one h1 hr
        have hrun := run_store1 (P := P) hc hone hcur hx0
        have hlt : off < cur.size := by omega
        have hw := sim'.write hb hφ (w' := w.setCell ⟨b, off, none⟩ (a.eval y)) (blk' := ⟨blk.elem, blk.n, fun i => if i = off then v1 else blk.f i⟩) (setCell_at hcur) (by simpa using hz) rfl rfl rfl (by rw [setCell_size]; exact Nat.le_refl _)
          (fun k _ hk => Below.heap_setCell _ _ _ _ hk) rfl (by simpa using hn') (fun i hi => by
            simp only [] at hi ⊢
            by_cases e : i = off
            · subst e; rw [if_pos rfl]; exact ⟨_, by simp [hlt], hr⟩
            · rw [if_neg e]
              obtain ⟨y, hy1, hy2⟩ := hcs i hi
              exact ⟨y, by rw [Array.getElem?_setIfInBounds_ne (fun h => e h.symm)]; exact hy1, hy2⟩)
        unfold Oper.wp
        have e : (execOp a.eval o).run P w = .ok .skip (w.setCell ⟨b, off, none⟩ (a.eval y)) := by
          unfold execOp
          simp only [ho, ex, Sem.run_bind, hrun, Result.andThen_ok]; rfl
        rw [e, Oper.upon_skip, hd]
        exact hn _ _ hK hw
    · exact hv.elim
  · exact h.elim

/-- make. -/
theorem make_ok {o : Oper} {t : TypeId} {l c : Operand} {d : Nat} {K : ASt → Prop} (sim : SimAt w0 S0 s φ a w) (ho : o.op = .makeSlice t l c) (hd : o.dst = some d) (hlt : d < s.nt) (h : makeK P s t l c d K) {next : Act → World → Prop} {Q : Exit → Act → World → Prop}
    (hn : ∀ s' a' w', K s' → Sim w0 S0 s' a' w' → next a' w') : o.wp P a w next Q := by
  unfold makeK at h
  split at h
  · rename_i kl n kc m e zs hl hc hinfo
    obtain ⟨h0, h1, h2, hK⟩ := h
    obtain ⟨i, z, hu, hi, hz, hsz, hzs, hpos, hby⟩ := elemInfo_some hinfo
    have el := val_of sim hl
    have ec := val_of sim hc
    have hb : (i.bytes : Int) * m ≤ 281474976710656 := by
      have : (i.bytes : Int) * m ≤ 64 * 1099511627776 := Int.mul_le_mul (by omega) h2 (by omega) (by omega)
      omega
    have hrun := run_make (P := P) w t e i z hu hi hz kl kc n m h0 h1 hb (by omega)
    have hlen : n.toNat * zs.length ≤ m.toNat * i.size := by rw [hsz]; exact Nat.mul_le_mul_right _ (by omega)
    have hm := sim.made (blk := ⟨e, n.toNat * zs.length, fun i => .val (zs.getD (i % zs.length) undef)⟩) (cells := madeCells z.cells (m.toNat * i.size)) rfl (by simpa [size_madeCells] using hlen) (fun j hj => by
      simp only [] at hj ⊢
      refine ⟨zs.getD (j % zs.length) undef, ?_, rfl⟩
      have hj' : j < m.toNat * i.size := by omega
      have hmod : j % zs.length < zs.length := Nat.mod_lt _ hpos
      simp [madeCells, hj', hzs, hmod])
    unfold Oper.wp
    have e1 : (execOp a.eval o).run P w = .ok (.value (.slice (some ⟨w.heap.size, 0, none⟩) n.toNat m.toNat)) (w.alloc (.cells (madeCells z.cells (m.toNat * i.size)) e)) := by
      unfold execOp
      simp only [ho, el, ec, Sem.run_bind, hrun, Result.andThen_ok]; rfl
    rw [e1, Oper.upon_value, hd]
    refine hn _ _ _ hK ⟨_, hm.put (d := d) hlt (v := .one (.own s.h.length zs.length 0 n.toNat)) (.inr ⟨w.heap.size, m.toNat, (madeCells z.cells (m.toNat * i.size)).size, ?_, rfl, by omega, by unfold maxLen; omega, ?_⟩)⟩
    · rw [← sim.heap.len]; simp
    · simp [size_madeCells, hsz]
  · exact h.elim

theorem run_append_none (t ty e : TypeId) (i : TypeInfo) (hu : P.underlying t = some (.slice e)) (hi : P.info? e = some i) (A : Option Addr) (n c m : Nat) (hc : n ≤ c) (w : World) :
    (Builtin.append_ #[t, t] ty #[.slice A n c, .slice none 0 m]).run P w = .ok (.slice A n c) w := by
  cases A <;> simp [Builtin.append_, run_underlying hu, sizeOf, typeInfo, hi, Builtin.lenOf, Builtin.firstCells, hc, storeCells]

/-- What srcK finds, as cells. -/
theorem srcK_ok (sim : SimAt w0 S0 s φ a w) {y : Operand} {K : Nat → Nat → (Nat → V) → Prop} (h : srcK s y K) : ∃ sz m g A c, K sz m g ∧ a.eval y = .slice A m c ∧ m ≤ c ∧
    (0 < m * sz → ∃ b off, A = some ⟨b, off, none⟩ ∧ ∀ i, i < m * sz → ∃ x, w.cell? ⟨b, off + i, none⟩ = some x ∧ Rd w (Stab w0 S0 s.h φ) (g i) x) := by
  unfold srcK at h
  split at h
  · rename_i sz m g hy
    obtain ⟨A, c, e, hc, hr⟩ := sim.opd hy
    exact ⟨sz, m, g, A, c, h, e, hc, fun hp => by obtain ⟨b, off, h1, _, h2⟩ := hr hp; exact ⟨b, off, h1, h2⟩⟩
  · rename_i id sz off m hy
    split at h
    · rename_i b hb
      rcases sim.opd hy with ⟨_, rfl, rfl, e⟩ | ⟨b', c, z, hφ, e, hc, _, _⟩
      · exact ⟨sz, 0, _, none, 0, h.2, e, Nat.le_refl _, fun hp => by simp at hp⟩
      · obtain ⟨cur, _, hB, hcur, hn, hx⟩ := sim.blkAt hb hφ
        refine ⟨sz, m, _, _, c, h.2, e, hc, fun hp => ⟨b', off, rfl, fun i hi => ?_⟩⟩
        obtain ⟨x, hx1, hx2⟩ := hx (off + i) (by have := h.1; omega)
        exact ⟨x, cell_of_blk hcur hx1, hx2⟩
    · exact h.elim
  · exact h.elim

/-- append onto a slice of the call's own. -/
theorem grow_ok {ty t : TypeId} {d id sz n sz' m : Nat} {g : Nat → V} {K : ASt → Prop} (sim : SimAt w0 S0 s φ a w) (hlt : d < s.nt) {u : Value} (hu : RdS w (Stab w0 S0 s.h φ) φ (.own id sz 0 n) u) (h : growK P s t d K id sz n sz' m g)
    {A : Option Addr} {c : Nat} (hc : m ≤ c) (hsrc : 0 < m * sz' → ∃ b off, A = some ⟨b, off, none⟩ ∧ ∀ i, i < m * sz' → ∃ x, w.cell? ⟨b, off + i, none⟩ = some x ∧ Rd w (Stab w0 S0 s.h φ) (g i) x) :
    ∃ s' v' w', K s' ∧ (Builtin.append_ #[t, t] ty #[u, .slice A m c]).run P w = .ok v' w' ∧ Sim w0 S0 s' (a.put (some d) v') w' := by
  unfold growK at h
  split at h
  · rename_i blk e zs hb hinfo
    obtain ⟨rfl, rfl, rfl, hn, hnm, hone1, hone2, hK⟩ := h
    obtain ⟨i, z, hu', hi, hz, hsz, hzs, hpos, hby⟩ := elemInfo_some hinfo
    have hl := sim.heap.len
    -- what the old slice owns
    obtain ⟨xs, hown, hxs⟩ : ∃ xs : List Value, w.ownsRow w0.heap.size blk.elem zs.length u n xs ∧ ∀ j, j < n * zs.length → ∃ x, xs[j]? = some x ∧ Rd w (Stab w0 S0 s.h φ) (blk.f j) x := by
      rcases hu with ⟨_, _, rfl, rfl⟩ | ⟨b, c', z', hφ, rfl, h1, h2, h3⟩
      · exact ⟨[], ⟨by simp, .inl ⟨rfl, rfl⟩⟩, fun j hj => by simp at hj⟩
      · obtain ⟨cur, hz', hB, hcur, hn', hx⟩ := sim.blkAt hb hφ
        refine ⟨cur.toList.take (n * zs.length), ⟨by simp; omega, .inr ⟨b, c', cur, rfl, hB, hcur, h1, h2, by omega, rfl⟩⟩, fun j hj => ?_⟩
        obtain ⟨x, hx1, hx2⟩ := hx j (by omega)
        exact ⟨x, by rw [List.getElem?_take, if_pos hj]; simpa using hx1, hx2⟩
    -- what is appended
    obtain ⟨news, hnl, hnews, hcells⟩ : ∃ news : List Value, news.length = m * zs.length ∧ (∀ j, j < m * zs.length → ∃ x, news[j]? = some x ∧ Rd w (Stab w0 S0 s.h φ) (g j) x) ∧
        (0 < m * zs.length → ∃ b off, A = some ⟨b, off, none⟩ ∧ ∀ j x, news[j]? = some x → w.cell? ⟨b, off + j, none⟩ = some x) := by
      rcases Nat.eq_zero_or_pos (m * zs.length) with h0 | h0
      · exact ⟨[], by simp [h0], fun j hj => by omega, fun hp => by omega⟩
      · obtain ⟨b, off, hA, hx⟩ := hsrc h0
        have hg : ∀ j, j < m * zs.length → w.cell? ⟨b, off + j, none⟩ = some ((w.cell? ⟨b, off + j, none⟩).getD undef) ∧ Rd w (Stab w0 S0 s.h φ) (g j) ((w.cell? ⟨b, off + j, none⟩).getD undef) := fun j hj => by
          obtain ⟨x, hx1, hx2⟩ := hx j hj
          rw [hx1]; exact ⟨rfl, hx2⟩
        refine ⟨(List.range (m * zs.length)).map fun j => (w.cell? ⟨b, off + j, none⟩).getD undef, by simp, fun j hj => ⟨_, by simp [hj], (hg j hj).2⟩, fun _ => ⟨b, off, hA, fun j x hjx => ?_⟩⟩
        have hj : j < m * zs.length := by simpa using (List.getElem?_eq_some_iff.1 hjx).1
        simp [hj] at hjx
        rw [← hjx]; exact (hg j hj).1
    have h1 : ∀ x ∈ news, x.oneCell' = true := fun x hx => by
      obtain ⟨j, hj, hjx⟩ := List.mem_iff_getElem.1 hx
      obtain ⟨y, hy1, hy2⟩ := hnews j (by omega)
      rw [List.getElem?_eq_getElem hj, hjx] at hy1
      injection hy1 with hy1; subst hy1
      exact Rd.one (hone2 j (by omega)) hy2
    have hbytes : (n + m) * i.bytes ≤ 140737488355328 := by
      have : (n + m) * i.bytes ≤ 1099511627776 * 64 := Nat.mul_le_mul hnm hby
      omega
    obtain ⟨v', w', hrun, hown', hgrow, hwhere⟩ : ∃ v' w', (Builtin.append_ #[t, t] ty #[u, .slice A m c]).run P w = .ok v' w' ∧ w'.ownsRow w0.heap.size blk.elem zs.length v' (n + m) (xs ++ news) ∧ w.grownBy w' u.ownBlock ∧
        (v'.ownBlock = u.ownBlock ∨ v'.ownBlock = some w.heap.size) := by
      cases A with
      | none =>
        have hm0 : m = 0 := by
          rcases Nat.eq_zero_or_pos m with h0 | h0
          · exact h0
          · obtain ⟨_, _, hA, _⟩ := hcells (Nat.mul_pos h0 hpos); cases hA
        subst hm0
        have hn0 : news = [] := List.eq_nil_of_length_eq_zero (by simpa using hnl)
        subst hn0
        rcases hown.2 with ⟨rfl, rfl⟩ | ⟨g', cap, cur, rfl, _, _, hcap, _⟩
        · exact ⟨_, w, run_append_none t ty _ i hu' hi _ _ _ _ (Nat.le_refl _) w, by simpa using hown, World.grownBy.refl w _, .inl rfl⟩
        · exact ⟨_, w, run_append_none t ty _ i hu' hi _ _ _ _ hcap w, by simpa using hown, World.grownBy.refl w _, .inl rfl⟩
      | some ad =>
        have hnews' : ∀ j x, news[j]? = some x → w.cell? (ad.add j) = some x := fun j x hjx => by
          have hp : 0 < m * zs.length := by have := (List.getElem?_eq_some_iff.1 hjx).1; omega
          obtain ⟨b, off, hA, hx⟩ := hcells hp
          injection hA with hA; subst hA
          rw [add_none]; exact hx j x hjx
        obtain ⟨v', w', r1, r2, r3, _, r5⟩ := run_append_own_at (P := P) w w0.heap.size t ty blk.elem i z zs.length i.bytes hu' hi hz hsz rfl (by simp [hzs]) hpos u n xs hown ad m c news hnl hnews' h1 (by unfold maxLen; omega) hbytes sim.heap.below.size
        exact ⟨v', w', r1, r2, r3, r5⟩
    have hxl : xs.length = n * zs.length := hown.1
    obtain ⟨sim', hv'⟩ := sim.grown (g := g) hb hu hxl hxs hnews hown' hgrow hwhere
    exact ⟨_, v', w', hK, hrun, _, sim'.put (d := d) hlt hv'⟩
  · exact h.elim

/-- A nil slice counts as one of the call's own that has no block yet. -/
theorem SimAt.virtual (sim : SimAt w0 S0 s φ a w) (e : TypeId) : SimAt w0 S0 { s with h := s.h ++ [some ⟨e, 0, fun _ => .val undef⟩] } (φ ++ [none]) a w := by
  have hh : Heap w (Stab w0 S0 s.h φ) [some ⟨e, 0, fun _ => .val undef⟩] [none] w := by
    refine ⟨rfl, Below.refl _ _, fun id b hi => ?_, fun i j bi bj b z z' h1 h2 h3 _ => ?_⟩
    · cases id with
      | zero => simp at hi; subst hi; exact .inl ⟨rfl, rfl⟩
      | succ id => simp at hi
    · cases i <;> simp at h3
  exact sim.join hh fun id bk i x hi hlt hr => by
    cases id with
    | zero => simp at hi; subst hi; simp at hlt
    | succ id => simp at hi

theorem append_ok {o : Oper} {t : TypeId} {x y : Operand} {d : Nat} {K : ASt → Prop} (sim : SimAt w0 S0 s φ a w) (ho : o.op = .call { callee := .builtin .append, args := #[x, y], argTypes := #[t, t] }) (hd : o.dst = some d) (hlt : d < s.nt) (h : appendK P s t x y d K)
    {next : Act → World → Prop} {Q : Exit → Act → World → Prop} (hn : ∀ s' a' w', K s' → Sim w0 S0 s' a' w' → next a' w') : o.wp P a w next Q := by
  have fin : ∀ {v' w'}, (Builtin.append_ #[t, t] o.type #[a.eval x, a.eval y]).run P w = .ok v' w' → (execOp a.eval o).run P w = .ok (.value v') w' := fun {v' w'} hr => by
    unfold execOp
    simp only [ho, resolve, invoke, builtin, Sem.run_bind, Sem.run_pure, Result.andThen_ok, List.map_toArray, List.map_cons, List.map_nil, hr]
  unfold appendK at h
  split at h
  · rename_i id sz n hx
    obtain ⟨sz', m, g, A, c, hg, ey, hc, hsrc⟩ := srcK_ok sim h
    obtain ⟨s', v', w', hK, hrun, hs⟩ := grow_ok (ty := o.type) sim hlt (sim.opd hx) hg hc hsrc
    rw [← ey] at hrun
    unfold Oper.wp
    rw [fin hrun, Oper.upon_value, hd]
    exact hn _ _ _ hK hs
  · rename_i hx
    have ex := val_of sim hx
    split at h
    · rename_i e zs hinfo
      obtain ⟨sz', m, g, A, c, hg, ey, hc, hsrc⟩ := srcK_ok sim h
      have sim' := sim.virtual e
      have hst : ∀ b, Stab w0 S0 s.h φ b → b < w.heap.size → Stab w0 S0 (s.h ++ [some ⟨e, 0, fun _ => .val undef⟩]) (φ ++ [none]) b ∧ w.heap[b]? = w.heap[b]? := fun b hb _ => ⟨⟨hb.1, fun hl => by
        rcases (live_append sim.heap.len).1 hl with h1 | ⟨k, bk, z, h1, h2⟩
        · exact hb.2 h1
        · cases k <;> simp at h2⟩, rfl⟩
      have hown : RdS w (Stab w0 S0 (s.h ++ [some ⟨e, 0, fun _ => .val undef⟩]) (φ ++ [none])) (φ ++ [none]) (.own s.h.length zs.length 0 0) (.slice none 0 0) :=
        .inl ⟨by rw [← sim.heap.len]; simp, rfl, rfl, rfl⟩
      obtain ⟨s', v', w', hK, hrun, hs⟩ := grow_ok (ty := o.type) sim' hlt hown hg hc (fun hp => by
        obtain ⟨b, off, h1, h2⟩ := hsrc hp
        refine ⟨b, off, h1, fun i hi => ?_⟩
        obtain ⟨x, hx1, hx2⟩ := h2 i hi
        exact ⟨x, hx1, Rd.mono hst _ _ hx2⟩)
      rw [← ey, ← ex] at hrun
      unfold Oper.wp
      rw [fin hrun, Oper.upon_value, hd]
      exact hn _ _ _ hK hs
    · exact h.elim
  · exact h.elim

end
end Go.Proofs.Ytpolbgenoicckaa
