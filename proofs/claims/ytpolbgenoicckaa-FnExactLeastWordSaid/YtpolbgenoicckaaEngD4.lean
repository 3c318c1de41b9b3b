/- Literals, variables in memory, cuts and conversions, by the abstract state and by the model. No conditions. -/
import Derived.Test.YtpolbgenoicckaaEngD3
namespace Go.Proofs.Ytpolbgenoicckaa
set_option linter.unusedSimpArgs false
set_option linter.unusedVariables false
open Go.RowKit

/-- Parts of a literal put one by one into the cells f. pl: where a part lies, and how many cells it has (none: one cell). -/
def partsK (pl : Nat → Option (Nat × Option Nat)) (N : Nat) : List (Nat × Operand) → ASt → (Nat → V) → (ASt → (Nat → V) → Prop) → Prop
  | [], s, f, K => K s f
  | (k, x) :: ps, s, f, K =>
    match pl k with
    | some (o, none) => frz s x fun s' v => v.one = true ∧ o < N ∧ partsK pl N ps s' (fun i => if i = o then v else f i) K
    | some (o, some n) => frz s x fun s' v =>
      match v with
      | .agg n' g => n = n' ∧ o + n ≤ N ∧ partsK pl N ps s' (fun i => if o ≤ i ∧ i < o + n then g (i - o) else f i) K
      | _ => False
    | none => False

def sizeIn (c : Option Nat) : Nat := c.getD 1

/-- Where element k of a slice lies. -/
def plSlice (sz : Nat) (st : Bool) (k : Nat) : Option (Nat × Option Nat) :=
  if st then some (k * sz, some sz) else if sz = 1 then some (k, none) else none

/-- Where a struct's fields lie. -/
def placesOf (P : Program) (t : TypeId) : Option (List (Nat × Nat)) :=
  match P.underlying t with
  | some (.struct fs) => fs.toList.mapM fun f => (P.info? f.type).map fun i => (f.offset, i.size)
  | _ => none

/-- A struct value out of its parts. -/
def buildK (P : Program) (s : ASt) (t : TypeId) (ps : List (Nat × Operand)) (d : Nat) (K : ASt → Prop) : Prop :=
  match zeroOf P t with
  | some zs => (placesOf P t).isSome = true ∧ partsK (fieldIn P t) zs.length ps s (fun i => .val (zs.getD i undef)) fun s' f => K { s' with σ := upd s'.σ d (.one (.pv (.agg zs.length f))) }
  | none => False

/-- Is an element a struct? -/
def elemAgg (P : Program) (t : TypeId) : Option Bool :=
  match P.underlying t with
  | some (.slice e) => (cellsIn P e).map Option.isSome
  | _ => none

def buildSliceK (P : Program) (s : ASt) (t : TypeId) (n : Nat) (ps : List (Nat × Operand)) (d : Nat) (K : ASt → Prop) : Prop :=
  match elemInfo P t, elemAgg P t with
  | some (e, zs), some st => n ≤ 65536 ∧ zs.length ≤ 64 ∧
    partsK (plSlice zs.length st) (n * zs.length) ps s (fun i => .val (zs.getD (i % zs.length) undef)) fun s' f => K (newBlk s' d (.own s'.h.length zs.length 0 n) ⟨e, n * zs.length, f⟩)
  | _, _ => False

def boxV (t : TypeId) (d : Nat) (K : ASt → Prop) (s : ASt) (v : V) : Prop :=
  match v with
  | .agg n g => K (newBlk s d (.ptr s.h.length 0) ⟨t, n, g⟩)
  | v => v.one = true ∧ K (newBlk s d (.ptr s.h.length 0) ⟨t, 1, fun _ => v⟩)

def allocK (P : Program) (s : ASt) (t : TypeId) (d : Nat) (K : ASt → Prop) : Prop :=
  match zeroOf P t with
  | some zs => K (newBlk s d (.ptr s.h.length 0) ⟨t, zs.length, fun i => .val (zs.getD i undef)⟩)
  | none => False

section
variable {P : Program} {w0 : World} {S0 : Nat → Prop} {φ : List (Option (Nat × Nat))} {a : Act} {w : World}

theorem foldl_set (off : Nat) : ∀ (l : List Value) (k : Nat) (cs : Array Value), ∃ cs', (l.zipIdx k).foldl (fun cs (x : Value × Nat) => cs.setIfInBounds (off + x.2) x.1) cs = cs' ∧ cs'.size = cs.size ∧
    (∀ i, (i < off + k ∨ off + k + l.length ≤ i) → cs'[i]? = cs[i]?) ∧ ∀ j, j < l.length → off + k + j < cs.size → cs'[off + k + j]? = l[j]?
  | [], k, cs => ⟨cs, rfl, rfl, fun _ _ => rfl, fun j hj => by simp at hj⟩
  | v :: l, k, cs => by
    obtain ⟨cs', h1, h2, h3, h4⟩ := foldl_set off l (k + 1) (cs.setIfInBounds (off + k) v)
    refine ⟨cs', by simpa [List.zipIdx_cons] using h1, by simpa using h2, fun i hi => ?_, fun j hj hs => ?_⟩
    · simp only [List.length_cons] at hi
      rw [h3 i (by omega), Array.getElem?_setIfInBounds_ne (by omega)]
    · cases j with
      | zero =>
        rw [Nat.add_zero, h3 (off + k) (.inl (by omega))]
        simp at hs ⊢; simp [hs]
      | succ j =>
        have := h4 j (by simpa using hj) (by simp; omega)
        rw [show off + k + (j + 1) = off + (k + 1) + j by omega, this]; simp

theorem fill_set (off : Nat) (v : Value) (cells : Array Value) : ∃ cs' : Array Value, v.cells.zipIdx.foldl (fun cs (x : Value × Nat) => cs.setIfInBounds (off + x.2) x.1) cells = cs' ∧ cs'.size = cells.size ∧
    (∀ i, (i < off ∨ off + v.cells.size ≤ i) → cs'[i]? = cells[i]?) ∧ ∀ j, j < v.cells.size → off + j < cells.size → cs'[off + j]? = v.cells[j]? := by
  obtain ⟨cs', h1, h2, h3, h4⟩ := foldl_set off v.cells.toList 0 cells
  refine ⟨cs', ?_, h2, fun i hi => h3 i (by simpa using hi), fun j hj hs => by simpa using h4 j (by simpa using hj) (by simpa using hs)⟩
  rw [← h1, ← Array.foldl_toList]
  congr 1
  simp

theorem partsK_ok {pl : Nat → Option (Nat × Option Nat)} {N : Nat} {place : Nat → Option (Nat × Nat)} (hpl : ∀ k o c, pl k = some (o, c) → place k = some (o, sizeIn c)) {K : ASt → (Nat → V) → Prop} :
    ∀ (ps : List (Nat × Operand)) (s : ASt) (f : Nat → V) (cells : Array Value), SimAt w0 S0 s φ a w → partsK pl N ps s f K → cells.size = N → (∀ i, i < N → ∃ x, cells[i]? = some x ∧ Rd w (Stab w0 S0 s.h φ) (f i) x) →
    ∃ s' f' cells', K s' f' ∧ SimAt w0 S0 s' φ a w ∧ Instr.fill place cells (ps.map fun p => (p.1, a.eval p.2)) = some cells' ∧ cells'.size = N ∧ (∀ i, i < N → ∃ x, cells'[i]? = some x ∧ Rd w (Stab w0 S0 s'.h φ) (f' i) x) ∧ s'.σ = s.σ ∧ s'.nt = s.nt ∧ s'.h.length = s.h.length
  | [], s, f, cells, sim, h, hsz, hx => ⟨s, f, cells, h, sim, rfl, hsz, hx, rfl, rfl, rfl⟩
  | (k, x) :: ps, s, f, cells, sim, h, hsz, hx => by
    unfold partsK at h
    split at h
    · rename_i o hp
      obtain ⟨s', v, ⟨h1, h2, h3⟩, sim', hr, e1, e2, hsub⟩ := frz_ok sim h
      have hlen : s'.h.length = s.h.length := by rw [← sim'.heap.len, ← sim.heap.len]
      have hst : ∀ b, Stab w0 S0 s.h φ b → b < w.heap.size → Stab w0 S0 s'.h φ b ∧ w.heap[b]? = w.heap[b]? := fun b hb _ => ⟨⟨hb.1, fun ⟨i, y, z, g1, g2⟩ => hb.2 ⟨i, y, z, hsub i y g1, g2⟩⟩, rfl⟩
      have hone := Rd.one h1 hr
      have hcl : (a.eval x).cells = #[a.eval x] := by generalize a.eval x = u at hone; cases u <;> first | rfl | simp [Value.oneCell'] at hone
      obtain ⟨cs', g1, g2, g3, g4⟩ := fill_set o (a.eval x) cells
      obtain ⟨s2, f2, c2, k1, k2, k3, k4, k5, k6, k7, k8⟩ := partsK_ok hpl ps s' _ cs' sim' h3 (by omega) (fun i hi => by
        by_cases e : i = o
        · subst e
          rw [if_pos rfl]
          refine ⟨a.eval x, ?_, hr⟩
          have := g4 0 (by simp [hcl]) (by omega)
          rw [Nat.add_zero, hcl] at this
          rw [this]; rfl
        · rw [if_neg e]
          obtain ⟨y, hy1, hy2⟩ := hx i hi
          exact ⟨y, by rw [g3 i (by simp [hcl]; omega)]; exact hy1, Rd.mono hst _ _ hy2⟩)
      refine ⟨s2, f2, c2, k1, k2, ?_, k4, k5, k6.trans e1, k7.trans e2, k8.trans hlen⟩
      rw [← k3]
      simp only [List.map_cons, Instr.fill, hpl k o none hp, sizeIn, Option.getD_none, hcl]
      rw [if_neg (by simp; omega)]
      rw [hcl] at g1
      rw [← g1]
    · rename_i o n hp
      obtain ⟨s', v, h1, sim', hr, e1, e2, hsub⟩ := frz_ok sim h
      have hlen : s'.h.length = s.h.length := by rw [← sim'.heap.len, ← sim.heap.len]
      have hst : ∀ b, Stab w0 S0 s.h φ b → b < w.heap.size → Stab w0 S0 s'.h φ b ∧ w.heap[b]? = w.heap[b]? := fun b hb _ => ⟨⟨hb.1, fun ⟨i, y, z, g1, g2⟩ => hb.2 ⟨i, y, z, hsub i y g1, g2⟩⟩, rfl⟩
      split at h1
      · rename_i n' g
        obtain ⟨rfl, h2, h3⟩ := h1
        obtain ⟨cs, ex, hn, hcs⟩ := hr
        have hcl : (a.eval x).cells = cs := by rw [ex]; rfl
        obtain ⟨cs', g1, g2, g3, g4⟩ := fill_set o (a.eval x) cells
        obtain ⟨s2, f2, c2, k1, k2, k3, k4, k5, k6, k7, k8⟩ := partsK_ok hpl ps s' _ cs' sim' h3 (by omega) (fun i hi => by
          by_cases e : o ≤ i ∧ i < o + n
          · rw [if_pos e]
            obtain ⟨y, hy1, hy2⟩ := hcs (i - o) (by omega)
            refine ⟨y, ?_, hy2⟩
            have := g4 (i - o) (by rw [hcl]; omega) (by omega)
            rw [show o + (i - o) = i by omega, hcl] at this
            rw [this]; exact hy1
          · rw [if_neg e]
            obtain ⟨y, hy1, hy2⟩ := hx i hi
            exact ⟨y, by rw [g3 i (by rw [hcl]; omega)]; exact hy1, Rd.mono hst _ _ hy2⟩)
        refine ⟨s2, f2, c2, k1, k2, ?_, k4, k5, k6.trans e1, k7.trans e2, k8.trans hlen⟩
        rw [← k3]
        simp only [List.map_cons, Instr.fill, hpl k o (some n) hp, sizeIn, Option.getD_some, hcl]
        rw [if_neg (by simp; omega)]
        rw [hcl] at g1
        rw [← g1]
      · exact h1.elim
    · exact h.elim

theorem zeroOf_some {t : TypeId} {zs : List Value} (h : zeroOf P t = some zs) : ∃ i z, P.info? t = some i ∧ i.zero = some z ∧ z.cells = zs.toArray := by
  unfold zeroOf at h
  split at h
  · rename_i i hi
    obtain ⟨z, hz, e⟩ := Option.map_eq_some_iff.1 h
    exact ⟨i, z, hi, hz, by rw [← e]⟩
  · cases h

theorem SimAt.newBlk {s : ASt} (sim : SimAt w0 S0 s φ a w) {d : Nat} (hlt : d < s.nt) {v : SV} {u : Value} {blk : Blk} {cells : Array Value} (hn : blk.n ≤ cells.size)
    (hx : ∀ i, i < blk.n → ∃ x, cells[i]? = some x ∧ Rd w (Stab w0 S0 s.h φ) (blk.f i) x)
    (hv : ∀ (S : Nat → Prop) (w' : World), RdS w' S (φ ++ [some (w.heap.size, cells.size)]) v u) : Sim w0 S0 (Go.Proofs.Ytpolbgenoicckaa.newBlk s d v blk) (a.put (some d) u) (w.alloc (.cells cells blk.elem)) :=
  ⟨_, (sim.made rfl hn hx).put (d := d) hlt (hv _ _)⟩

theorem newPlace {s : ASt} (sim : SimAt w0 S0 s φ a w) (x : Nat × Nat) : (φ ++ [some x])[s.h.length]? = some (some x) := by rw [← sim.heap.len]; simp

theorem box_ok {s : ASt} {o : Oper} {t : TypeId} {x : Operand} {d : Nat} {K : ASt → Prop} (sim : SimAt w0 S0 s φ a w) (ho : o.op = .box t x) (hd : o.dst = some d) (hlt : d < s.nt) (h : frz s x (boxV t d K)) {next : Act → World → Prop} {Q : Exit → Act → World → Prop}
    (hn : ∀ s' a' w', K s' → Sim w0 S0 s' a' w' → next a' w') : o.wp P a w next Q := by
  obtain ⟨s', v, hv, sim', hr, e1, e2, _⟩ := frz_ok sim h
  have run : (execOp a.eval o).run P w = .ok (.value (.pointer (some ⟨w.heap.size, 0, none⟩))) (w.alloc (.cells (a.eval x).cells t)) := by
    unfold execOp
    simp only [ho]; rfl
  unfold Oper.wp
  rw [run, Oper.upon_value, hd]
  unfold boxV at hv
  split at hv
  · rename_i n g
    obtain ⟨cs, ex, hsz, hcs⟩ := hr
    have hc : (a.eval x).cells = cs := by rw [ex]; rfl
    rw [hc]
    exact hn _ _ _ hv (sim'.newBlk (by rw [e2]; exact hlt) (blk := ⟨t, n, g⟩) (by simp; omega) hcs fun S w' => ⟨_, _, newPlace sim' _, rfl⟩)
  · rename_i v' _
    have hone := Rd.one hv.1 hr
    have hc : (a.eval x).cells = #[a.eval x] := by generalize a.eval x = u at hone; cases u <;> first | rfl | simp [Value.oneCell'] at hone
    rw [hc]
    refine hn _ _ _ hv.2 (sim'.newBlk (by rw [e2]; exact hlt) (blk := ⟨t, 1, fun _ => v⟩) (by simp) (fun i hi => ⟨a.eval x, ?_, hr⟩) fun S w' => ⟨_, _, newPlace sim' _, rfl⟩)
    have : i = 0 := by simp at hi; omega
    subst this; rfl

theorem alloc_ok {s : ASt} {o : Oper} {t : TypeId} {d : Nat} {K : ASt → Prop} (sim : SimAt w0 S0 s φ a w) (ho : o.op = .alloc t) (hd : o.dst = some d) (hlt : d < s.nt) (h : allocK P s t d K) {next : Act → World → Prop} {Q : Exit → Act → World → Prop}
    (hn : ∀ s' a' w', K s' → Sim w0 S0 s' a' w' → next a' w') : o.wp P a w next Q := by
  unfold allocK at h
  split at h
  · rename_i zs hzs
    obtain ⟨i, z, hi, hz, hc⟩ := zeroOf_some hzs
    have run : (execOp a.eval o).run P w = .ok (.value (.pointer (some ⟨w.heap.size, 0, none⟩))) (w.alloc (.cells z.cells t)) := by
      unfold execOp
      simp only [ho, Instr.alloc, zeroValue, typeInfo, Sem.run_bind, run_program, Result.andThen_ok, hi, hz, Sem.run_pure]; rfl
    unfold Oper.wp
    rw [run, Oper.upon_value, hd]
    refine hn _ _ _ h (sim.newBlk hlt (blk := ⟨t, zs.length, fun i => .val (zs.getD i undef)⟩) (by simp [hc]) (fun i hi => ⟨zs.getD i undef, ?_, rfl⟩) fun S w' => ⟨_, _, newPlace sim _, rfl⟩)
    simp at hi
    simp [hc, hi]
  · exact h.elim

theorem mapM_get {α β : Type} {f : α → Option β} : ∀ {l : List α} {r : List β}, l.mapM f = some r → ∀ (k : Nat) (x : α), l[k]? = some x → ∃ y, f x = some y ∧ r[k]? = some y
  | [], _, _, k, x, hx => by simp at hx
  | a :: l, r, h, k, x, hx => by
    simp only [List.mapM_cons, Option.bind_eq_bind, Option.pure_def] at h
    cases ha : f a with
    | none => simp [ha] at h
    | some y =>
      cases hl : l.mapM f with
      | none => simp [ha, hl] at h
      | some r' =>
        simp [ha, hl] at h
        subst h
        cases k with
        | zero => simp at hx; subst hx; exact ⟨y, ha, rfl⟩
        | succ k => obtain ⟨y', h1, h2⟩ := mapM_get hl k x (by simpa using hx); exact ⟨y', h1, by simpa using h2⟩

theorem build_ok {s : ASt} {o : Oper} {t : TypeId} {parts : Array (Nat × Operand)} {d : Nat} {K : ASt → Prop} (sim : SimAt w0 S0 s φ a w) (ho : o.op = .build t parts) (hd : o.dst = some d) (hlt : d < s.nt) (h : buildK P s t parts.toList d K)
    {next : Act → World → Prop} {Q : Exit → Act → World → Prop} (hn : ∀ s' a' w', K s' → Sim w0 S0 s' a' w' → next a' w') : o.wp P a w next Q := by
  unfold buildK at h
  split at h
  · rename_i zs hzs
    obtain ⟨hpl, h⟩ := h
    obtain ⟨places, hplaces⟩ := Option.isSome_iff_exists.1 hpl
    obtain ⟨i, z, hi, hz, hc⟩ := zeroOf_some hzs
    have hst : ∃ fs, P.underlying t = some (.struct fs) ∧ fs.toList.mapM (fun f => (P.info? f.type).map fun i => (f.offset, i.size)) = some places := by
      unfold placesOf at hplaces
      split at hplaces
      · rename_i fs hu; exact ⟨fs, hu, hplaces⟩
      · cases hplaces
    obtain ⟨fs, hu, hmap⟩ := hst
    obtain ⟨s', f', cells', hK, sim', hfill, hcs, hcx, e1, e2, e3⟩ := partsK_ok (place := fun k => places.toArray[k]?) (fun k o c hp => by
      obtain ⟨fs', f, i', hu', hf, rfl, hi', hsz, hcf⟩ := fieldIn_some hp
      rw [hu] at hu'; injection hu' with hu'; injection hu' with hu'; subst hu'
      obtain ⟨y, h1, h2⟩ := mapM_get hmap k f (by simpa using hf)
      rw [hi'] at h1
      simp at h1
      subst h1
      have : sizeIn c = i'.size := by
        cases c with
        | none => obtain ⟨i2, h3, h4⟩ := cellsIn_size hcf; rw [hi'] at h3; injection h3 with h3; subst h3; simp [sizeIn, h4]
        | some n => obtain ⟨i2, h3, h4, _⟩ := cellsIn_many hcf; rw [hi'] at h3; injection h3 with h3; subst h3; simp [sizeIn, h4]
      rw [this]; simpa using h2) parts.toList s _ z.cells sim h (by simp [hc]) (fun j hj => ⟨zs.getD j undef, by simp [hc, hj], rfl⟩)
    have hmap2 : (parts.map fun p => (p.1, a.eval p.2)).toList = parts.toList.map fun p => (p.1, a.eval p.2) := by simp
    have hb : P.built t (parts.map fun p => (p.1, a.eval p.2)).toList = some cells' := by
      unfold Program.built
      rw [hi, hu]
      simp only [hz, hmap]
      rw [hmap2]; exact hfill
    have run : (execOp a.eval o).run P w = .ok (.value (.agg cells')) w := by
      have := run_build w t _ cells' hb
      unfold execOp
      simp only [ho, Sem.run_bind, this, Result.andThen_ok]; rfl
    unfold Oper.wp
    rw [run, Oper.upon_value, hd]
    exact hn _ _ _ hK ⟨φ, sim'.put (d := d) (by rw [e2]; exact hlt) ⟨cells', rfl, hcs, hcx⟩⟩
  · exact h.elim

theorem buildSlice_ok {s : ASt} {o : Oper} {t : TypeId} {n : Nat} {parts : Array (Nat × Operand)} {d : Nat} {K : ASt → Prop} (sim : SimAt w0 S0 s φ a w) (ho : o.op = .buildSlice t n parts) (hd : o.dst = some d) (hlt : d < s.nt) (h : buildSliceK P s t n parts.toList d K)
    {next : Act → World → Prop} {Q : Exit → Act → World → Prop} (hn : ∀ s' a' w', K s' → Sim w0 S0 s' a' w' → next a' w') : o.wp P a w next Q := by
  unfold buildSliceK at h
  split at h
  · rename_i e zs st hinfo hagg
    obtain ⟨hn1, hn2, h⟩ := h
    obtain ⟨i, z, hu, hi, hz, hsz, hzs, hpos, hby⟩ := elemInfo_some hinfo
    obtain ⟨s', f', cells', hK, sim', hfill, hcs, hcx, e1, e2, e3⟩ := partsK_ok (place := fun i => some (i * zs.length, zs.length)) (fun k o c hp => by
      unfold plSlice at hp
      split at hp
      · injection hp with hp; injection hp with h1 h2; subst h1 h2; rfl
      · split at hp
        · rename_i h1; injection hp with hp; injection hp with h3 h4; subst h3 h4; simp [h1, sizeIn]
        · cases hp) parts.toList s _ ((Array.range (n * zs.length)).map (z.cells[· % z.cells.size]!)) sim h (by simp) (fun j hj => by
      have hmod : j % zs.length < zs.length := Nat.mod_lt _ hpos
      exact ⟨zs.getD (j % zs.length) undef, by simp [hj, hzs, hmod], rfl⟩)
    have hle : n * zs.length ≤ 65536 * 64 := Nat.mul_le_mul hn1 hn2
    have run : (execOp a.eval o).run P w = .ok (.value (.slice (some ⟨w.heap.size, 0, none⟩) n n)) (w.alloc (.cells cells' e)) := by
      have hmap : (parts.map fun p => (p.1, a.eval p.2)).toList = parts.toList.map fun p => (p.1, a.eval p.2) := by simp
      unfold execOp
      simp only [ho, Instr.buildSlice, Sem.run_bind, run_underlying hu, Result.andThen_ok, sizeOf, typeInfo, run_program, hi, hsz, Sem.run_pure, zeroValue]
      rw [if_neg (by omega)]
      by_cases h0 : n * zs.length = 0
      · simp only [h0, if_true, Sem.run_bind, Sem.run_pure, Result.andThen_ok]
        simp only [h0] at hfill
        simp only [Array.range_zero', Array.map_empty] at hfill ⊢
        rw [hmap, hfill]; rfl
      · simp only [h0, if_false, Sem.run_bind, Sem.run_pure, Result.andThen_ok, hi, hz, run_program]
        rw [hmap, hfill]; rfl
    unfold Oper.wp
    rw [run, Oper.upon_value, hd]
    refine hn _ _ _ hK (sim'.newBlk (by rw [e2]; exact hlt) (blk := ⟨e, n * zs.length, f'⟩) (by simp; omega) hcx fun S w' => .inr ⟨_, n, _, newPlace sim' _, rfl, Nat.le_refl _, by unfold maxLen; omega, by rw [hcs]; simp⟩)
  · exact h.elim

end
end Go.Proofs.Ytpolbgenoicckaa
