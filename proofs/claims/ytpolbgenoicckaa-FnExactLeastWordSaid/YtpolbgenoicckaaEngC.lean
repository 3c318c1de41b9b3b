/- The model's quiet operations give what the abstract state says. No conditions. -/
import Derived.Test.YtpolbgenoicckaaEngB
namespace Go.Proofs.Ytpolbgenoicckaa
set_option linter.unusedSimpArgs false
set_option linter.unusedVariables false
open Go.RowKit

def RdL (w : World) (S : Nat → Prop) : List V → List Value → Prop
  | [], [] => True
  | v :: vs, u :: us => Rd w S v u ∧ RdL w S vs us
  | _, _ => False

theorem RdL.append {w : World} {S : Nat → Prop} : ∀ (vs : List V) (us : List Value) (v : V) (u : Value), RdL w S vs us → Rd w S v u → RdL w S (vs ++ [v]) (us ++ [u])
  | [], [], _, _, _, h => ⟨h, trivial⟩
  | [], _ :: _, _, _, h, _ => h.elim
  | _ :: _, [], _, _, h, _ => h.elim
  | _ :: vs, _ :: us, v, u, h, h' => ⟨h.1, RdL.append vs us v u h.2 h'⟩

theorem RdL.get {w : World} {S : Nat → Prop} : ∀ (vs : List V) (us : List Value) (i : Nat) {v : V}, RdL w S vs us → vs[i]? = some v → ∃ u, us[i]? = some u ∧ Rd w S v u
  | [], _, _, _, _, h => by simp at h
  | _ :: _, [], _, _, h, _ => h.elim
  | y :: vs, u :: us, 0, v, h, hv => by simp at hv; subst hv; exact ⟨u, by simp, h.1⟩
  | y :: vs, u :: us, i + 1, v, h, hv => by
    obtain ⟨u', h1, h2⟩ := RdL.get vs us i h.2 (by simpa using hv)
    exact ⟨u', by simpa using h1, h2⟩

theorem RdL.len {w : World} {S : Nat → Prop} : ∀ (vs : List V) (us : List Value), RdL w S vs us → us.length = vs.length
  | [], [], _ => rfl
  | [], _ :: _, h => h.elim
  | _ :: _, [], h => h.elim
  | _ :: vs, _ :: us, h => by simp [RdL.len vs us h.2]

section
variable {P : Program} {w0 : World} {S0 : Nat → Prop} {s : ASt} {φ : List (Option (Nat × Nat))} {a : Act} {w : World}

/-- No load. -/
def noLoad (o : Oper) : Bool := match o.op with | .load _ _ => false | .convert _ _ _ => false | _ => true

/-- What is shown of a quiet operation: but for loads, whatever the world. -/
def Yields (P : Program) (w0 : World) (S0 : Nat → Prop) (s : ASt) (φ : List (Option (Nat × Nat))) (a : Act) (w : World) (o : Oper) (K : Slot → Prop) : Prop :=
  ∃ r v, K r ∧ RdSlot w (Stab w0 S0 s.h φ) φ r v ∧ ∀ w', (noLoad o = true ∨ Below w.heap.size w w') → (execOp a.eval o).run P w' = .ok (.value v) w'

theorem yields_withS {x : Operand} {K : Slot → Prop} (sim : SimAt w0 S0 s φ a w) (h : withS s x K) : ∃ r, K r ∧ RdSlot w (Stab w0 S0 s.h φ) φ r (a.eval x) := by
  unfold withS at h
  split at h
  · rename_i v hv; exact ⟨v, h, sim.opd hv⟩
  · exact h.elim

theorem val_of {x : Operand} {v : Value} (sim : SimAt w0 S0 s φ a w) (h : opd s x = some (.one (.pv (.val v)))) : a.eval x = v := sim.opd h

theorem elemSz_some {t : TypeId} {sz : Nat} (h : elemSz P t = some sz) : ∃ e i, P.underlying t = some (.slice e) ∧ P.info? e = some i ∧ i.size = sz := by
  unfold elemSz at h
  split at h
  · rename_i e he
    obtain ⟨i, hi, hs⟩ := Option.map_eq_some_iff.1 h
    exact ⟨e, i, he, hi, hs⟩
  · cases h

theorem run_indexAt {t e : TypeId} {i : TypeInfo} (hu : P.underlying t = some (.slice e)) (hi : P.info? e = some i) (b : Addr) (len cap : Nat) (k : IntKind) (n : Int) (h0 : 0 ≤ n) (h1 : n < len) (w' : World) :
    (Instr.indexAt t (.slice (some b) len cap) (.int k n)).run P w' = .ok (.pointer (some (b.add (n.toNat * i.size)))) w' := by
  simp [Instr.indexAt, asIntOf, run_underlying hu, sizeOf, typeInfo, hi, h0, h1]

theorem add_none (b off n : Nat) : (⟨b, off, none⟩ : Addr).add n = ⟨b, off + n, none⟩ := by
  unfold Addr.add
  split
  · rename_i h; subst h; rfl
  · rfl

theorem cellsIn_one {t : TypeId} (h : cellsIn P t = some none) (w' : World) : (isAgg t).run P w' = .ok false w' := by
  unfold cellsIn at h
  split at h
  · rename_i fs hu; cases hi : P.info? t <;> rw [hi] at h <;> simp at h
  · cases h
  · rename_i d _ _ hu
    simp only [isAgg, Sem.run_bind, run_underlying hu, Result.andThen_ok]
    rfl
  · cases h

theorem cellsIn_size {t : TypeId} (h : cellsIn P t = some none) : ∃ i, P.info? t = some i ∧ i.size = 1 := by
  unfold cellsIn at h
  split at h
  · rename_i fs hu; cases hi : P.info? t <;> rw [hi] at h <;> simp at h
  · cases h
  · split at h
    · rename_i e; obtain ⟨i, hi, hs⟩ := Option.map_eq_some_iff.1 e; exact ⟨i, hi, hs⟩
    · cases h
  · cases h

theorem cellsIn_many {t : TypeId} {n : Nat} (h : cellsIn P t = some (some n)) : ∃ i, P.info? t = some i ∧ i.size = n ∧ ∀ w' : World, (isAgg t).run P w' = .ok true w' := by
  unfold cellsIn at h
  split at h
  · rename_i fs hu
    obtain ⟨i, hi, hs⟩ := Option.map_eq_some_iff.1 h
    injection hs with hs
    exact ⟨i, hi, hs, fun w' => by simp [isAgg, run_underlying hu]⟩
  · cases h
  · split at h <;> cases h
  · cases h

theorem run_loadCells (b off : Nat) (f : Nat → Value) (w' : World) : ∀ (n i : Nat) (acc : Array Value), (∀ j, i ≤ j → j < i + n → w'.cell? ⟨b, off + j, none⟩ = some (f j)) →
    (loadCellsFrom ⟨b, off, none⟩ i n acc).run P w' = .ok (acc ++ ((List.range' i n).map f).toArray) w'
  | 0, i, acc, _ => by simp [loadCellsFrom]
  | n + 1, i, acc, h => by
    have h0 := h i (Nat.le_refl _) (by omega)
    simp only [loadCellsFrom, Sem.run_bind, add_none, run_load, h0, Result.andThen_ok]
    rw [run_loadCells b off f w' n (i + 1) (acc.push (f i)) (fun j h1 h2 => h j (by omega) (by omega))]
    simp [List.range'_succ]

/-- n cells that lie somewhere and read as f. -/
theorem run_loadVar_many {t : TypeId} {n : Nat} (hc : cellsIn P t = some (some n)) (b off : Nat) (g : Nat → Value) (w' : World) (h : ∀ j, j < n → w'.cell? ⟨b, off + j, none⟩ = some (g j)) :
    (Instr.loadAt t (.pointer (some ⟨b, off, none⟩))).run P w' = .ok (.agg ((List.range n).map g).toArray) w' := by
  obtain ⟨i, hi, hs, hagg⟩ := cellsIn_many hc
  have hl := run_loadCells (P := P) b off g w' n 0 #[] (fun j _ hj => h j (by omega))
  simp only [Instr.loadAt, Instr.sureAddr, loadVar, Sem.run_bind, Sem.run_pure, Result.andThen_ok, hagg, if_true, sizeOf, typeInfo, run_program, hi, hs, loadCells, hl]
  simp [List.range_eq_range']

theorem run_loadVar_one {t : TypeId} (hc : cellsIn P t = some none) (b off : Nat) (x : Value) (w' : World) (h : w'.cell? ⟨b, off, none⟩ = some x) :
    (Instr.loadAt t (.pointer (some ⟨b, off, none⟩))).run P w' = .ok x w' := by
  simp [Instr.loadAt, Instr.sureAddr, loadVar, cellsIn_one hc, h]

/-- A struct's value out of its cells. -/
theorem rd_agg {S : Nat → Prop} {n : Nat} {f : Nat → V} {g : Nat → Value} (h : ∀ j, j < n → Rd w S (f j) (g j)) : Rd w S (.agg n f) (.agg ((List.range n).map g).toArray) :=
  ⟨_, rfl, by simp, fun i hi => ⟨g i, by simp [hi], h i hi⟩⟩

theorem cell_of_blk {b i : Nat} {cur : Array Value} {e : TypeId} {x : Value} {fr : Nat × Nat} (h : w.heap[b]? = some (.cells cur e fr)) (hx : cur[i]? = some x) : w.cell? ⟨b, i, none⟩ = some x := by
  simp [World.cell?, h, hx]

/-- A block of the call's own that is known, with its cells. -/
theorem SimAt.blkAt (sim : SimAt w0 S0 s φ a w) {id b : Nat} {blk : Blk} (h : s.h[id]? = some (some blk)) {z : Nat} (hφ : φ[id]? = some (some (b, z))) :
    ∃ cur : Array Value, cur.size = z ∧ w0.heap.size ≤ b ∧ w.heap[b]? = some (.cells cur blk.elem (0, 0)) ∧ blk.n ≤ cur.size ∧ ∀ i, i < blk.n → ∃ x, cur[i]? = some x ∧ Rd w (Stab w0 S0 s.h φ) (blk.f i) x := by
  rcases sim.heap.blk id blk h with ⟨h1, _⟩ | ⟨b', cur, h1, h2⟩
  · rw [hφ] at h1; cases h1
  · rw [hφ] at h1; injection h1 with h1; injection h1 with h1; injection h1 with h1 h3; subst h1 h3
    exact ⟨cur, rfl, h2⟩

theorem yields_loadOwn {t : TypeId} {c : Option Nat} (hc : cellsIn P t = some c) {id b off : Nat} {K : Slot → Prop} (sim : SimAt w0 S0 s φ a w) {z : Nat} (hφ : φ[id]? = some (some (b, z))) (h : loadOwn s.h id off c K) :
    ∃ r v, K r ∧ RdSlot w (Stab w0 S0 s.h φ) φ r v ∧ ∀ w', Below w.heap.size w w' → (Instr.loadAt t (.pointer (some ⟨b, off, none⟩))).run P w' = .ok v w' := by
  unfold loadOwn at h
  split at h
  · rename_i blk hb
    obtain ⟨cur, _, _, hcur, hn, hx⟩ := sim.blkAt hb hφ
    cases c with
    | none =>
      simp only at h
      obtain ⟨x, hx1, hx2⟩ := hx off h.1
      refine ⟨_, x, h.2, hx2, fun w' hw' => run_loadVar_one hc _ _ _ _ ?_⟩
      rw [World.cell?_of_block (w := w) (a := ⟨b, off, none⟩) (hw'.block b (block_lt hcur))]
      exact cell_of_blk hcur hx1
    | some n =>
      simp only at h
      have hg : ∀ j, j < n → cur[off + j]? = some (cur.getD (off + j) undef) ∧ Rd w (Stab w0 S0 s.h φ) (blk.f (off + j)) (cur.getD (off + j) undef) := fun j hj => by
        obtain ⟨x, hx1, hx2⟩ := hx (off + j) (by omega)
        have : cur.getD (off + j) undef = x := by simp [hx1]
        rw [this]; exact ⟨hx1, hx2⟩
      refine ⟨_, _, h.2, rd_agg (g := fun j => cur.getD (off + j) undef) fun j hj => (hg j hj).2, fun w' hw' => run_loadVar_many hc _ _ _ _ fun j hj => ?_⟩
      rw [World.cell?_of_block (w := w) (a := ⟨b, off + j, none⟩) (hw'.block b (block_lt hcur))]
      exact cell_of_blk hcur (hg j hj).1
  · exact h.elim

theorem fieldIn_some {t : TypeId} {j o : Nat} {c : Option Nat} (h : fieldIn P t j = some (o, c)) :
    ∃ fs f i, P.underlying t = some (.struct fs) ∧ fs[j]? = some f ∧ f.offset = o ∧ P.info? f.type = some i ∧ i.size ≠ 0 ∧ cellsIn P f.type = some c := by
  unfold fieldIn at h
  split at h
  · rename_i fs hu
    split at h
    · rename_i f hf
      split at h
      · cases h
      · rename_i hsz
        obtain ⟨c', hc, he⟩ := Option.map_eq_some_iff.1 h
        injection he with h1 h2
        subst h2
        cases hi : P.info? f.type with
        | none => rw [hi] at hsz; exact absurd rfl hsz
        | some i => exact ⟨fs, f, i, hu, hf, h1, hi, by rw [hi] at hsz; exact hsz, hc⟩
    · cases h
  · cases h

theorem run_fieldAt {t : TypeId} {j o : Nat} {c : Option Nat} (h : fieldIn P t j = some (o, c)) (b off : Nat) (w' : World) :
    (Instr.fieldAt t (.pointer (some ⟨b, off, none⟩)) j).run P w' = .ok (.pointer (some ⟨b, off + o, none⟩)) w' := by
  obtain ⟨fs, f, i, hu, hf, rfl, hi, hsz, _⟩ := fieldIn_some h
  simp [Instr.fieldAt, run_underlying hu, hf, Instr.sureAddr, fieldPlace, sizeOf, typeInfo, hi, hsz, add_none]

theorem run_field_one {t : TypeId} {j o : Nat} (h : fieldIn P t j = some (o, none)) (cs : Array Value) (x : Value) (hx : cs[o]? = some x) (w' : World) :
    (Instr.field t (.agg cs) j).run P w' = .ok x w' := by
  obtain ⟨fs, f, i, hu, hf, rfl, hi, hsz, hc⟩ := fieldIn_some h
  simp [Instr.field, run_underlying hu, hf, asAgg, part, cellsIn_one hc, hx]

theorem run_field_many {t : TypeId} {j o n : Nat} (h : fieldIn P t j = some (o, some n)) (cs : Array Value) (w' : World) :
    (Instr.field t (.agg cs) j).run P w' = .ok (.agg (cs.extract o (o + n))) w' := by
  obtain ⟨fs, f, i, hu, hf, rfl, hi, hsz, hc⟩ := fieldIn_some h
  obtain ⟨i', hi', hs, hagg⟩ := cellsIn_many hc
  simp [Instr.field, run_underlying hu, hf, asAgg, part, hagg, sizeOf, typeInfo, hi', hs]

theorem min_eq (x y : Int) : (if y < x then y else x) = min x y := by rw [Int.min_def]; split <;> split <;> omega
theorem max_eq (x y : Int) : (if y > x then y else x) = max x y := by rw [Int.max_def]; split <;> split <;> omega

theorem elemSz_is {t : TypeId} (h : (elemSz P t).isSome = true) : P.underlying t = some (.slice (P.elem t)) := by
  unfold elemSz at h
  unfold Program.elem
  split at h
  · rename_i e he; rw [he]
  · cases h

theorem run_len_of {t ty : TypeId} (h : (elemSz P t).isSome = true) (A : Option Addr) (n c : Nat) (w' : World) :
    (Builtin.len_ #[t] ty #[.slice A n c]).run P w' = .ok (.int .i64 n) w' := run_len_slice w' t ty A n c (elemSz_is h)

theorem RdSs.get {S : Nat → Prop} : ∀ (vs : List SV) (us : List Value) (i : Nat) {v : SV}, RdSs w S φ vs us → vs[i]? = some v → ∃ u, us[i]? = some u ∧ RdS w S φ v u
  | [], _, _, _, _, h => by simp at h
  | _ :: _, [], _, _, h, _ => h.elim
  | y :: vs, u :: us, 0, v, h, hv => by simp at hv; subst hv; exact ⟨u, by simp, h.1⟩
  | y :: vs, u :: us, i + 1, v, h, hv => by
    obtain ⟨u', h1, h2⟩ := RdSs.get vs us i h.2 (by simpa using hv)
    exact ⟨u', by simpa using h1, h2⟩

theorem boundK_ok {o : Option Operand} {d : Nat} {K : Nat → Prop} (sim : SimAt w0 S0 s φ a w) (h : boundK s o d K) : ∃ n, K n ∧ ((o.map a.eval = none ∧ n = d) ∨ ∃ k, o.map a.eval = some (.int k (n : Int))) := by
  unfold boundK at h
  split at h
  · exact ⟨d, h, .inl ⟨rfl, rfl⟩⟩
  · split at h
    · rename_i k n hx
      have e := val_of sim hx
      exact ⟨n.toNat, h.2, .inr ⟨k, by rw [Int.toNat_of_nonneg h.1]; simp [e]⟩⟩
    · exact h.elim

theorem run_sliceBounds (b : Bool) (len cap l h : Nat) (lo hi : Option Value) (hlo : (lo = none ∧ l = 0) ∨ ∃ k, lo = some (.int k (l : Int))) (hhi : (hi = none ∧ h = len) ∨ ∃ k, hi = some (.int k (h : Int))) (hlh : l ≤ h) (hc : h ≤ cap) (w' : World) :
    (Instr.sliceBounds b len cap lo hi none).run P w' = .ok (l, h, cap) w' := by
  have bound : ∀ (k : IntKind) (n y : Nat) (c : BoundsCode), n ≤ y → (Instr.sliceBound (.int k (n : Int)) y c).run P w' = .ok n w' := fun k n y c hn => by
    simp [Instr.sliceBound, asIntOf, hn]
  rcases hlo with ⟨rfl, rfl⟩ | ⟨k, rfl⟩ <;> rcases hhi with ⟨rfl, rfl⟩ | ⟨k', rfl⟩ <;> simp [Instr.sliceBounds, bound, hlh, hc]

theorem cutK_ok {o : Oper} {t : TypeId} {x : Operand} {lo hi : Option Operand} {K : Slot → Prop} (sim : SimAt w0 S0 s φ a w) (ho : o.op = .slice t x lo hi none) (h : cutK P s t x lo hi K) : Yields P w0 S0 s φ a w o K := by
  unfold cutK at h
  split at h
  · rename_i b hx
    obtain ⟨hu, h⟩ := h
    have ex := val_of sim hx
    obtain ⟨l, h, hlo⟩ := boundK_ok sim h
    obtain ⟨hh, h, hhi⟩ := boundK_ok sim h
    obtain ⟨h1, h2, hK⟩ := h
    have hl : (bytesOf b).length = b.size := Array.length_toList
    refine ⟨_, .string ⟨(((bytesOf b).drop l).take (hh - l)).toArray⟩, hK, rfl, fun w' _ => ?_⟩
    have hr := run_sliceBounds (P := P) false b.size b.size l hh (lo.map a.eval) (hi.map a.eval) hlo (by rw [hl] at hhi; exact hhi) h1 (by omega) w'
    have e : b.extract l hh = ⟨(((bytesOf b).drop l).take (hh - l)).toArray⟩ := by
      have : (b.extract l hh).data.toList = ((bytesOf b).drop l).take (hh - l) := by
        simp [bytesOf]
      cases hb : b.extract l hh with
      | mk d => rw [hb] at this; simp only at this; rw [← this]
    unfold execOp
    simp only [ho, ex, Instr.sliceAt, Instr.slice, Sem.run_bind, run_underlying hu, Result.andThen_ok, Option.isSome_none, Option.map_none, Bool.false_eq_true, if_false, hr, Sem.run_pure, e]
  · rename_i sz n f hx
    obtain ⟨hsz, h⟩ := h
    obtain ⟨e, ii, hu, hii, rfl⟩ := elemSz_some hsz
    obtain ⟨A, c, ex, hc, hr⟩ := sim.opd hx
    obtain ⟨l, h, hlo⟩ := boundK_ok sim h
    obtain ⟨hh, h, hhi⟩ := boundK_ok sim h
    obtain ⟨h1, h2, hK⟩ := h
    have hb := run_sliceBounds (P := P) true n c l hh (lo.map a.eval) (hi.map a.eval) hlo hhi h1 (by omega)
    refine ⟨_, .slice (if c = l then A else A.map (·.add (l * ii.size))) (hh - l) (c - l), hK, ⟨_, _, rfl, by omega, fun hp => ?_⟩, fun w' _ => ?_⟩
    · have hpos : 0 < hh - l := by
        rcases Nat.eq_zero_or_pos (hh - l) with h0 | h0
        · rw [h0] at hp; simp at hp
        · exact h0
      have hle : (l + (hh - l)) * ii.size ≤ n * ii.size := Nat.mul_le_mul_right _ (by omega)
      rw [Nat.add_mul] at hle
      obtain ⟨b, off, rfl, hS, hr⟩ := hr (by omega)
      refine ⟨b, off + l * ii.size, by rw [if_neg (by omega)]; simp [add_none], hS, fun i hi => ?_⟩
      obtain ⟨x, hx1, hx2⟩ := hr (l * ii.size + i) (by omega)
      exact ⟨x, by rw [Nat.add_assoc]; exact hx1, hx2⟩
    · unfold execOp
      simp only [ho, ex, Instr.sliceAt, Instr.slice, Sem.run_bind, run_underlying hu, Result.andThen_ok, Option.map_none, hb w', sizeOf, typeInfo, run_program, hii, Sem.run_pure]
  · exact h.elim

theorem byteSrc_some {t : TypeId} (h : byteSrc P t = true) : ∃ e, P.underlying t = some (.slice e) ∧ P.underlying e = some (.int .u8) := by
  unfold byteSrc at h
  split at h
  · rename_i e he
    refine ⟨e, he, ?_⟩
    split at h
    · assumption
    · cases h
  · cases h

theorem agg_ints {S : Nat → Prop} {n : Nat} {f : Nat → V} {cs : Array Value} (hsz : cs.size = n) (hf : ∀ i, i < n → f i = .val (.int .i64 (vInt (f i)))) (hcs : ∀ i, i < n → ∃ x, cs[i]? = some x ∧ Rd w S (f i) x) :
    Value.agg cs = aggI n fun i => vInt (f i) := by
  unfold aggI
  congr 1
  apply Array.ext_getElem?
  intro i
  by_cases h : i < n
  · obtain ⟨x, hx, hr⟩ := hcs i h
    rw [hf i h] at hr
    have : x = .int .i64 (vInt (f i)) := hr
    rw [hx, this]; simp [h]
  · rw [Array.getElem?_eq_none (by omega), Array.getElem?_eq_none (by simp; omega)]

theorem capsK_ok (sim : SimAt w0 S0 s φ a w) {K : List V → Prop} : ∀ (xs : List Operand) (vs : List V) (us : List Value), capsK s xs vs K → RdL w (Stab w0 S0 s.h φ) vs.reverse us.reverse →
    ∃ vs', K vs' ∧ RdL w (Stab w0 S0 s.h φ) vs' (us.reverse ++ xs.map a.eval)
  | [], vs, us, h, h1 => ⟨vs.reverse, h, by simpa using h1⟩
  | x :: xs, vs, us, h, h1 => by
    unfold capsK at h
    split at h
    · rename_i v hv
      obtain ⟨vs', hK, h3⟩ := capsK_ok sim xs (v :: vs) (a.eval x :: us) h (by rw [List.reverse_cons, List.reverse_cons]; exact RdL.append _ _ _ _ h1 (sim.opd hv))
      exact ⟨vs', hK, by simpa using h3⟩
    · exact h.elim

set_option maxHeartbeats 1000000 in
theorem evQ_ok {o : Oper} {K : Slot → Prop} (h : evQ P s o.op K) (sim : SimAt w0 S0 s φ a w) : Yields P w0 S0 s φ a w o K := by
  obtain ⟨dst, op, ty, pos, after, guard⟩ := o
  change evQ P s op K at h
  unfold evQ at h
  split at h
  case h_1 x => obtain ⟨r, hK, hr⟩ := yields_withS sim h; exact ⟨r, _, hK, hr, fun _ _ => rfl⟩
  case h_2 x => obtain ⟨r, hK, hr⟩ := yields_withS sim h; exact ⟨r, _, hK, hr, fun _ _ => rfl⟩
  case h_3 c x y =>
    split at h
    · rename_i p hp
      have hc := val_of sim hp
      cases p with
      | true =>
        obtain ⟨r, hK, hr⟩ := yields_withS sim (h.1 rfl)
        exact ⟨r, _, hK, hr, fun w' _ => by simp [execOp, hc, asBool]⟩
      | false =>
        obtain ⟨r, hK, hr⟩ := yields_withS sim (h.2 rfl)
        exact ⟨r, _, hK, hr, fun w' _ => by simp [execOp, hc, asBool]⟩
    · exact h.elim
  case h_4 op t x y yt =>
    split at h
    · rename_i va vb hx hy
      obtain ⟨r, hK, hr⟩ := binK_ok h x y
      have ex := val_of sim hx
      have ey := val_of sim hy
      refine ⟨sc r, r, hK, rfl, fun w' _ => ?_⟩
      have := hr w'
      simp only [execOp, ex, ey, Sem.run_bind] at this ⊢
      rw [this]; rfl
    · rename_i n f m g hx hy
      obtain ⟨rfl, hS, hf, hg, hK⟩ := h
      obtain ⟨cs, ex, hsz, hcs⟩ := sim.opd hx
      obtain ⟨ds, ey, hsz', hds⟩ := sim.opd hy
      rw [agg_ints hsz hf hcs] at ex
      rw [agg_ints hsz' hg hds] at ey
      cases op <;> simp only at hK <;> first
        | exact hK.elim
        | skip
      · refine ⟨_, .bool (sameB n f g), hK, rfl, fun w' _ => ?_⟩
        have := (hS (fun i => vInt (f i)) (fun i => vInt (g i)) x y w').1
        simp only [execOp, ex, ey, Sem.run_bind] at this ⊢
        rw [this]; rfl
      · refine ⟨_, .bool (!sameB n f g), hK, rfl, fun w' _ => ?_⟩
        have := (hS (fun i => vInt (f i)) (fun i => vInt (g i)) x y w').2
        simp only [execOp, ex, ey, Sem.run_bind] at this ⊢
        rw [this]; rfl
    · exact h.elim
  case h_5 tt x =>
    split at h
    · rename_i p hp
      have hc := val_of sim hp
      exact ⟨sc (.bool (!p)), .bool (!p), h, rfl, fun w' _ => by simp only [execOp, hc]; simp [go_sem]⟩
    · exact h.elim
  case h_6 tt x =>
    split at h
    · rename_i k n hp
      have hc := val_of sim hp
      exact ⟨sc (.int k (-n)), .int k (-n), h.2, rfl, fun w' _ => by simp only [execOp, hc]; simp [go_sem, wrap_InK h.1]⟩
    · exact h.elim
  case h_7 c =>
    obtain ⟨cal, args, ts⟩ := c
    obtain ⟨args⟩ := args
    obtain ⟨ts⟩ := ts
    simp only at h
    unfold evB at h
    split at h
    · rename_i x
      split at h
      · rename_i sz n f t hp
        obtain ⟨A, c, he, _⟩ := sim.opd hp
        exact ⟨_, .int .i64 n, h.2, rfl, fun w' _ => by simp [execOp, resolve, invoke, builtin, he, run_len_of h.1]⟩
      · rename_i id sz off n t hp
        have := sim.opd hp
        obtain ⟨A, c, he⟩ : ∃ A c, a.eval x = .slice A n c := by
          rcases this with ⟨_, _, rfl, he⟩ | ⟨b, c, _, _, he, _⟩
          · exact ⟨_, _, he⟩
          · exact ⟨_, _, he⟩
        exact ⟨_, .int .i64 n, h.2, rfl, fun w' _ => by simp [execOp, resolve, invoke, builtin, he, run_len_of h.1]⟩
      · rename_i b t hp
        have he := val_of sim hp
        refine ⟨_, .int .i64 (bytesOf b).length, h.2, rfl, fun w' _ => ?_⟩
        have hr : (Builtin.len_ #[t] ty #[.string b]).run P w' = .ok (.int .i64 (bytesOf b).length) w' := by
          rw [run_len_string w' t ty b h.1]
          have hl : (bytesOf b).length = b.size := Array.length_toList
          rw [hl]; rfl
        simp [execOp, resolve, invoke, builtin, he, hr]
      · rename_i t hp
        have he := val_of sim hp
        exact ⟨_, .int .i64 0, h.2, rfl, fun w' _ => by simp [execOp, resolve, invoke, builtin, he, run_len_of h.1]⟩
      · exact h.elim
    · rename_i x y
      split at h
      · rename_i k m _ n hx hy
        have ex := val_of sim hx
        have ey := val_of sim hy
        exact ⟨_, .int k (min m n), h, rfl, fun w' _ => by simp only [execOp, resolve, invoke, builtin, ex, ey, List.map_toArray, List.map_cons, List.map_nil, Sem.run_bind, Sem.run_pure, Result.andThen_ok, run_min_int2, min_eq]⟩
      · exact h.elim
    · rename_i x y
      split at h
      · rename_i k m _ n hx hy
        have ex := val_of sim hx
        have ey := val_of sim hy
        exact ⟨_, .int k (max m n), h, rfl, fun w' _ => by simp only [execOp, resolve, invoke, builtin, ex, ey, List.map_toArray, List.map_cons, List.map_nil, Sem.run_bind, Sem.run_pure, Result.andThen_ok, run_max_int2, max_eq]⟩
      · exact h.elim
    · exact h.elim
  case h_8 t x i =>
    split at h
    · rename_i sz n f _ k hx hi
      obtain ⟨hsz, hz, h0, h1, hK⟩ := h
      obtain ⟨e, ii, hu, hii, rfl⟩ := elemSz_some hsz
      obtain ⟨A, c, ex, hc, hr⟩ := sim.opd hx
      have ei := val_of sim hi
      have hlt : k.toNat < n := by omega
      · obtain ⟨b, off, rfl, hS, hr⟩ := hr (Nat.mul_pos (by omega) hz)
        refine ⟨_, .pointer (some ⟨b, off + k.toNat * ii.size, none⟩), hK, ⟨b, _, rfl, fun j hj => ⟨hS, ?_⟩⟩, fun w' _ => ?_⟩
        · have hb : k.toNat * ii.size + j < n * ii.size := by
            have : (k.toNat + 1) * ii.size ≤ n * ii.size := Nat.mul_le_mul_right _ hlt
            rw [Nat.add_mul] at this; omega
          obtain ⟨x, hx1, hx2⟩ := hr _ hb
          exact ⟨x, by rw [Nat.add_assoc]; exact hx1, hx2⟩
        · simp only [execOp, ex, ei, Sem.run_bind, run_indexAt hu hii _ _ _ _ _ h0 h1, Result.andThen_ok, add_none]; rfl
    · rename_i id sz off n _ k hx hi
      obtain ⟨hsz, h0, h1, hK⟩ := h
      obtain ⟨e, ii, hu, hii, rfl⟩ := elemSz_some hsz
      have ei := val_of sim hi
      rcases sim.opd hx with ⟨_, _, rfl, _⟩ | ⟨b, c, z, hφ, ex, hc, hm, hsz⟩
      · omega
      · refine ⟨_, .pointer (some ⟨b, off + k.toNat * ii.size, none⟩), hK, ⟨b, z, hφ, rfl⟩, fun w' _ => ?_⟩
        simp only [execOp, ex, ei, Sem.run_bind, run_indexAt hu hii _ _ _ _ _ h0 h1, Result.andThen_ok, add_none]; rfl
    · exact h.elim
  case h_9 t x =>
    split at h
    · rename_i n f hx hc
      obtain ⟨b, off, ex, hr⟩ := sim.opd hx
      obtain ⟨hS, v, hv, hr⟩ := hr 0 h.1
      refine ⟨_, v, h.2, hr, fun w' hw' => ?_⟩
      replace hw' := hw'.resolve_left (by simp [noLoad])
      have : w'.cell? ⟨b, off, none⟩ = some v := by
        rw [World.cell?_of_block (w := w) (a := ⟨b, off, none⟩) (hw'.block b (block_of_cell hv))]; exact hv
      simp only [execOp, ex, Sem.run_bind, run_loadVar_one hc _ _ _ _ this, Result.andThen_ok]; rfl
    · rename_i n f m hx hc
      obtain ⟨b, off, ex, hr⟩ := sim.opd hx
      have hg : ∀ j, j < m → w.cell? ⟨b, off + j, none⟩ = some ((w.cell? ⟨b, off + j, none⟩).getD undef) ∧ Rd w (Stab w0 S0 s.h φ) (f j) ((w.cell? ⟨b, off + j, none⟩).getD undef) := fun j hj => by
        obtain ⟨_, v, hv, hr⟩ := hr j (by omega)
        rw [hv]; exact ⟨rfl, hr⟩
      refine ⟨_, _, h.2, rd_agg (g := fun j => (w.cell? ⟨b, off + j, none⟩).getD undef) fun j hj => (hg j hj).2, fun w' hw' => ?_⟩
      replace hw' := hw'.resolve_left (by simp [noLoad])
      have : ∀ j, j < m → w'.cell? ⟨b, off + j, none⟩ = some ((w.cell? ⟨b, off + j, none⟩).getD undef) := fun j hj => by
        have hj' := (hg j hj).1
        rw [World.cell?_of_block (w := w) (a := ⟨b, off + j, none⟩) (hw'.block b (block_of_cell hj'))]; exact hj'
      simp only [execOp, ex, Sem.run_bind, run_loadVar_many hc _ _ _ _ this, Result.andThen_ok]; rfl
    · rename_i n f hx hc
      obtain ⟨b, off, ex, hr⟩ := sim.opd hx
      obtain ⟨hS, v, hv, hr⟩ := hr 0 h.1
      refine ⟨_, v, h.2, hr, fun w' hw' => ?_⟩
      replace hw' := hw'.resolve_left (by simp [noLoad])
      have : w'.cell? ⟨b, off, none⟩ = some v := by
        rw [World.cell?_of_block (w := w) (a := ⟨b, off, none⟩) (hw'.block b (block_of_cell hv))]; exact hv
      simp only [execOp, ex, Sem.run_bind, run_loadVar_one hc _ _ _ _ this, Result.andThen_ok]; rfl
    · rename_i id off c hx hc
      obtain ⟨b, z, hφ, ex⟩ := sim.opd hx
      obtain ⟨r, v, hK, hr, hrun⟩ := yields_loadOwn hc sim hφ h
      refine ⟨r, v, hK, hr, fun w' hw' => ?_⟩
      replace hw' := hw'.resolve_left (by simp [noLoad])
      simp only [execOp, ex, Sem.run_bind, hrun w' hw', Result.andThen_ok]; rfl
    · exact h.elim
  case h_10 t x j =>
    split at h
    · rename_i n f o hx hc
      obtain ⟨cs, ex, hn, hr⟩ := sim.opd hx
      obtain ⟨v, hv, hr⟩ := hr o h.1
      refine ⟨_, v, h.2, hr, fun w' hw' => ?_⟩
      simp only [execOp, ex, Sem.run_bind, run_field_one hc cs v hv, Result.andThen_ok]; rfl
    · rename_i n f o m hx hc
      obtain ⟨cs, ex, hn, hr⟩ := sim.opd hx
      refine ⟨_, _, h.2, ⟨cs.extract o (o + m), rfl, by simp; omega, fun i hi => ?_⟩, fun w' hw' => ?_⟩
      · obtain ⟨v, hv, hr⟩ := hr (o + i) (by omega)
        exact ⟨v, by rw [Array.getElem?_extract, if_pos (by omega)]; exact hv, hr⟩
      · simp only [execOp, ex, Sem.run_bind, run_field_many hc cs, Result.andThen_ok]; rfl
    · exact h.elim
  case h_11 t x j =>
    split at h
    · rename_i n f o c hx hc
      obtain ⟨b, off, ex, hr⟩ := sim.opd hx
      refine ⟨_, .pointer (some ⟨b, off + o, none⟩), h.2, ⟨b, _, rfl, fun i hi => ?_⟩, fun w' hw' => ?_⟩
      · rw [Nat.add_assoc]; exact hr (o + i) (by omega)
      · simp only [execOp, ex, Sem.run_bind, run_fieldAt hc, Result.andThen_ok]; rfl
    · rename_i id off o c hx hc
      obtain ⟨b, z, hφ, ex⟩ := sim.opd hx
      refine ⟨_, .pointer (some ⟨b, off + o, none⟩), h, ⟨b, z, hφ, rfl⟩, fun w' hw' => ?_⟩
      simp only [execOp, ex, Sem.run_bind, run_fieldAt hc, Result.andThen_ok]; rfl
    · exact h.elim
  case h_12 x i =>
    split at h
    · rename_i vs hx
      obtain ⟨us, ex, hr⟩ := sim.opd hx
      split at h
      · rename_i v hv
        obtain ⟨u, hu, hru⟩ := RdSs.get vs us i hr hv
        exact ⟨.one v, u, h, hru, fun w' _ => by simp [execOp, ex, Instr.extract, hu]⟩
      · exact h.elim
    · exact h.elim
  case h_13 x =>
    split at h
    · rename_i n f hx
      obtain ⟨b, off, ex, hr⟩ := sim.opd hx
      exact ⟨_, .pointer (some ⟨b, off, none⟩), h, ⟨b, off, rfl, hr⟩, fun w' _ => by simp [execOp, ex]⟩
    · rename_i id off hx
      obtain ⟨b, z, hφ, ex⟩ := sim.opd hx
      exact ⟨_, .pointer (some ⟨b, off, none⟩), h, ⟨b, z, hφ, rfl⟩, fun w' _ => by simp [execOp, ex]⟩
    · exact h.elim
  case h_14 t x lo hi => exact cutK_ok sim rfl h
  case h_15 src t x =>
    split at h
    · rename_i k n k' hx hu
      have ex := val_of sim hx
      obtain ⟨hs, hk, hK⟩ := h
      obtain ⟨d, hd⟩ := Option.isSome_iff_exists.1 hs
      refine ⟨_, .int k' n, hK, rfl, fun w' _ => ?_⟩
      simp only [execOp, ex, Sem.run_bind, convert, run_underlying hd, run_underlying hu, Result.andThen_ok, Conv.intToInt, wrap_InK hk]
      rfl
    · rename_i id sz off n hx hu
      unfold bytesK at h
      split at h
      · rename_i b hb
        obtain ⟨rfl, hsrc, hle, hall, hK⟩ := h
        obtain ⟨e, he1, he2⟩ := byteSrc_some hsrc
        rcases sim.opd hx with ⟨_, rfl, rfl, ex⟩ | ⟨b', c, z, hφ, ex, hc, _, _⟩
        · refine ⟨_, _, hK, rfl, fun w' _ => ?_⟩
          simp only [execOp, ex, Sem.run_bind, run_convert_bytes_nil w' src e he1 he2 0 0 t hu, Result.andThen_ok]
          rfl
        · obtain ⟨cur, _, _, hcur, hn, hcs⟩ := sim.blkAt hb hφ
          refine ⟨_, _, hK, rfl, fun w' hw' => ?_⟩
          replace hw' := hw'.resolve_left (by simp [noLoad])
          have hcell : ∀ i, i < n → w'.cell? ⟨b', off + i, none⟩ = some (.int .u8 (((List.range n).map fun i => vInt (b.f (off + i))).getD i 0)) := fun i hi => by
            obtain ⟨x, hx1, hx2⟩ := hcs (off + i) (by omega)
            rw [hall i hi] at hx2
            have hx3 : x = .int .u8 (vInt (b.f (off + i))) := hx2
            rw [World.cell?_of_block (w := w) (a := ⟨b', off + i, none⟩) (hw'.block b' (block_lt hcur)), cell_of_blk hcur hx1, hx3]
            simp [List.getD, hi]
          simp only [execOp, ex, Sem.run_bind, run_convert_bytes_arg w' src e he1 he2 b' off n c _ (by simp) hcell t hu, Result.andThen_ok]
          rfl
      · exact h.elim
    · exact h.elim
  case h_16 t x i =>
    split at h
    · rename_i b k n hx hi
      obtain ⟨hu, h0, h1, hK⟩ := h
      have ex := val_of sim hx
      have ei := val_of sim hi
      refine ⟨_, .int .u8 ((bytesOf b).getD n.toNat 0).toNat, hK, rfl, fun w' _ => ?_⟩
      have hl : (bytesOf b).length = b.size := Array.length_toList
      have hs : n < b.size := by omega
      have hn : n.toNat < b.size := by omega
      have hb : (bytesOf b).getD n.toNat 0 = b[n.toNat]'hn := by
        have hn' : n.toNat < (bytesOf b).length := by omega
        simp only [List.getD, List.getElem?_eq_getElem hn', Option.getD_some]; rfl
      simp only [execOp, ex, ei, Sem.run_bind, run_index_string w' t b k n hu, h0, hs, and_self, dite_true, Result.andThen_ok, hb]; rfl
    · exact h.elim
  case h_17 g xs =>
    obtain ⟨vs', hK, hr⟩ := capsK_ok sim xs [] [] h trivial
    refine ⟨_, .func (.func g) #[] (xs.map a.eval).toArray, hK, ⟨_, rfl, by have := RdL.len _ _ hr; simpa using this, fun i hi => ?_⟩, fun w' _ => ?_⟩
    · obtain ⟨u, hu, hr⟩ := RdL.get vs' _ i hr (v := vs'.getD i (.val undef)) (by simp [List.getD, hi])
      exact ⟨u, by simpa using hu, hr⟩
    · simp [execOp, Instr.makeFunc]
  case h_18 => exact h.elim

end
end Go.Proofs.Ytpolbgenoicckaa
