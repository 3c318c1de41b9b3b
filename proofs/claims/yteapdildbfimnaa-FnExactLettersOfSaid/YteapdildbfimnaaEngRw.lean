/- Callees that write the cells of a slice that comes in: contracts, bodies, calls. No conditions; for seats without tables. -/
import Derived.Test.YteapdildbfimnaaEngQ
namespace Go.Proofs.Yteapdildbfimnaa
set_option linter.unusedSimpArgs false
set_option linter.unusedVariables false
open Go.RowKit

/-- Called with a slice of n cells from its block's head, which hold D, and us, the function f leaves some D' in them, and returns v, where R D' v; all else is as it was. -/
structure FnM (P : Program) (f : FuncId) (n : Nat) (D : Nat → V) (us : List Value) (R : (Nat → V) → Value → Prop) : Prop where
  entry : ∀ (args : Array Value) (w : World), (callFunc f args).run P w = .ok (.enter f args) w
  runs : ∀ (w : World) (b c : Nat) (cur : Array Value) (e : TypeId), Gb w b e cur → n ≤ c → c ≤ maxLen → cur.size = c → (∀ i, i < n → ∃ x, cur[i]? = some x ∧ D i = .val x) →
    Calls P f (.slice (some ⟨b, 0, none⟩) n c :: us).toArray w fun e' w' => ∃ (D' : Nat → V) (v : Value), R D' v ∧ e' = .returned v ∧ AllBut b w w' ∧
      ∃ cur' : Array Value, Gb w' b e cur' ∧ cur'.size = cur.size ∧ ∀ i, i < n → ∃ x, cur'[i]? = some x ∧ D' i = .val x

theorem FnM.weaken {P : Program} {f : FuncId} {n : Nat} {D : Nat → V} {us : List Value} {R R' : (Nat → V) → Value → Prop} (h : FnM P f n D us R) (hR : ∀ D' v, R D' v → R' D' v) : FnM P f n D us R' :=
  ⟨h.entry, fun w b c cur e h1 h2 h3 h4 h5 => (h.runs w b c cur e h1 h2 h3 h4 h5).mono fun e' w' ⟨D', v, k1, k2⟩ => ⟨D', v, hR _ _ k1, k2⟩⟩

def slotV : Value → Slot
  | .tuple us => .many (us.toList.map fun u => .pv (.val u))
  | v => sc v
theorem rdSs_us {w : World} {S : Nat → Prop} {φ : List (Option (Nat × Nat))} : ∀ us : List Value, RdSs w S φ (us.map fun u => SV.pv (.val u)) us
  | [] => trivial
  | _ :: us => ⟨rfl, rdSs_us us⟩
theorem slotV_rd {w : World} {S : Nat → Prop} {φ : List (Option (Nat × Nat))} (v : Value) : RdSlot w S φ (slotV v) v := by
  unfold slotV
  split
  · rename_i us
    exact ⟨us.toList, by simp, rdSs_us _⟩
  · exact rfl

/-- What a slot holds when the cells hold g. -/
def rwSl (g : Nat → V) : Slot → Option Slot
  | .one (.pv (.val v)) => some (.one (.pv (.val v)))
  | .one (.pv (.grow u Z e sz n _)) => some (.one (.pv (.grow u Z e sz n g)))
  | .one (.own i sz off len) => some (.one (.own i sz off len))
  | .one (.ptr i off) => some (.one (.ptr i off))
  | _ => none
def rwS (g : Nat → V) : List (Nat × Slot) → List (Nat × Slot)
  | [] => []
  | (t, v) :: r => match rwSl g v with
    | some v' => (t, v') :: rwS g r
    | none => rwS g r
def okR (b c : Nat) (e : TypeId) (n : Nat) : Slot → Prop
  | .one (.pv (.grow u Z e' sz m _)) => u = .slice (some ⟨b, 0, none⟩) n c ∧ Z = isB b ∧ e' = e ∧ sz = 1 ∧ m = n
  | _ => True
def okRS (b c : Nat) (e : TypeId) (n : Nat) : List (Nat × Slot) → Prop
  | [] => True
  | (_, v) :: r => okR b c e n v ∧ okRS b c e n r
theorem okRS_get {b c : Nat} {e : TypeId} {n t : Nat} {v : Slot} : ∀ {σ : List (Nat × Slot)}, okRS b c e n σ → lookup σ t = some v → okR b c e n v
  | [], _, h => by cases h
  | (i, x) :: r, ho, h => by
    simp only [lookup] at h
    split at h
    · injection h with h; subst h; exact ho.1
    · exact okRS_get ho.2 h
theorem rw_keys {g : Nat → V} {t : Nat} : ∀ {σ : List (Nat × Slot)}, σ.all (fun p => p.1 != t) = true → (rwS g σ).all (fun p => p.1 != t) = true
  | [], _ => rfl
  | (i, v) :: r, h => by
    simp only [List.all_cons, Bool.and_eq_true] at h
    unfold rwS
    split
    · simp only [List.all_cons, Bool.and_eq_true]; exact ⟨h.1, rw_keys h.2⟩
    · exact rw_keys h.2
theorem rw_get {g : Nat → V} {t : Nat} {v' : Slot} : ∀ {σ : List (Nat × Slot)}, keysB σ = true → lookup (rwS g σ) t = some v' → ∃ v, lookup σ t = some v ∧ rwSl g v = some v'
  | [], _, h => by cases h
  | (i, v) :: r, hk, h => by
    simp only [keysB, Bool.and_eq_true] at hk
    simp only [lookup]
    unfold rwS at h
    by_cases e : i = t
    · subst e
      rw [if_pos rfl]
      split at h
      · rename_i v1 hv
        simp only [lookup, if_pos] at h
        exact ⟨v, rfl, by rw [hv]; exact h⟩
      · rw [lookup_none (rw_keys hk.1)] at h; cases h
    · rw [if_neg e]
      split at h
      · simp only [lookup] at h
        rw [if_neg e] at h
        exact rw_get hk.2 h
      · exact rw_get hk.2 h

section
variable {P : Program} {w0 : World} {S0 : Nat → Prop} {s : ASt} {φ : List (Option (Nat × Nat))} {a : Act} {w : World} {N : Nat}

/-- The cells have been written: the state is told of it. -/
theorem SimAt.turned [Cx] {b c n : Nat} {e : TypeId} {w1 : World} {g : Nat → V} {cur : Array Value} (hN : w0.heap.size = N) (sim : SimAt w0 S0 s φ a w) (hst : Stab w0 S0 s.h φ b) (hX : Cx.X b ∨ N ≤ b) (hAB : AllBut b w w1) (hlt0 : b < w.heap.size)
    (hcur : Gb w1 b e cur) (hsz : cur.size = c) (hg : ∀ i, i < n → ∃ x, cur[i]? = some x ∧ g i = .val x)
    (hk : keysB s.σ = true) (hσ : okRS b c e n s.σ) (hh : okH b s.h) : ∃ w0', Reb w0 w0' ∧ SimAt w0' S0 ⟨rwS g s.σ, s.h, s.nt⟩ φ a w1 := by
  obtain ⟨te, fr, hob⟩ := hcur.obj
  obtain ⟨w0', hw0'⟩ : ∃ w0' : World, w0' = { w0 with heap := w0.heap.setIfInBounds b (.cells cur te fr) } := ⟨_, rfl⟩
  have hs : w0'.heap.size = w0.heap.size := by rw [hw0']; simp
  have hoth : ∀ j, j ≠ b → w0'.heap[j]? = w0.heap[j]? := fun j hj => by rw [hw0']; exact Array.getElem?_setIfInBounds_ne (fun h => hj h.symm)
  have hb0 : b < w0.heap.size → w0'.heap[b]? = some (.cells cur te fr) := fun h => by rw [hw0']; simp [h]
  have hw : Wr w1 b := hcur.wr
  have ho : OnlyIn (isB b) w w1 := ⟨hAB.os, hAB.tape, hAB.output, hAB.size, fun j hj hne => hAB.oth j hj hne, fun j ⟨cj, ej, hj⟩ => by
    by_cases e2 : j = b
    · subst e2; exact hw
    · exact ⟨cj, ej, hj.congr (hAB.oth j hj.lt e2)⟩⟩
  have hstab : ∀ j, Stab w0 S0 s.h φ j → Stab w0' S0 s.h φ j := fun j hj => ⟨by rw [hs]; exact hj.1, hj.2⟩
  have keep : ∀ (v : V) (x : Value), Keeps (isB b) v → Rd w (Stab w0 S0 s.h φ) v x → Rd w1 (Stab w0' S0 s.h φ) v x := fun v x hv hx =>
    Rd.mono (S := Stab w0 S0 s.h φ) (fun j hj _ => ⟨hstab j hj, rfl⟩) _ _ (Keeps.rd ho v x hv hx)
  refine ⟨w0', ⟨by rw [hw0'], by rw [hw0'], by rw [hw0'], by rw [hw0'], hs, fun j hj => ?_⟩, ⟨sim.heap.len, ⟨?_, ?_, ?_, ?_, fun j hj => ?_⟩, fun id blk hi => ?_, sim.heap.inj⟩, fun t v ht => ?_, ⟨sim.defers.1, Gl.any _⟩, sim.size⟩
  · by_cases ej : j = b
    · subst ej
      have : N ≤ j := hX.resolve_left hj
      rw [Array.getElem?_eq_none (by omega), Array.getElem?_eq_none (by omega)]
    · exact hoth j ej
  · rw [hAB.os, sim.heap.below.os, hw0']
  · rw [hAB.tape, sim.heap.below.tape, hw0']
  · rw [hAB.output, sim.heap.below.output, hw0']
  · rw [hs]; exact Nat.le_trans sim.heap.below.size hAB.size
  · rw [hs] at hj
    by_cases ej : j = b
    · subst ej; rw [hob, hb0 hj]
    · rw [hAB.oth j (Nat.lt_of_lt_of_le hj sim.heap.below.size) ej, hoth j ej]; exact sim.heap.below.block j hj
  · rcases sim.heap.blk id blk hi with h1 | ⟨b1, cu, h1, h2, h4, h5, h6⟩
    · exact .inl h1
    · have hne : b1 ≠ b := fun e1 => hst.2 ⟨id, blk, _, hi, e1 ▸ h1⟩
      refine .inr ⟨b1, cu, h1, by rw [hs]; exact h2, by rw [hAB.oth b1 (block_lt h4) hne]; exact h4, h5, fun i hi' => ?_⟩
      obtain ⟨x, hx, hrx⟩ := h6 i hi'
      exact ⟨x, hx, keep _ _ (okH_get hh hi i hi') hrx⟩
  · obtain ⟨v0, h1, h2⟩ := rw_get hk ht
    have h4 := okRS_get hσ h1
    obtain ⟨x, hx, hrx⟩ := sim.slots t v0 h1
    refine ⟨x, hx, ?_⟩
    unfold rwSl at h2
    split at h2 <;> first | (injection h2 with h2; subst h2) | (cases h2)
    · exact hrx
    · obtain ⟨rfl, rfl, rfl, rfl, rfl⟩ := h4
      obtain ⟨g1, g2, g3⟩ := hrx
      refine ⟨g1, fun j hj => ⟨hstab j (g2 j hj).1, ?_⟩, ?_⟩
      · have hj : j = b := hj
        subst hj; exact hw
      rcases g3 with ⟨h5, _⟩ | ⟨b', c', cur', h5, h6, h7, h8, h9, h10, h11⟩
      · rw [g1] at h5; cases h5
      · have eu := g1.symm.trans h5
        injection eu with e1 e2 e3
        injection e1 with e1
        injection e1 with e1
        subst e1 e3
        exact .inr ⟨b, c, cur, h5, h6, h7, rfl, hcur, by rw [hsz, Nat.mul_one], fun i hi => by
          obtain ⟨x, hx1, hx2⟩ := hg i (by omega)
          exact ⟨x, hx1, by rw [hx2]; rfl⟩⟩
    · exact hrx
    · exact hrx

/-- What the data's slot says. -/
theorem grow_at {t b c n : Nat} {e : TypeId} {D : Nat → V} (sim : SimAt w0 S0 s φ a w) (ht : lookup s.σ t = some (.one (.pv (.grow (.slice (some ⟨b, 0, none⟩) n c) (isB b) e 1 n D)))) :
    ∃ cur : Array Value, a.tmps[t]? = some (.slice (some ⟨b, 0, none⟩) n c) ∧ Stab w0 S0 s.h φ b ∧ Gb w b e cur ∧ cur.size = c ∧ n ≤ c ∧ c ≤ maxLen ∧ ∀ i, i < n → ∃ x, cur[i]? = some x ∧ Rd w (Stab w0 S0 s.h φ) (D i) x := by
  obtain ⟨u, hu, hr⟩ := sim.slots t _ ht
  obtain ⟨rfl, hz, hr⟩ := hr
  rcases hr with ⟨h5, _⟩ | ⟨b', c', cur', h5, h6, h7, h8, h9, h10, h11⟩
  · cases h5
  · injection h5 with e1 e2 e3
    injection e1 with e1
    injection e1 with e1
    subst e1 e3
    exact ⟨cur', hu, (hz b rfl).1, h9, by rw [h10, Nat.mul_one], h6, h7, fun i hi => h11 i (by omega)⟩

theorem ax_addr [Cx] {K : ASt → Prop} {t : TypeId} {x i : Operand} {d ty : Nat} {pos : String} {after : Array Edge} {b c n : Nat} {e : TypeId} {D : Nat → V} {κ : IntKind} {k : Int}
    (hx : opd s x = some (.one (.pv (.grow (.slice (some ⟨b, 0, none⟩) n c) (isB b) e 1 n D)))) (hi : opd s i = some (sc (.int κ k))) (hsz : elemSz P t = some 1) (h0 : 0 ≤ k) (h1 : k < n) (hd : Nat.ble (d + 1) s.nt = true) (h : K (putS s d (sc (.pointer (some ⟨b, k.toNat, none⟩))))) :
    Ax N P K ⟨some d, .indexAddr t x i, ty, pos, after, none⟩ s := by
  refine ⟨rfl, fun w0 S0 φ a w hN sim next Q hn => ?_⟩
  obtain ⟨e', ii, hu, hii, hs1⟩ := elemSz_some hsz
  obtain ⟨e0, hz, hr⟩ := sim.opd hx
  have ei := val_of sim hi
  have hrun : (execOp a.eval ⟨some d, .indexAddr t x i, ty, pos, after, none⟩).run P w = .ok (.value (.pointer (some ⟨b, k.toNat, none⟩))) w := by
    simp only [execOp, e0, ei, Sem.run_bind, run_indexAt hu hii _ _ _ _ _ h0 h1, Result.andThen_ok, add_none, hs1, Nat.mul_one, Nat.zero_add]
    rfl
  unfold Oper.wp
  rw [hrun, Oper.upon_value]
  exact hn _ _ _ h (Sim.R ⟨φ, sim.put (Nat.le_of_ble_eq_true hd) rfl⟩)

theorem ax_storeR [Cx] {K : ASt → Prop} {t : TypeId} {p y : Operand} {ty : Nat} {pos : String} {after : Array Edge} {v : Value} {b c n j : Nat} {e : TypeId} {D : Nat → V} (tr : Nat)
    (hr : lookup s.σ tr = some (.one (.pv (.grow (.slice (some ⟨b, 0, none⟩) n c) (isB b) e 1 n D)))) (hp : opd s p = some (sc (.pointer (some ⟨b, j, none⟩)))) (hy : opd s y = some (sc v)) (hv : v.oneCell' = true) (hc : cellsIn P t = some none) (hj : j < n) (hX : Cx.X b) (hf : ∀ i, i < n → ∃ x, D i = .val x)
    (hk : keysB s.σ = true) (hσ : okRS b c e n s.σ) (hh : okH b s.h) (h : K ⟨rwS (fun i => if i = j then .val v else D i) s.σ, s.h, s.nt⟩) :
    Ax N P K ⟨none, .store t p y, ty, pos, after, none⟩ s := by
  refine ⟨rfl, fun w0 S0 φ a w hN sim next Q hn => ?_⟩
  obtain ⟨cur, hu, hst, hcur, hsz, hnc, hcm, hcells⟩ := grow_at sim hr
  have ep : a.eval p = .pointer (some ⟨b, j, none⟩) := val_of sim hp
  have ey : a.eval y = v := val_of sim hy
  obtain ⟨x, hx, _⟩ := hcells j hj
  have hlt : j < cur.size := by omega
  have hrun := run_storeG (P := P) hc hv hcur hx
  unfold Oper.wp
  have er : (execOp a.eval ⟨none, .store t p y, ty, pos, after, none⟩).run P w = .ok .skip (w.setCell ⟨b, j, none⟩ v) := by
    unfold execOp
    simp only [ep, ey, Sem.run_bind, hrun, Result.andThen_ok]; rfl
  rw [er, Oper.upon_skip]
  have hat : Gb (w.setCell ⟨b, j, none⟩ v) b e (cur.setIfInBounds j v) := hcur.set j v
  obtain ⟨w0', hR, sim'⟩ := sim.turned (w1 := w.setCell ⟨b, j, none⟩ v) (g := fun i => if i = j then .val v else D i) hN hst (.inl hX) ⟨rfl, rfl, rfl, by rw [setCell_size]; exact Nat.le_refl _, fun k _ hk => Below.heap_setCell _ _ _ _ hk⟩ (hcur.lt) hat (by simpa using hsz) (fun i hi => by
    by_cases e3 : i = j
    · subst e3
      exact ⟨v, by simp [hlt], by simp⟩
    · obtain ⟨x, hx, hrx⟩ := hcells i hi
      obtain ⟨y', hy'⟩ := hf i hi
      rw [hy'] at hrx
      have hrx : x = y' := hrx
      exact ⟨x, by rw [Array.getElem?_setIfInBounds_ne (fun h => e3 h.symm)]; exact hx, by simp [e3, hy', hrx]⟩) hk hσ hh
  exact hn _ _ _ h ⟨w0', hR, φ, sim'⟩

/-- Scalars that are handed over. -/
def argsV (s : ASt) : List Operand → List Value → Prop
  | [], us => us = []
  | x :: xs, us => ∃ v vs, us = v :: vs ∧ opd s x = some (sc v) ∧ argsV s xs vs
theorem argsV_ok (sim : SimAt w0 S0 s φ a w) : ∀ (xs : List Operand) (us : List Value), argsV s xs us → xs.map a.eval = us
  | [], us, h => h.symm
  | x :: xs, us, h => by
    obtain ⟨v, vs, rfl, h1, h2⟩ := h
    have : a.eval x = v := val_of sim h1
    rw [List.map_cons, this, argsV_ok sim xs vs h2]

theorem run_call {f : FuncId} {args : Array Operand} {d : Option Nat} {ty : Nat} {ts : Array TypeId} {pos : String} {after : Array Edge} (he : ∀ (args : Array Value) (w : World), (callFunc f args).run P w = .ok (.enter f args) w) :
    (execOp a.eval ⟨d, .call ⟨.value (.func f), args, ts⟩, ty, pos, after, none⟩).run P w = .ok (.enter f (args.toList.map a.eval).toArray) w := by
  have e : execOp a.eval ⟨d, .call ⟨.value (.func f), args, ts⟩, ty, pos, after, none⟩ = callFunc f (#[] ++ args.map a.eval ++ #[]) := rfl
  rw [e, he]
  congr 2
  rw [← Array.toList_inj]
  simp

/-- A call that hands the data on. -/
theorem ax_callM [Cx] {K : ASt → Prop} {f : FuncId} {args : Array Operand} {x : Operand} {xs : List Operand} {d ty : Nat} {ts : Array TypeId} {pos : String} {after : Array Edge} {b c n : Nat} {e : TypeId} {D : Nat → V} {us : List Value} {R : (Nat → V) → Value → Prop}
    (ha : args.toList = x :: xs) (hr : opd s x = some (.one (.pv (.grow (.slice (some ⟨b, 0, none⟩) n c) (isB b) e 1 n D)))) (hus : argsV s xs us) (hd : Nat.ble (d + 1) s.nt = true) (hX : Cx.X b) (hf : ∀ i, i < n → ∃ x, D i = .val x)
    (hk : keysB s.σ = true) (hσ : okRS b c e n s.σ) (hh : okH b s.h) (hF : FnM P f n D us R) (h : ∀ D' v, R D' v → (∀ i, i < n → ∃ x, D' i = .val x) → K ⟨upd (rwS D' s.σ) d (slotV v), s.h, s.nt⟩) :
    Ax N P K ⟨some d, .call ⟨.value (.func f), args, ts⟩, ty, pos, after, none⟩ s := by
  refine ⟨rfl, fun w0 S0 φ a w hN sim next Q hn => ?_⟩
  obtain ⟨t, rfl⟩ : ∃ t, x = .tmp t := by
    cases x with
    | tmp t => exact ⟨t, rfl⟩
    | _ => simp [opd, sc] at hr
  have hr' : lookup s.σ t = some (.one (.pv (.grow (.slice (some ⟨b, 0, none⟩) n c) (isB b) e 1 n D))) := hr
  obtain ⟨cur, hu, hst, hcur, hsz, hnc, hcm, hcells⟩ := grow_at sim hr'
  have ex : a.eval (.tmp t) = .slice (some ⟨b, 0, none⟩) n c := by show a.tmps.getD t undef = _; simp [hu]
  unfold Oper.wp
  rw [run_call hF.entry, ha, List.map_cons, ex, argsV_ok sim xs us hus, Oper.upon_enter]
  refine (hF.runs w b c cur e hcur hnc hcm hsz fun i hi => ?_).mono ?_
  · obtain ⟨x, hx, hrx⟩ := hcells i hi
    obtain ⟨y', hy'⟩ := hf i hi
    rw [hy'] at hrx
    have hrx : x = y' := hrx
    exact ⟨x, hx, by rw [hy', hrx]⟩
  rintro e' w' ⟨D', v, hR, rfl, hAB, cur', hcur', hsz', hc'⟩
  obtain ⟨w0', hRb, sim'⟩ := sim.turned (w1 := w') (g := D') hN hst (.inl hX) hAB (hcur.lt) hcur' (by omega) hc' hk hσ hh
  exact hn _ _ _ (h D' v hR fun i hi => by obtain ⟨x, _, hx⟩ := hc' i hi; exact ⟨x, hx⟩) ⟨w0', hRb, φ, sim'.put (Nat.le_of_ble_eq_true hd) (slotV_rd v)⟩

/-- A call that is handed an own slice. -/
theorem ax_callMo [Cx] {K : ASt → Prop} {f : FuncId} {args : Array Operand} {x : Operand} {xs : List Operand} {d ty : Nat} {ts : Array TypeId} {pos : String} {after : Array Edge} {id n : Nat} {blk : Blk} {us : List Value} {R : (Nat → V) → Value → Prop}
    (ha : args.toList = x :: xs) (hr : opd s x = some (.one (.own id 1 0 n))) (hb : s.h[id]? = some (some blk)) (hpos : 1 ≤ n) (hle : n ≤ blk.n) (he : blk.elem < bigE) (hus : argsV s xs us) (hd : Nat.ble (d + 1) s.nt = true) (hf : ∀ i, i < n → ∃ x, blk.f i = .val x)
    (hF : FnM P f n blk.f us R) (h : ∀ D' v, R D' v → (∀ i, i < n → ∃ x, D' i = .val x) → K ⟨upd s.σ d (slotV v), s.h.set id (some ⟨blk.elem, n, D'⟩), s.nt⟩) :
    Ax N P K ⟨some d, .call ⟨.value (.func f), args, ts⟩, ty, pos, after, none⟩ s := by
  refine ⟨rfl, fun w0 S0 φ a w hN sim next Q hn => ?_⟩
  unfold Oper.wp
  rw [run_call hF.entry, ha, List.map_cons, argsV_ok sim xs us hus, Oper.upon_enter]
  rcases sim.opd hr with ⟨hφ, _, hl, ev⟩ | ⟨b, c, z, hφ, ev, hc, hcm, hcz⟩
  · omega
  rw [ev]
  obtain ⟨cur, hz, hB, hcur, hbn, hcs⟩ := sim.blkAt hb hφ
  refine (hF.runs w b c cur blk.elem (.inl hcur) hc hcm (by omega) fun i hi => ?_).mono ?_
  · obtain ⟨x, h1, h2⟩ := hcs i (by omega)
    obtain ⟨y, hy⟩ := hf i hi
    rw [hy] at h2
    have h2 : x = y := h2
    exact ⟨x, h1, by rw [hy, h2]⟩
  rintro e' w' ⟨D', v, hR, rfl, hall, cur', hcur', hsz, hcells⟩
  have sim' := sim.write hb hφ (w' := w') (cur' := cur') (blk' := ⟨blk.elem, n, D'⟩) (hcur'.small he) (by omega) hall.os hall.tape hall.output hall.size hall.oth rfl (by show n ≤ cur'.size; omega) fun i hi => by
    obtain ⟨x, h1, h2⟩ := hcells i hi
    exact ⟨x, h1, by show Rd _ _ (D' i) x; rw [h2]; rfl⟩
  exact hn _ _ _ (h D' v hR fun i hi => by obtain ⟨x, _, hx⟩ := hcells i hi; exact ⟨x, hx⟩) (Sim.R ⟨φ, sim'.put (Nat.le_of_ble_eq_true hd) (slotV_rd v)⟩)

/-! ### Bodies -/
def getV (σ : List (Nat × Slot)) : List Nat → Option (List Value)
  | [] => some []
  | t :: ts => match lookup σ t with
    | some (.one (.pv (.val v))) => (getV σ ts).map (v :: ·)
    | _ => none
def valOf : List Value → Value
  | [v] => v
  | vs => .tuple vs.toArray
theorem getV_rd (sim : SimAt w0 S0 s φ a w) : ∀ (ts : List Nat) (vs : List Value), getV s.σ ts = some vs → (ts.map fun t => a.tmps.getD t undef) = vs
  | [], vs, h => by simp [getV] at h; subst h; rfl
  | t :: ts, vs, h => by
    unfold getV at h
    split at h
    · rename_i v hv
      obtain ⟨vs', h1, rfl⟩ := Option.map_eq_some_iff.1 h
      obtain ⟨u, hu, hr⟩ := sim.slots t _ hv
      have hr : u = v := hr
      rw [List.map_cons, getV_rd sim ts vs' h1]
      simp [hu, hr]
    · cases h

/-- Where the body ends the data's slot holds some D', the results' slots v. -/
def retM (ts : List Nat) (b c : Nat) (e : TypeId) (n : Nat) (R : (Nat → V) → Value → Prop) : Exit → ASt → Prop
  | .normal, s => ∃ (D' : Nat → V) (vs : List Value), lookup s.σ 0 = some (.one (.pv (.grow (.slice (some ⟨b, 0, none⟩) n c) (isB b) e 1 n D'))) ∧ (∀ i, i < n → ∃ x, D' i = .val x) ∧ getV s.σ ts = some vs ∧ R D' (valOf vs)
  | .ret, s => ∃ (D' : Nat → V) (vs : List Value), lookup s.σ 0 = some (.one (.pv (.grow (.slice (some ⟨b, 0, none⟩) n c) (isB b) e 1 n D'))) ∧ (∀ i, i < n → ∃ x, D' i = .val x) ∧ getV s.σ ts = some vs ∧ R D' (valOf vs)
  | _, _ => False

theorem rdL_vals {w : World} : ∀ us : List Value, RdL w (fun _ => True) (us.map .val) us
  | [] => Gl.any w
  | _ :: us => ⟨rfl, rdL_vals us⟩

theorem FnM.of_body {f : FuncId} {fn : Func} {cd : Code} {nt n : Nat} {D : Nat → V} {ts : List Nat} {us : List Value} {R : (Nat → V) → Value → Prop}
    (hcall : ∀ (args : Array Value) (w : World), (callFunc f args).run P w = .ok (.enter f args) w) (hf : P.funcs[f]? = some fn) (hb : fn.body = some cd) (hnt : fn.ntmps = nt)
    (hres : fn.results = (ts.map ResultVar.tmp).toArray) (hlen : us.length + 1 ≤ nt) (hD : ∀ i, i < n → ∃ x, D i = .val x)
    (h : ∀ (N b c : Nat) (e : TypeId) (cx : Cx), cx.X b → b < N → n ≤ c → @AWP cx N P cd (retM ts b c e n R) ⟨slotsOf 0 (.grow (.slice (some ⟨b, 0, none⟩) n c) (isB b) e 1 n D :: us.map .val), [], nt⟩) : FnM P f n D us R := by
  refine ⟨hcall, fun w b c cur e hcur hnc hcm hsz hcells => calls_of_wp hf hb ?_⟩
  have hblt : b < w.heap.size := hcur.lt
  have sim := body_start (w := w) (fn := fn) (vs := .grow (.slice (some ⟨b, 0, none⟩) n c) (isB b) e 1 n D :: us.map .val) (us := .slice (some ⟨b, 0, none⟩) n c :: us) hnt (by simpa using hlen) ⟨⟨rfl, fun j hj => ⟨trivial, by
    have hj : j = b := hj
    subst hj; exact hcur.wr⟩, .inr ⟨b, c, cur, rfl, hnc, hcm, rfl, hcur, by omega, fun i hi => by
      obtain ⟨x, h1, h2⟩ := hcells i (by omega)
      exact ⟨x, h1, by rw [h2]; rfl⟩⟩⟩, rdL_vals us⟩
  refine wp_mono (h _ b c e ⟨isB b⟩ rfl hblt hnc w _ _ w rfl ⟨w, @Reb.refl ⟨isB b⟩ _, [], sim⟩) fun ex a' w' ⟨s', hq, w1, hR, φ, sim'⟩ => ?_
  obtain ⟨r1, r2, r3, r4, r5, r6⟩ := hR
  have fin : (∃ (D' : Nat → V) (vs : List Value), lookup s'.σ 0 = some (.one (.pv (.grow (.slice (some ⟨b, 0, none⟩) n c) (isB b) e 1 n D'))) ∧ (∀ i, i < n → ∃ x, D' i = .val x) ∧ getV s'.σ ts = some vs ∧ R D' (valOf vs)) → a'.defers = [] ∧ ∃ v, (results fn a'.tmps).run P w' = .ok v w' ∧
      ∃ (D' : Nat → V) (v' : Value), R D' v' ∧ Ending.returned v = .returned v' ∧ AllBut b w w' ∧ ∃ cur' : Array Value, Gb w' b e cur' ∧ cur'.size = cur.size ∧ ∀ i, i < n → ∃ x, cur'[i]? = some x ∧ D' i = .val x := by
    rintro ⟨D', vs, h0, hv, hg, hRD⟩
    obtain ⟨cur', hu, hst, hcur', hsz', _, _, hc'⟩ := grow_at sim' h0
    have hts := getV_rd sim' ts vs hg
    have hbel := sim'.heap.below
    refine ⟨sim'.defers.1, _, run_results hres _ _, D', valOf vs, hRD, ?_, ⟨by rw [hbel.os, r1], by rw [hbel.tape, r2], by rw [hbel.output, r3], by rw [← r5]; exact hbel.size, fun k hk hne => ?_⟩, cur', hcur', by omega, fun i hi => ?_⟩
    · congr 1
      by_cases h1 : ts.length = 1
      · rw [if_pos h1]
        match ts, h1 with
        | [t], _ =>
          have : [a'.tmps.getD t undef] = vs := by simpa using hts
          subst this
          rfl
      · rw [if_neg h1, hts]
        have hl : vs.length ≠ 1 := by rw [← hts]; simpa using h1
        match vs, hl with
        | [], _ => rfl
        | _ :: _ :: _, _ => rfl
    · rw [hbel.block k (by rw [r5]; exact hk)]; exact r6 k hne
    · obtain ⟨x, hx, hrx⟩ := hc' i hi
      obtain ⟨y, hy⟩ := hv i hi
      rw [hy] at hrx
      have hrx : x = y := hrx
      exact ⟨x, hx, by rw [hy, hrx]⟩
  cases ex with
  | normal => exact fin hq
  | ret => exact fin hq
  | _ => exact hq.elim
end
end Go.Proofs.Yteapdildbfimnaa
