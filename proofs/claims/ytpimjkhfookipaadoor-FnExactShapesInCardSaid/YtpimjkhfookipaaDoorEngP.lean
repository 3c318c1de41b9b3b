/- Maps of the call's own: what is stored, what is read. No conditions. -/
import Derived.Test.YtpimjkhfookipaaDoorEngN
import Derived.MapKept
import Derived.ChangeMaps5
namespace Go.Proofs.YtpimjkhfookipaaDoor
set_option linter.unusedSimpArgs false
set_option linter.unusedVariables false
open Go.RowKit Go.ChangeMaps

/-! ### A map's block turned -/
/-- w' differs from w in block b, a map. -/
structure MapB (b : Nat) (w w' : World) : Prop where
  os : w'.os = w.os
  tape : w'.tape = w.tape
  output : w'.output = w.output
  size : w'.heap.size = w.heap.size
  oth : ∀ j, j ≠ b → w'.heap[j]? = w.heap[j]?
  was : ∃ es c, w.heap[b]? = some (.map es c)
theorem MapB.cells {b : Nat} {w w' : World} (h : MapB b w w') {j : Nat} {cur : Array Value} {e : TypeId} {q : Nat × Nat} (hc : w.heap[j]? = some (.cells cur e q)) : w'.heap[j]? = some (.cells cur e q) := by
  have hne : j ≠ b := by
    rintro rfl
    obtain ⟨es, c, hb⟩ := h.was
    rw [hb] at hc; cases hc
  rw [h.oth _ hne]; exact hc
theorem MapB.cell {b : Nat} {w w' : World} (h : MapB b w w') {a : Addr} {x : Value} (hc : w.cell? a = some x) : w'.cell? a = some x := by
  have hne : a.block ≠ b := by
    intro e
    obtain ⟨es, c, hb⟩ := h.was
    unfold World.cell? at hc
    rw [e, hb] at hc; cases hc
  rw [World.cell?_of_block (w := w) (h.oth _ hne)]; exact hc
theorem MapB.wr {b : Nat} {w w' : World} (h : MapB b w w') {j : Nat} (hw : Wr w j) : Wr w' j := by
  obtain ⟨cur, e, hc⟩ := hw
  exact ⟨cur, e, h.cells hc⟩
theorem Rd.mapped {b : Nat} {w w' : World} (h : MapB b w w') : ∀ {S : Nat → Prop} (v : V) (u : Value), Rd w S v u → Rd w' S v u
  | S, .val _, _, h' => h'
  | S, .seq sz n f, u, h' => by
    obtain ⟨A, c, rfl, hc, h'⟩ := h'
    refine ⟨A, c, rfl, hc, fun hp => ?_⟩
    obtain ⟨g, off, rfl, hS, h'⟩ := h' hp
    refine ⟨g, off, rfl, hS, fun i hi => ?_⟩
    obtain ⟨x, hx, hr⟩ := h' i hi
    exact ⟨x, h.cell hx, Rd.mapped h (f i) x hr⟩
  | S, .agg n f, u, h' => by
    obtain ⟨cs, rfl, hn, h'⟩ := h'
    refine ⟨cs, rfl, hn, fun i hi => ?_⟩
    obtain ⟨x, hx, hr⟩ := h' i hi
    exact ⟨x, hx, Rd.mapped h (f i) x hr⟩
  | S, .pin n f, u, h' => by
    obtain ⟨g, off, rfl, h'⟩ := h'
    refine ⟨g, off, rfl, fun i hi => ?_⟩
    obtain ⟨hS, x, hx, hr⟩ := h' i hi
    exact ⟨hS, x, h.cell hx, Rd.mapped h (f i) x hr⟩
  | S, .clo g n f, u, h' => by
    obtain ⟨cs, rfl, hn, h'⟩ := h'
    refine ⟨cs, rfl, hn, fun i hi => ?_⟩
    obtain ⟨x, hx, hr⟩ := h' i hi
    exact ⟨x, hx, Rd.mapped h (f i) x hr⟩
  | S, .old Z v, u, h' => ⟨fun j hj => ⟨(h'.1 j hj).1, by rw [h.size]; exact (h'.1 j hj).2⟩, Rd.mapped h v u h'.2⟩
  | S, .row u0 Z sz n f, u, h' => by
    obtain ⟨e, hz, A, c, hu, hc, h'⟩ := h'
    refine ⟨e, fun j hj => ⟨(hz j hj).1, h.wr (hz j hj).2⟩, A, c, hu, hc, fun hp => ?_⟩
    obtain ⟨g, off, hA, hZ, h'⟩ := h' hp
    refine ⟨g, off, hA, hZ, fun i hi => ?_⟩
    obtain ⟨x, hx, hr⟩ := h' i hi
    exact ⟨x, h.cell hx, Rd.mapped h (f i) x hr⟩
  | S, .grow u0 Z e sz n f, u, h' => by
    obtain ⟨hu, hz, h'⟩ := h'
    refine ⟨hu, fun j hj => ⟨(hz j hj).1, h.wr (hz j hj).2⟩, ?_⟩
    rcases h' with h' | ⟨g, c, cur, h1, h2, h3, h4, h5, h6, h7⟩
    · exact .inl h'
    · refine .inr ⟨g, c, cur, h1, h2, h3, h4, h.cells h5, h6, fun i hi => ?_⟩
      obtain ⟨x, hx, hr⟩ := h7 i hi
      exact ⟨x, hx, Rd.mapped h (f i) x hr⟩
  | S, .cur g k Z c, u, h' => by
    obtain ⟨hu, hb, hz, cur, cv, p, q, e, hc, h3, hp, hq, hr⟩ := h'
    exact ⟨hu, hb, fun j hj => ⟨(hz j hj).1, by rw [h.size]; exact (hz j hj).2.1, (hz j hj).2.2⟩, cur, cv, p, q, e, h.cells hc, h3, hp, hq, Rd.mapped h c cv hr⟩

/-- What the slots hold behind a store into map b. -/
def swSV (b : Nat) (L : List (Value × Value)) : SV → SV
  | .mp b0 L0 => if b0 = b then .mp b0 L else .mp b0 L0
  | v => v
def swSM (b : Nat) (L : List (Value × Value)) : Slot → Slot
  | .one v => .one (swSV b L v)
  | .many vs => .many (vs.map (swSV b L))
def swM (b : Nat) (L : List (Value × Value)) : List (Nat × Slot) → List (Nat × Slot)
  | [] => []
  | (t, v) :: r => (t, swSM b L v) :: swM b L r
theorem swM_get {b : Nat} {L : List (Value × Value)} {t : Nat} {v : Slot} : ∀ {σ : List (Nat × Slot)}, lookup (swM b L σ) t = some v → ∃ v0, lookup σ t = some v0 ∧ v = swSM b L v0
  | [], h => by cases h
  | (i, x) :: r, h => by
    simp only [swM, lookup] at h ⊢
    by_cases e : i = t
    · rw [if_pos e] at h ⊢; injection h with h; exact ⟨x, rfl, h.symm⟩
    · rw [if_neg e] at h ⊢; exact swM_get h

section
variable {P : Program} {N : Nat} {w0 : World} {S0 : Nat → Prop} {s : ASt} {φ : List (Option (Nat × Nat))} {a : Act} {w : World}

theorem RdS.mapped {b : Nat} {w' : World} {L : List (Value × Value)} {S : Nat → Prop} (h : MapB b w w') {es : Array MapEntry} {c : Nat} (hm : w'.heap[b]? = some (.map es c)) (hL : es.toList.map kvOf = L) : ∀ (v : SV) (u : Value), RdS w S φ v u → RdS w' S φ (swSV b L v) u
  | .pv v, u, h' => Rd.mapped h v u h'
  | .own id sz off len, u, h' => h'
  | .ptr id off, u, h' => h'
  | .pin n f, u, h' => by
    obtain ⟨g, off, rfl, h'⟩ := h'
    refine ⟨g, off, rfl, fun i hi => ?_⟩
    obtain ⟨hS, x, hx, hr⟩ := h' i hi
    exact ⟨hS, x, h.cell hx, Rd.mapped h (f i) x hr⟩
  | .mp b0 L0, u, h' => by
    obtain ⟨h1, h2, es0, c0, h3, h4⟩ := h'
    show RdS w' S φ (if b0 = b then .mp b0 L else .mp b0 L0) u
    by_cases e : b0 = b
    · subst e; rw [if_pos rfl]; exact ⟨h1, h2, es, c, hm, hL⟩
    · rw [if_neg e]; exact ⟨h1, h2, es0, c0, by rw [h.oth _ e]; exact h3, h4⟩
theorem RdSs.mapped {b : Nat} {w' : World} {L : List (Value × Value)} {S : Nat → Prop} (h : MapB b w w') {es : Array MapEntry} {c : Nat} (hm : w'.heap[b]? = some (.map es c)) (hL : es.toList.map kvOf = L) : ∀ (vs : List SV) (us : List Value), RdSs w S φ vs us → RdSs w' S φ (vs.map (swSV b L)) us
  | [], [], _ => trivial
  | [], _ :: _, h' => h'.elim
  | _ :: _, [], h' => h'.elim
  | v :: vs, u :: us, h' => ⟨RdS.mapped h hm hL v u h'.1, RdSs.mapped h hm hL vs us h'.2⟩

theorem SimAt.mapped (sim : SimAt w0 S0 s φ a w) {b : Nat} (hb : w0.heap.size ≤ b) {w' : World} (h : MapB b w w') {es : Array MapEntry} {c : Nat} {L : List (Value × Value)} (hm : w'.heap[b]? = some (.map es c)) (hL : es.toList.map kvOf = L) : SimAt w0 S0 ⟨swM b L s.σ, s.h, s.nt⟩ φ a w' := by
  refine ⟨⟨sim.heap.len, ⟨?_, ?_, ?_, ?_, fun j hj => ?_⟩, fun id blk hi => ?_, sim.heap.inj⟩, fun t v ht => ?_, sim.defers, sim.size⟩
  · rw [h.os, sim.heap.below.os]
  · rw [h.tape, sim.heap.below.tape]
  · rw [h.output, sim.heap.below.output]
  · rw [h.size]; exact sim.heap.below.size
  · rw [h.oth j (by omega)]; exact sim.heap.below.block j hj
  · rcases sim.heap.blk id blk hi with h1 | ⟨g, cu, h1, h2, h4, h5, h6⟩
    · exact .inl h1
    · refine .inr ⟨g, cu, h1, h2, h.cells h4, h5, fun i hi' => ?_⟩
      obtain ⟨x, hx, hrx⟩ := h6 i hi'
      exact ⟨x, hx, Rd.mapped h _ _ hrx⟩
  · obtain ⟨v0, h1, rfl⟩ := swM_get ht
    obtain ⟨x, hx, hrx⟩ := sim.slots t v0 h1
    refine ⟨x, hx, ?_⟩
    cases v0 with
    | one v0 => exact RdS.mapped h hm hL v0 x hrx
    | many vs =>
      obtain ⟨us, rfl, hrx⟩ := hrx
      exact ⟨us, rfl, RdSs.mapped h hm hL vs us hrx⟩

/-! ### The operations -/
theorem ax_makeMap [Cx] {K : ASt → Prop} {t : TypeId} {d ty : Nat} {pos : String} {after : Array Edge} (hd : Nat.ble (d + 1) s.nt = true) (h : ∀ b, N ≤ b → K (putS s d (.one (.mp b [])))) : Ax N P K ⟨some d, .makeMap t none, ty, pos, after, none⟩ s := by
  refine ⟨rfl, fun w0 S0 φ a w hN sim next Q hnx => ?_⟩
  have hsz := sim.heap.below.size
  have hr : (execOp a.eval ⟨some d, .makeMap t none, ty, pos, after, none⟩).run P w = .ok (.value (.map (some w.heap.size))) (w.alloc (.map #[] 0)) := rfl
  unfold Oper.wp
  rw [hr, Oper.upon_value]
  have sim' := sim.after (below_alloc w (.map #[] 0))
  refine hnx _ _ _ (h w.heap.size (by omega)) ⟨w0, Reb.refl _, φ, sim'.put (d := d) (Nat.le_of_ble_eq_true hd) (v := .one (.mp w.heap.size [])) ⟨rfl, ⟨.inr (by omega), ?_⟩, #[], 0, heap_alloc_new w _, rfl⟩⟩
  rintro ⟨id, blk, z, h1, h2⟩
  rcases sim.heap.blk id blk h1 with ⟨h3, _⟩ | ⟨g, cu, h3, h4, h5, _⟩
  · rw [h3] at h2; cases h2
  · rw [h3] at h2
    injection h2 with h2; injection h2 with h2; injection h2 with h2 _
    have := block_lt h5
    omega

theorem ax_mapUpdate [Cx] {K : ASt → Prop} {t kt e : TypeId} {κ : Type} [DecidableEq κ] {enc : κ → Value} {m x y : Operand} {ty : Nat} {pos : String} {after : Array Edge} {b : Nat} {l : List (κ × Value)} {kv : V} {v : Value} (k : κ)
    (hm : opd s m = some (.one (.mp b (encA enc l)))) (hx : opd s x = some (.one (.pv kv))) (hkv : IsV kv (enc k)) (hy : opd s y = some (sc v)) (hk : KeyT P kt enc) (ht : P.underlying t = some (.map kt e)) (hb : N ≤ b)
    (h : K ⟨swM b (encA enc (putA l k v)) s.σ, s.h, s.nt⟩) : Ax N P K ⟨none, .mapUpdate t m x y, ty, pos, after, none⟩ s := by
  refine ⟨rfl, fun w0 S0 φ a w hN sim next Q hnx => ?_⟩
  obtain ⟨h1, h2, es, c, h3, h4⟩ := sim.opd hm
  have hkx : a.eval x = enc k := hkv _ _ _ (sim.opd hx)
  have hvy : a.eval y = v := val_of sim hy
  have hkeys : es.toList.map (·.key) = (l.map (·.1)).map enc := by
    have := congrArg (List.map Prod.fst) h4
    simpa [encA, kvOf, List.map_map, Function.comp_def] using this
  have hf := hk.find k es.toList (l.map (·.1)) w hkeys
  obtain ⟨es', c', hr, hes⟩ : ∃ es' c', (execOp a.eval ⟨none, .mapUpdate t m x y, ty, pos, after, none⟩).run P w = .ok .skip (setBlock w b (.map es' c')) ∧ es'.toList.map kvOf = encA enc (putA l k v) := by
    rcases findP_is (enc := enc) k l es.toList 0 h4 with ⟨g1, g2, g3⟩ | ⟨j, e', g1, g2, g3, g4, g5⟩
    · refine ⟨es.push { key := enc k, val := v, born := c }, c + 1, ?_, by rw [Array.toList_push]; exact g3 v c⟩
      rw [g1] at hf
      simp [execOp, h1, hkx, hvy, Instr.mapUpdate, Sem.run_bind, run_underlying ht, MapKept.run_getObj_map h3, hk.chk, hf, MapKept.run_setObj_map _ h3, Result.andThen, setBlock]
    · refine ⟨es.modify j fun e => { e with key := enc k, val := v }, c, ?_, by rw [Array.toList_modify]; exact g5 v⟩
      rw [g1, Nat.zero_add] at hf
      have hj : es[j]? = some e' := by simpa using g2
      have hstay : (Instr.keyThatStays (enc k) (enc k)).run P w = .ok (enc k) w := by unfold Instr.keyThatStays; rw [if_pos (hk.bits k)]; rfl
      simp [execOp, h1, hkx, hvy, Instr.mapUpdate, Sem.run_bind, run_underlying ht, MapKept.run_getObj_map h3, hk.chk, hf, hj, g3, hstay, MapKept.run_setObj_map _ h3, Result.andThen, setBlock]
  unfold Oper.wp
  rw [hr, Oper.upon_skip]
  have hB : MapB b w (setBlock w b (.map es' c')) := ⟨rfl, rfl, rfl, by simp [setBlock], fun j hj => heap_setBlock_other h3 _ hj, es, c, h3⟩
  exact hnx _ _ _ h ⟨w0, Reb.refl _, φ, sim.mapped (by omega) hB (heap_setBlock_same h3 _) hes⟩

theorem ax_lenMap [Cx] {K : ASt → Prop} {t kt e : TypeId} {m : Operand} {d ty : Nat} {pos : String} {after : Array Edge} {b : Nat} {L : List (Value × Value)}
    (hm : opd s m = some (.one (.mp b L))) (ht : P.underlying t = some (.map kt e)) (hd : Nat.ble (d + 1) s.nt = true)
    (h : K (putS s d (sc (.int .i64 L.length)))) : Ax N P K ⟨some d, .call ⟨.builtin .len, #[m], #[t]⟩, ty, pos, after, none⟩ s := by
  refine ⟨rfl, fun w0 S0 φ a w hN sim next Q hnx => ?_⟩
  obtain ⟨h1, h2, es, c, h3, h4⟩ := sim.opd hm
  have hl : es.size = L.length := by rw [← h4]; simp
  have hr : (execOp a.eval ⟨some d, .call ⟨.builtin .len, #[m], #[t]⟩, ty, pos, after, none⟩).run P w = .ok (.value (.int .i64 L.length)) w := by
    have h0 : (Builtin.len_ #[t] ty #[.map (some b)]).run P w = .ok (.int .i64 L.length) w := by
      simp [Builtin.len_, Sem.run_bind, run_underlying ht, MapKept.run_getObj_map h3, Result.andThen, hl, goInt]
    rw [← h1] at h0
    unfold execOp
    simp only [resolve, invoke, builtin, Sem.run_bind, Sem.run_pure, Result.andThen_ok, List.map_toArray, List.map_cons, List.map_nil, h0]
  unfold Oper.wp
  rw [hr, Oper.upon_value]
  exact hnx _ _ _ h ⟨w0, Reb.refl _, φ, sim.put (d := d) (Nat.le_of_ble_eq_true hd) (v := sc _) rfl⟩
end
end Go.Proofs.YtpimjkhfookipaaDoor
