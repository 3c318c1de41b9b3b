/- Regions with an operation that has a rule of its own; drawn regions that end in stores. No conditions. -/
import Derived.Test.YtpolbgenoicckaaEngH
import Derived.StillTail
import Derived.Lib.Walk
import Derived.Lib.SlicesMore
namespace Go.Proofs.Ytpolbgenoicckaa
set_option linter.unusedSimpArgs false
set_option linter.unusedVariables false
open Go.RowKit

section
variable {P : Program} {w0 : World} {S0 : Nat → Prop}

/-- Some operations of a region, then the rest of them. -/
theorem evOps_then {l tl : List Oper} : ∀ (os : List Oper) {K : ASt → Prop} {s : ASt} {φ : List (Option (Nat × Nat))} {a : Act} {w : World}, SimAt w0 S0 s φ a w → evOps P false l os K s → ∀ {Q : Exit → Act → World → Prop},
    (∀ s' a' w', K s' → Sim w0 S0 s' a' w' → wpList P l.toArray Q tl a' w') → wpList P l.toArray Q (os ++ tl) a w
  | [], K, s, φ, a, w, sim, h, Q, hn => hn _ _ _ h ⟨φ, sim⟩
  | o :: os, K, s, φ, a, w, sim, h, Q, hn => by
    have hrest : ∀ s' a' w', evOps P false l os K s' → Sim w0 S0 s' a' w' → wpList P l.toArray Q (os ++ tl) a' w' := fun s' a' w' h' ⟨φ', sim'⟩ => evOps_then os sim' h' hn
    have hskip : ∀ s', SimAt w0 S0 s' φ a w → skipOp o (evOps P false l os K) s' → wpList P l.toArray Q (os ++ tl) (a.put o.dst undef) w := fun s' sim' h' => by
      unfold skipOp at h'
      split at h'
      · rename_i d hd
        rw [hd]
        exact hrest _ _ _ h'.2 ⟨φ, sim'.put h'.1 rfl⟩
      · rename_i hd
        rw [hd]
        exact hrest _ _ _ h' ⟨φ, sim'⟩
    unfold evOps at h
    show wpList P l.toArray Q (o :: (os ++ tl)) a w
    split at h
    · rename_i hg
      unfold wpList
      rw [if_pos (by simp [Region.wanted, hg])]
      exact .inl (evOp_plain sim h hrest)
    · rename_i j want hg
      split at h
      · rename_i d hd
        split at h
        · rename_i b hb
          have hy := yielded_bool sim hd hb
          have say : ∀ c, b = c → SimAt w0 S0 (putS s d (sc (.bool c))) φ a w := fun c e => sim.say (by rw [hb, e])
          unfold wpList
          by_cases hbw : b = want
          · rw [if_pos (by simp [Region.wanted, hg, hy, hbw])]
            exact .inl (evOp_plain (say _ hbw) (h.1 hbw) hrest)
          · rw [if_neg (by simp [Region.wanted, hg, hy, hbw])]
            have hb' : b = !want := by cases b <;> cases want <;> simp_all
            exact hskip _ (say _ hb') (h.2 hb')
        · rename_i x hb
          have hy := yielded_bool sim hd hb
          unfold wpList
          rw [if_neg (by simp [Region.wanted, hg, hy])]
          exact hskip _ sim h
        · exact h.elim
      · exact h.elim

/-- What an operation with a rule of its own does. -/
def OpRule (N : Nat) (P : Program) (o : Oper) (X : ASt → (ASt → Prop) → Prop) : Prop :=
  o.guard = none ∧ ∀ (w0 : World) (S0 : Nat → Prop) (s : ASt) (φ : List (Option (Nat × Nat))) (a : Act) (w : World) (K : ASt → Prop) (next : Act → World → Prop) (Q : Exit → Act → World → Prop), w0.heap.size = N → SimAt w0 S0 s φ a w → X s K →
    (∀ s' a' w', K s' → Sim w0 S0 s' a' w' → next a' w') → o.wp P a w next Q

theorem AWP.region_rule {N : Nat} {id : Nat} {o : Oper} {os1 os2 : List Oper} {X : ASt → (ASt → Prop) → Prop} {Q : Exit → ASt → Prop} {s : ASt} (hX : OpRule N P o X)
    (h : evOps P false (os1 ++ o :: os2) os1 (fun s' => X s' (evOps P false (os1 ++ o :: os2) os2 (Q .normal))) s) : AWP N P (.region id (os1 ++ o :: os2).toArray false) Q s := by
  rintro w0 S0 a w hN ⟨φ, sim⟩
  refine wp_region_lit (evOps_then os1 sim h fun s' a' w' hK ⟨φ', sim'⟩ => ?_)
  unfold wpList
  rw [if_pos (by simp [Region.wanted, hX.1])]
  refine .inl (hX.2 w0 S0 s' φ' a' w' _ _ _ hN sim' hK fun s'' a'' w'' hK' ⟨φ'', sim''⟩ => ?_)
  exact evOps_plain os2 sim'' hK' fun s3 a3 w3 hK3 sim3 => ⟨s3, hK3, sim3⟩

/-- Is a slice nil? -/
def eqNilK (s : ASt) (x : Operand) (d : Nat) (K : ASt → Prop) : Prop :=
  match opd s x with
  | some (.one (.pv (.seq sz n _))) => d < s.nt ∧ ∀ b : Bool, (b = true → n * sz = 0) → K (putS s d (sc (.bool b)))
  | _ => False

theorem eqNil_rule {N : Nat} {x : Operand} {d t t' ty : Nat} {pos : String} {after : Array Edge} {e : TypeId} (ht : P.underlying t = some (.slice e)) :
    OpRule N P ⟨some d, .binOp .eql t x (.const (.slice none 0 0)) t', ty, pos, after, none⟩ (fun s K => eqNilK s x d K) := by
  refine ⟨rfl, fun w0 S0 s φ a w K next Q hN sim h hn => ?_⟩
  replace h : eqNilK s x d K := h
  unfold eqNilK at h
  split at h
  · rename_i sz n f hx
    obtain ⟨hd, h⟩ := h
    obtain ⟨A, c, ev, _, hp⟩ := sim.opd hx
    have hrun : (execOp a.eval ⟨some d, .binOp .eql t x (.const (.slice none 0 0)) t', ty, pos, after, none⟩).run P w = .ok (.value (.bool A.isNone)) w := by
      have hg : eqGuard .eql t x (.const (.slice none 0 0)) (.slice A n c) (.slice none 0 0) = pure () := rfl
      have hq := Lib.run_eql_slice_nil (P := P) w t e A n c 0 0 ht
      unfold execOp
      simp only [ev, show a.eval (.const (.slice none 0 0)) = .slice none 0 0 from rfl, hg, Sem.run_bind, Sem.run_pure, Result.andThen_ok, hq]
    unfold Oper.wp
    rw [hrun, Oper.upon_value]
    refine hn _ _ _ (h A.isNone fun hb => ?_) ⟨φ, sim.put hd rfl⟩
    rcases Nat.eq_zero_or_pos (n * sz) with h0 | h0
    · exact h0
    · obtain ⟨b, off, rfl, _⟩ := hp h0; cases hb
  · exact h.elim

/-- No call of a function. -/
def noCall (o : Oper) : Bool := match o.op with | .call ⟨.value _, _, _⟩ => false | _ => true

theorem evOp_still {o : Oper} {K : ASt → Prop} {s : ASt} {φ : List (Option (Nat × Nat))} {a : Act} {w : World} (sim : SimAt w0 S0 s φ a w) (hc : noCall o = true) (h : evOp P true o K s) {next : Act → Prop}
    (hn : ∀ s' a', K s' → SimAt w0 S0 s' φ a' w → next a') : o.still P a w next := by
  obtain ⟨dst, op, ty, pos, after, guard⟩ := o
  unfold evOp at h
  split at h
  · rename_i f args ts d hop hdst
    simp only at hop hdst
    subst hop hdst
    simp [noCall] at hc
  · rename_i t args ts d hop hdst
    simp only at hop hdst
    subst hop hdst
    simp [noCall] at hc
  · exact absurd h.1 (by simp)
  · exact absurd h.1 (by simp)
  · exact absurd h.1 (by simp)
  · exact absurd h.1 (by simp)
  · exact absurd h.1 (by simp)
  · exact absurd h.1 (by simp)
  · exact absurd h.1 (by simp)
  · rename_i d hdst _ _ _ _ _ _ _ _
    simp only at hdst
    subst hdst
    obtain ⟨r, v, hK, hr, hrun⟩ := evQ_ok (o := ⟨some d, op, ty, pos, after, guard⟩) h.2 sim
    unfold Oper.still
    rw [hrun w (.inr (Below.refl _ _)), Oper.stillUpon_value]
    exact hn _ _ hK (sim.put h.1 hr)
  · exact h.elim

theorem evOps_still {l : List Oper} : ∀ (os : List Oper) {K : ASt → Prop} {s : ASt} {φ : List (Option (Nat × Nat))} {a : Act} {w : World}, SimAt w0 S0 s φ a w → os.all noCall = true → evOps P true l os K s → ∀ {Q : Act → Prop},
    (∀ s' a', K s' → SimAt w0 S0 s' φ a' w → Q a') → wpStill P l.toArray w Q os a
  | [], K, s, φ, a, w, sim, _, h, Q, hn => hn _ _ h sim
  | o :: os, K, s, φ, a, w, sim, hc, h, Q, hn => by
    simp only [List.all_cons, Bool.and_eq_true] at hc
    have hrest : ∀ s' a', evOps P true l os K s' → SimAt w0 S0 s' φ a' w → wpStill P l.toArray w Q os a' := fun s' a' h' sim' => evOps_still os sim' hc.2 h' hn
    have hskip : ∀ s', SimAt w0 S0 s' φ a w → skipOp o (evOps P true l os K) s' → wpStill P l.toArray w Q os (a.put o.dst undef) := fun s' sim' h' => by
      unfold skipOp at h'
      split at h'
      · rename_i d hd
        rw [hd]
        exact hrest _ _ h'.2 (sim'.put h'.1 rfl)
      · rename_i hd
        rw [hd]
        exact hrest _ _ h' sim'
    unfold evOps at h
    split at h
    · rename_i hg
      unfold wpStill
      rw [if_pos (by simp [Region.wanted, hg])]
      exact evOp_still sim hc.1 h hrest
    · rename_i j want hg
      split at h
      · rename_i d hd
        split at h
        · rename_i b hb
          have hy := yielded_bool sim hd hb
          have say : ∀ c, b = c → SimAt w0 S0 (putS s d (sc (.bool c))) φ a w := fun c e => sim.say (by rw [hb, e])
          unfold wpStill
          by_cases hbw : b = want
          · rw [if_pos (by simp [Region.wanted, hg, hy, hbw])]
            exact evOp_still (say _ hbw) hc.1 (h.1 hbw) hrest
          · rw [if_neg (by simp [Region.wanted, hg, hy, hbw])]
            have hb' : b = !want := by cases b <;> cases want <;> simp_all
            exact hskip _ (say _ hb') (h.2 hb')
        · rename_i x hb
          have hy := yielded_bool sim hd hb
          unfold wpStill
          rw [if_neg (by simp [Region.wanted, hg, hy])]
          exact hskip _ sim h
        · exact h.elim
      · exact h.elim

/-- A region whose order is open, but for its last operations, n and on. -/
theorem AWP.drawn_tail {N : Nat} {id : Nat} {ops : List Oper} {Q : Exit → ASt → Prop} {s : ASt} (n : Nat) (hm : P.follows .mixedOrders = true) (hB : Region.lexTailB .any ops.toArray n = true) (hc : (ops.take n).all noCall = true)
    (h : evOps P true ops (ops.take n) (fun s' => evOps P false ops (ops.drop n) (Q .normal) s') s) : AWP N P (.region id ops.toArray true) Q s := by
  rintro w0 S0 a w hN ⟨φ, sim⟩
  have sim1 : SimAt w0 S0 s φ a { w with drawn := w.drawn + 1 } := sim.after ⟨rfl, rfl, rfl, Nat.le_refl _, fun _ _ => rfl⟩
  refine wp_region_still_tail n hm hB (evOps_still (ops.take n) sim1 hc h fun s' a' hK sim' => ?_)
  exact evOps_plain (ops.drop n) sim' hK fun s3 a3 w3 hK3 sim3 => ⟨s3, hK3, sim3⟩

/-- All but block b is as it was. -/
structure AllBut (b : Nat) (w w' : World) : Prop where
  os : w'.os = w.os
  tape : w'.tape = w.tape
  output : w'.output = w.output
  size : w.heap.size ≤ w'.heap.size
  oth : ∀ k, k < w.heap.size → k ≠ b → w'.heap[k]? = w.heap[k]?

/-- A function that writes the block of its first argument, a slice of n elements from the block's head, and hands a scalar back. -/
structure FnMk (P : Program) (f : FuncId) (n : Nat) (blk blk' : Blk) (u v : Value) : Prop where
  entry : ∀ (args : Array Value) (w : World), (callFunc f args).run P w = .ok (.enter f args) w
  elem : blk'.elem = blk.elem
  le : blk'.n ≤ blk.n
  runsNil : n = 0 → ∀ w, Calls P f #[.slice none 0 0, u] w fun e w' => e = .returned v ∧ Below w.heap.size w w'
  runsAt : ∀ (w : World) (b c : Nat) (cur : Array Value), w.heap[b]? = some (.cells cur blk.elem (0, 0)) → blk.n ≤ cur.size → Calls P f #[.slice (some ⟨b, 0, none⟩) n c, u] w fun e w' =>
    e = .returned v ∧ AllBut b w w' ∧ ∃ cur' : Array Value, w'.heap[b]? = some (.cells cur' blk.elem (0, 0)) ∧ cur'.size = cur.size ∧ ∀ i, i < blk'.n → ∃ x, cur'[i]? = some x ∧ blk'.f i = .val x

def markK (P : Program) (f : FuncId) (x y : Operand) (d : Nat) (s : ASt) (K : ASt → Prop) : Prop :=
  ∃ (id sz n : Nat) (blk blk' : Blk) (u v : Value), opd s x = some (.one (.own id sz 0 n)) ∧ s.h[id]? = some (some blk) ∧ opd s y = some (sc u) ∧ d < s.nt ∧ FnMk P f n blk blk' u v ∧
    K ⟨upd s.σ d (sc v), s.h.set id (some blk'), s.nt⟩

/-- A block that is not there is said to be another one that is not there. -/
theorem SimAt.unsaid {s : ASt} {φ : List (Option (Nat × Nat))} {a : Act} {w : World} (sim : SimAt w0 S0 s φ a w) {id : Nat} {blk blk' : Blk} (hi : s.h[id]? = some (some blk)) (hφ : φ[id]? = some none) (hn : blk'.n = 0) :
    SimAt w0 S0 { s with h := s.h.set id (some blk') } φ a w := by
  have hlt := (List.getElem?_eq_some_iff.1 hi).1
  have hs : ∀ k, Stab w0 S0 s.h φ k → k < w.heap.size → Stab w0 S0 (s.h.set id (some blk')) φ k ∧ w.heap[k]? = w.heap[k]? := fun k h1 _ => ⟨⟨h1.1, fun h => h1.2 ((live_set hi k).1 h)⟩, rfl⟩
  refine ⟨⟨by simp [sim.heap.len], sim.heap.below, fun i x hi' => ?_, fun i j bi bj bb z1 z2 h1 h2 h3 h4 => ?_⟩, fun t v ht => ?_, sim.defers, sim.size⟩
  · by_cases e : id = i
    · subst e
      have : x = blk' := by simpa [hlt] using hi'.symm
      subst this
      exact .inl ⟨hφ, hn⟩
    · have hi'' : s.h[i]? = some (some x) := by rw [← hi']; exact (List.getElem?_set_ne e).symm
      rcases sim.heap.blk i x hi'' with h1 | ⟨b', c, h1, h2, h3, h4, h5⟩
      · exact .inl h1
      · refine .inr ⟨b', c, h1, h2, h3, h4, fun j hj => ?_⟩
        obtain ⟨y, hy, hr⟩ := h5 j hj
        exact ⟨y, hy, Rd.mono hs _ _ hr⟩
  · have g : ∀ (k : Nat) (bk : Blk), (s.h.set id (some blk'))[k]? = some (some bk) → ∃ bk', s.h[k]? = some (some bk') := fun k bk hk => by
      by_cases e : id = k
      · subst e; exact ⟨blk, hi⟩
      · rw [List.getElem?_set_ne e] at hk; exact ⟨bk, hk⟩
    obtain ⟨b1, h1'⟩ := g i bi h1
    obtain ⟨b2, h2'⟩ := g j bj h2
    exact sim.heap.inj i j b1 b2 bb z1 z2 h1' h2' h3 h4
  · obtain ⟨u, hu, hr⟩ := sim.slots t v ht
    exact ⟨u, hu, RdSlot.mono hs (fun _ _ h => h) v u hr⟩

theorem mark_rule {N : Nat} {f : FuncId} {x y : Operand} {d ty : Nat} {ts : Array TypeId} {pos : String} {after : Array Edge} :
    OpRule N P ⟨some d, .call ⟨.value (.func f), #[x, y], ts⟩, ty, pos, after, none⟩ (fun s K => markK P f x y d s K) := by
  refine ⟨rfl, fun w0 S0 s φ a w K next Q hN sim h hn => ?_⟩
  obtain ⟨id, sz, n, blk, blk', u, v, hx, hb, hy, hd, hf, hK⟩ := h
  have ey : a.eval y = u := sim.opd hy
  have hrun : (execOp a.eval ⟨some d, .call ⟨.value (.func f), #[x, y], ts⟩, ty, pos, after, none⟩).run P w = .ok (.enter f #[a.eval x, u]) w := by
    have e : execOp a.eval ⟨some d, .call ⟨.value (.func f), #[x, y], ts⟩, ty, pos, after, none⟩ = callFunc f (#[] ++ #[x, y].map a.eval ++ #[]) := rfl
    rw [e, hf.entry]
    congr 2
    rw [← Array.toList_inj]
    simp [ey]
  unfold Oper.wp
  rw [hrun, Oper.upon_enter]
  rcases sim.opd hx with ⟨hφ, _, hl, ev⟩ | ⟨b, c, z, hφ, ev, hc, _, _⟩
  · rw [ev]
    subst hl
    have hbn : blk.n = 0 := by
      rcases sim.heap.blk id blk hb with ⟨_, h0⟩ | ⟨b, cur, h0, _⟩
      · exact h0
      · rw [hφ] at h0; cases h0
    refine (hf.runsNil rfl w).mono ?_
    rintro e w' ⟨rfl, hbel⟩
    refine hn _ _ _ hK ⟨φ, ?_⟩
    exact ((sim.after hbel).unsaid hb hφ (by have := hf.le; omega)).put hd rfl
  · rw [ev]
    obtain ⟨cur, hz, hB, hcur, hbn, _⟩ := sim.blkAt hb hφ
    refine (hf.runsAt w b c cur hcur hbn).mono ?_
    rintro e w' ⟨rfl, hall, cur', hcur', hsz, hcells⟩
    refine hn _ _ _ hK ⟨φ, ?_⟩
    refine (sim.write hb hφ (blk' := blk') hcur' (by omega) hall.os hall.tape hall.output hall.size hall.oth hf.elem (by have := hf.le; omega) fun i hi => ?_).put hd rfl
    obtain ⟨x, h1, h2⟩ := hcells i hi
    exact ⟨x, h1, by rw [h2]; rfl⟩

/-- A region that moves two operands, marks, and assigns. -/
theorem AWP.region_mark {N : Nat} {id : Nat} {o1 o2 o4 : Oper} {f : FuncId} {x y : Operand} {d ty : Nat} {ts : Array TypeId} {pos : String} {after : Array Edge} {Q : Exit → ASt → Prop} {s : ASt}
    (h : evOps P false [o1, o2, ⟨some d, .call ⟨.value (.func f), #[x, y], ts⟩, ty, pos, after, none⟩, o4] [o1, o2] (fun s' => markK P f x y d s' (evOps P false [o1, o2, ⟨some d, .call ⟨.value (.func f), #[x, y], ts⟩, ty, pos, after, none⟩, o4] [o4] (Q .normal))) s) :
    AWP N P (.region id #[o1, o2, ⟨some d, .call ⟨.value (.func f), #[x, y], ts⟩, ty, pos, after, none⟩, o4] false) Q s :=
  AWP.region_rule (os1 := [o1, o2]) (os2 := [o4]) mark_rule h

theorem mark_go {f : FuncId} {x y : Operand} {d : Nat} {s : ASt} {K : ASt → Prop} {id sz n : Nat} {blk blk' : Blk} {u v : Value} (hx : opd s x = some (.one (.own id sz 0 n))) (hb : s.h[id]? = some (some blk)) (hy : opd s y = some (sc u)) (hd : d < s.nt)
    (hf : FnMk P f n blk blk' u v) (h : K ⟨upd s.σ d (sc v), s.h.set id (some blk'), s.nt⟩) : markK P f x y d s K := ⟨id, sz, n, blk, blk', u, v, hx, hb, hy, hd, hf, h⟩

theorem eqNil_go {x : Operand} {d : Nat} {s : ASt} {K : ASt → Prop} {sz n : Nat} {f : Nat → V} (hx : opd s x = some (.one (.pv (.seq sz n f)))) (hd : d < s.nt) (h : ∀ b : Bool, (b = true → n * sz = 0) → K (putS s d (sc (.bool b)))) : eqNilK s x d K := by
  unfold eqNilK; rw [hx]; exact ⟨hd, h⟩

/-- A region that moves an operand and asks whether it is nil. -/
theorem AWP.region_eqNil {N : Nat} {id : Nat} {o1 : Oper} {x : Operand} {d t t' ty : Nat} {pos : String} {after : Array Edge} {e : TypeId} {Q : Exit → ASt → Prop} {s : ASt} (ht : P.underlying t = some (.slice e))
    (h : evOps P false [o1, ⟨some d, .binOp .eql t x (.const (.slice none 0 0)) t', ty, pos, after, none⟩] [o1] (fun s' => eqNilK s' x d (evOps P false [o1, ⟨some d, .binOp .eql t x (.const (.slice none 0 0)) t', ty, pos, after, none⟩] [] (Q .normal))) s) :
    AWP N P (.region id #[o1, ⟨some d, .binOp .eql t x (.const (.slice none 0 0)) t', ty, pos, after, none⟩] false) Q s :=
  AWP.region_rule (os1 := [o1]) (os2 := []) (eqNil_rule ht) h

def VEL : List V → List V → Prop
  | [], [] => True
  | v :: vs, v' :: vs' => VE v v' ∧ VEL vs vs'
  | _, _ => False

theorem VEL.rd {w : World} {S : Nat → Prop} : ∀ (vs vs' : List V) (us : List Value), VEL vs vs' → RdL w S vs us → RdL w S vs' us
  | [], [], _, _, h => h
  | [], _ :: _, _, e, _ => e.elim
  | _ :: _, [], _, e, _ => e.elim
  | _ :: _, _ :: _, [], _, h => h.elim
  | v :: vs, v' :: vs', u :: us, e, h => ⟨VE.rd v v' u e.1 h.1, VEL.rd vs vs' us e.2 h.2⟩

/-- A contract in other words for its arguments. -/
theorem Fn.of_ve {f : FuncId} {vs vs' : List V} {r : Res} (h : Fn P f vs r) (e : VEL vs' vs) : Fn P f vs' r := ⟨h.entry, fun w S us hr => h.runs w S us (VEL.rd vs' vs us e hr)⟩

end
end Go.Proofs.Ytpolbgenoicckaa
