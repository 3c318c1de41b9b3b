/- Regions, code and bodies: what the abstract state says is what the model does. No conditions. -/
import Derived.Test.YtpolbgenoicckaaEngD4
import Derived.Deep.LoopGhost
namespace Go.Proofs.Ytpolbgenoicckaa
set_option linter.unusedSimpArgs false
set_option linter.unusedVariables false
open Go.RowKit

def kput (K : ASt → Prop) (s : ASt) (d : Nat) (r : Slot) : Prop := K (putS s d r)

/-- An operation that is skipped leaves nothing in its slot. -/
def skipOp (o : Oper) (K : ASt → Prop) (s : ASt) : Prop :=
  match o.dst with
  | some d => d < s.nt ∧ K (putS s d (sc undef))
  | none => K s

/-- The first n of them. -/
def tabV : Nat → (Nat → V) → List V
  | 0, _ => []
  | n + 1, g => g 0 :: tabV n fun i => g (i + 1)

theorem tabV_len : ∀ (n : Nat) (g : Nat → V), (tabV n g).length = n
  | 0, _ => rfl
  | n + 1, g => by simp [tabV, tabV_len n]
theorem tabV_get : ∀ (n : Nat) (g : Nat → V) (i : Nat), i < n → (tabV n g)[i]? = some (g i)
  | 0, _, _, h => by omega
  | n + 1, g, 0, _ => by simp [tabV]
  | n + 1, g, i + 1, h => by simpa [tabV] using tabV_get n (fun i => g (i + 1)) i (by omega)

/-- A call of a function value. -/
def dynK (P : Program) (q : Bool) (args : List Operand) (d : Nat) (K : ASt → Prop) (s : ASt) : Option Slot → Prop
  | some (.one (.pv (.val (.func (.func f) a b)))) => a = #[] ∧ b = #[] ∧ argsK s args true [] (callK P q f d K s)
  | some (.one (.pv (.clo f n g))) => argsK s args true [] fun p vs => callK P q f d K s p (vs ++ tabV n g)
  | _ => False

/-- One operation. q: nothing may be written. -/
def evOp (P : Program) (q : Bool) (o : Oper) (K : ASt → Prop) (s : ASt) : Prop :=
  match o.op, o.dst with
  | .call ⟨.value (.func f), args, _⟩, some d => argsK s args.toList true [] (callK P q f d K s)
  | .call ⟨.value (.tmp t), args, _⟩, some d => dynK P q args.toList d K s (lookup s.σ t)
  | .call ⟨.builtin .append, ⟨[x, y]⟩, ⟨[t, t']⟩⟩, some d => q = false ∧ t = t' ∧ d < s.nt ∧ appendK P s t x y d K
  | .store t x y, none => q = false ∧ storeK P s t x y K
  | .makeSlice t l c, some d => q = false ∧ d < s.nt ∧ makeK P s t l c d K
  | .box t x, some d => q = false ∧ d < s.nt ∧ frz s x (boxV t d K)
  | .alloc t, some d => q = false ∧ d < s.nt ∧ allocK P s t d K
  | .build t ps, some d => q = false ∧ d < s.nt ∧ buildK P s t ps.toList d K
  | .buildSlice t n ps, some d => q = false ∧ d < s.nt ∧ buildSliceK P s t n ps.toList d K
  | op, some d => d < s.nt ∧ evQ P s op (kput K s d)
  | _, none => False

/-- The operations of a region in the text's order; l: all of them, for the guards. -/
def evOps (P : Program) (q : Bool) (l : List Oper) : List Oper → (ASt → Prop) → ASt → Prop
  | [], K, s => K s
  | o :: os, K, s =>
    match o.guard with
    | none => evOp P q o (evOps P q l os K) s
    | some (j, want) =>
      match (l[j]?).bind (·.dst) with
      | some d =>
        match lookup s.σ d with
        | some (.one (.pv (.val (.bool b)))) =>
          (b = want → evOp P q o (evOps P q l os K) (putS s d (sc (.bool want)))) ∧
          (b = !want → skipOp o (evOps P q l os K) (putS s d (sc (.bool (!want)))))
        | some (.one (.pv (.val (.tuple _)))) => skipOp o (evOps P q l os K) s
        | _ => False
      | none => False

section
variable {P : Program} {w0 : World} {S0 : Nat → Prop}

/-- A slot that is known is known in other words. -/
theorem SimAt.say {s : ASt} {φ : List (Option (Nat × Nat))} {a : Act} {w : World} (sim : SimAt w0 S0 s φ a w) {d : Nat} {r : Slot} (h : lookup s.σ d = some r) : SimAt w0 S0 (putS s d r) φ a w := by
  refine ⟨sim.heap, fun t v ht => ?_, sim.defers, sim.size⟩
  simp only [putS, lookup_upd] at ht
  split at ht
  · rename_i e; subst e; injection ht with ht; subst ht; exact sim.slots _ _ h
  · exact sim.slots t v ht

theorem yielded_bool {l : List Oper} {j d : Nat} {s : ASt} {φ : List (Option (Nat × Nat))} {a : Act} {w : World} (sim : SimAt w0 S0 s φ a w) (hd : (l[j]?).bind (·.dst) = some d) {v : Value} (h : lookup s.σ d = some (sc v)) :
    yielded l.toArray a.tmps j = match v with | .bool b => some b | _ => none := by
  obtain ⟨u, hu, hr⟩ := sim.slots d _ h
  have hr' : u = v := hr
  subst hr'
  unfold yielded
  rw [show ((l.toArray[j]?).bind (·.dst)) = some d by simpa using hd]
  simp only [Option.bind_some, hu]
  cases u <;> rfl

theorem RdL.both {w : World} {S : Nat → Prop} : ∀ (vs vs' : List V) (us us' : List Value), RdL w S vs us → RdL w S vs' us' → RdL w S (vs ++ vs') (us ++ us')
  | [], _, [], _, _, h => h
  | [], _, _ :: _, _, h, _ => h.elim
  | _ :: _, _, [], _, h, _ => h.elim
  | _ :: vs, vs', _ :: us, us', h, h' => ⟨h.1, RdL.both vs vs' us us' h.2 h'⟩

theorem RdL.of_get {w : World} {S : Nat → Prop} : ∀ (vs : List V) (us : List Value), us.length = vs.length → (∀ (i : Nat) (v : V), vs[i]? = some v → ∃ u, us[i]? = some u ∧ Rd w S v u) → RdL w S vs us
  | [], [], _, _ => trivial
  | [], _ :: _, h, _ => by simp at h
  | _ :: _, [], h, _ => by simp at h
  | v :: vs, u :: us, h, hg => by
    refine ⟨?_, RdL.of_get vs us (by simpa using h) fun i v' hv => by simpa using hg (i + 1) v' (by simpa using hv)⟩
    obtain ⟨u', h1, h2⟩ := hg 0 v (by simp)
    simp at h1; subst h1; exact h2

theorem run_dyn {a : Act} {w : World} {f : FuncId} {cs : Array Value} {t d ty : Nat} {pos : String} {after : Array Edge} {guard : Option (Nat × Bool)} {args : Array Operand} {ts : Array TypeId} (he : a.eval (.tmp t) = .func (.func f) #[] cs)
    (hf : ∀ (args : Array Value) (w : World), (callFunc f args).run P w = .ok (.enter f args) w) :
    (execOp a.eval ⟨some d, .call ⟨.value (.tmp t), args, ts⟩, ty, pos, after, guard⟩).run P w = .ok (.enter f (args.toList.map a.eval ++ cs.toList).toArray) w := by
  have e : execOp a.eval ⟨some d, .call ⟨.value (.tmp t), args, ts⟩, ty, pos, after, guard⟩ = (do let d ← Deferred.ofValue (a.eval (.tmp t)) (args.map a.eval); invoke d.target d.args) := by
    rfl
  rw [e, he]
  simp only [Deferred.ofValue, Sem.run_bind, Sem.run_pure, Result.andThen_ok, invoke, hf]
  congr 2
  rw [← Array.toList_inj]
  simp

theorem callK_plain {o : Oper} {f : FuncId} {d : Nat} {K : ASt → Prop} {s : ASt} {φ : List (Option (Nat × Nat))} {a : Act} {w : World} {p : Bool} {vs : List V} {us : List Value} (sim : SimAt w0 S0 s φ a w) (ho : o.dst = some d) (h : callK P false f d K s p vs)
    (hrun : (∀ (args : Array Value) (w : World), (callFunc f args).run P w = .ok (.enter f args) w) → (execOp a.eval o).run P w = .ok (.enter f us.toArray) w) (h3 : RdL w (fun _ => True) vs us) (h4 : p = true → RdL w (Stab w0 S0 s.h φ) vs us) {next : Act → World → Prop} {Q : Exit → Act → World → Prop}
    (hn : ∀ s' a' w', K s' → Sim w0 S0 s' a' w' → next a' w') : o.wp P a w next Q := by
  obtain ⟨hd, r, hf, hres, hK⟩ := h
  unfold Oper.wp
  rw [hrun hf.1, Oper.upon_enter, ho]
  rcases hres with hres | ⟨_, hres | hres⟩
  · refine (hf.2 w (fun _ => True) _ h3).mono ?_
    rintro e w' ⟨u, ψ, rfl, hh, hr⟩
    exact hn _ _ _ hK ⟨_, sim.call_safe hd (allVal_safe hres) hh hr⟩
  · refine (hf.2 w (Stab w0 S0 s.h φ) _ (h4 hres)).mono ?_
    rintro e w' ⟨u, ψ, rfl, hh, hr⟩
    exact hn _ _ _ hK ⟨_, sim.call_pure hd hh hr⟩
  · refine (hf.2 w (fun _ => True) _ h3).mono ?_
    rintro e w' ⟨u, ψ, rfl, hh, hr⟩
    exact hn _ _ _ hK ⟨_, sim.call_safe hd hres hh hr⟩

theorem callK_quiet {o : Oper} {f : FuncId} {d : Nat} {K : ASt → Prop} {s : ASt} {φ : List (Option (Nat × Nat))} {a : Act} {w : World} {p : Bool} {vs : List V} {us : List Value} (sim : SimAt w0 S0 s φ a w) (ho : o.dst = some d) (h : callK P true f d K s p vs)
    (hrun : (∀ (args : Array Value) (w : World), (callFunc f args).run P w = .ok (.enter f args) w) → ∀ w', (execOp a.eval o).run P w' = .ok (.enter f us.toArray) w') (h3 : RdL w (fun _ => True) vs us) {next : Act → Prop}
    (hn : ∀ s' a', K s' → SimAt w0 S0 s' φ a' w → next a') : o.quiet P a (fun w' => Below w.heap.size w w') next := by
  obtain ⟨hd, r, hf, hres, hK⟩ := h
  have hres : allVal r.list = true := hres.resolve_right (fun h => by cases h.1)
  refine ⟨r.value, fun w' hw' => ?_, ?_⟩
  · unfold Oper.quietAt
    rw [hrun hf.1 w']
    refine ⟨rfl, (hf.2 w' (fun _ => True) _ (RdL.mono (fun b _ hb => ⟨trivial, hw'.block b hb⟩) _ _ h3)).mono ?_⟩
    · rintro e w'' ⟨u, ψ, rfl, hh, hr⟩
      exact ⟨by rw [rdSlot_value hres hr], hw'.trans (hh.below.mono hw'.size)⟩
  · obtain ⟨e1, e2⟩ := bring_value hres s.h (Stab w0 S0 s.h φ) w φ
    refine hn _ _ hK ?_
    have := sim.put hd e2
    rw [ho]
    unfold bringIn
    rw [e1]; exact this

/-- A call of a function value, met. -/
theorem dynK_ok {q : Bool} {args : List Operand} {t d : Nat} {K : ASt → Prop} {s : ASt} {φ : List (Option (Nat × Nat))} {a : Act} {w : World} (sim : SimAt w0 S0 s φ a w) (h : dynK P q args d K s (lookup s.σ t)) :
    ∃ (f : FuncId) (cs : Array Value) (p : Bool) (vs : List V), a.eval (.tmp t) = .func (.func f) #[] cs ∧ callK P q f d K s p vs ∧ RdL w (fun _ => True) vs (args.map a.eval ++ cs.toList) ∧ (p = true → RdL w (Stab w0 S0 s.h φ) vs (args.map a.eval ++ cs.toList)) := by
  unfold dynK at h
  split at h
  · rename_i f x y hl
    obtain ⟨rfl, rfl, h⟩ := h
    have he : a.eval (.tmp t) = _ := sim.opd (x := .tmp t) hl
    obtain ⟨p', vs', hc, h3, h4⟩ := argsK_ok sim args true [] [] h trivial (fun _ => trivial)
    exact ⟨f, #[], p', vs', he, hc, by simpa using h3, by simpa using h4⟩
  · rename_i f n g hl
    obtain ⟨cs, he, hn, hr⟩ : ∃ cs : Array Value, a.eval (.tmp t) = .func (.func f) #[] cs ∧ cs.size = n ∧ ∀ i, i < n → ∃ x, cs[i]? = some x ∧ Rd w (Stab w0 S0 s.h φ) (g i) x := sim.opd (x := .tmp t) hl
    obtain ⟨p', vs', hc, h3, h4⟩ := argsK_ok sim args true [] [] h trivial (fun _ => trivial)
    have hcs : RdL w (Stab w0 S0 s.h φ) (tabV n g) cs.toList := RdL.of_get _ _ (by simp [hn, tabV_len]) fun i v hv => by
      have hi : i < n := by
        have := (List.getElem?_eq_some_iff.1 hv).1; rwa [tabV_len] at this
      obtain ⟨u, hu, hr⟩ := hr i hi
      refine ⟨u, by simpa using hu, ?_⟩
      rw [tabV_get n g i hi] at hv
      injection hv with hv
      rw [← hv]; exact hr
    simp only [List.reverse_nil, List.nil_append] at h3 h4
    exact ⟨f, cs, p', _, he, hc, RdL.both _ _ _ _ h3 (RdL.mono (fun b _ _ => ⟨trivial, rfl⟩) _ _ hcs), fun hp => RdL.both _ _ _ _ (h4 hp) hcs⟩
  · exact h.elim

/-- One operation, met by the model, whatever stands behind. -/
theorem evOp_plain {o : Oper} {K : ASt → Prop} {s : ASt} {φ : List (Option (Nat × Nat))} {a : Act} {w : World} (sim : SimAt w0 S0 s φ a w) (h : evOp P false o K s) {next : Act → World → Prop} {Q : Exit → Act → World → Prop}
    (hn : ∀ s' a' w', K s' → Sim w0 S0 s' a' w' → next a' w') : o.wp P a w next Q := by
  obtain ⟨dst, op, ty, pos, after, guard⟩ := o
  unfold evOp at h
  split at h
  · rename_i f args ts d hop hdst
    simp only at hop hdst
    subst hop hdst
    obtain ⟨p', vs', ⟨hd, r, hf, hres, hK⟩, h3, h4⟩ := argsK_ok sim args.toList true [] [] h trivial (fun _ => trivial)
    have hrun : (execOp a.eval ⟨some d, .call ⟨.value (.func f), args, ts⟩, ty, pos, after, guard⟩).run P w = .ok (.enter f (args.toList.map a.eval).toArray) w := by
      have e : execOp a.eval ⟨some d, .call ⟨.value (.func f), args, ts⟩, ty, pos, after, guard⟩ = callFunc f (#[] ++ args.map a.eval ++ #[]) := rfl
      rw [e, hf.1]
      congr 2
      rw [← Array.toList_inj]
      simp
    unfold Oper.wp
    rw [hrun, Oper.upon_enter]
    simp only [List.reverse_nil, List.nil_append] at h3 h4
    rcases hres with hres | ⟨_, hres | hres⟩
    · refine (hf.2 w (fun _ => True) _ h3).mono ?_
      rintro e w' ⟨u, ψ, rfl, hh, hr⟩
      exact hn _ _ _ hK ⟨_, sim.call_safe hd (allVal_safe hres) hh hr⟩
    · refine (hf.2 w (Stab w0 S0 s.h φ) _ (h4 hres)).mono ?_
      rintro e w' ⟨u, ψ, rfl, hh, hr⟩
      exact hn _ _ _ hK ⟨_, sim.call_pure hd hh hr⟩
    · refine (hf.2 w (fun _ => True) _ h3).mono ?_
      rintro e w' ⟨u, ψ, rfl, hh, hr⟩
      exact hn _ _ _ hK ⟨_, sim.call_safe hd hres hh hr⟩
  · rename_i t args ts d hop hdst
    simp only at hop hdst
    subst hop hdst
    obtain ⟨f, cs, p, vs, he, hc, h3, h4⟩ := dynK_ok sim h
    exact callK_plain sim rfl hc (fun hf => run_dyn he hf) h3 h4 hn
  · rename_i x y ts t t' d hop hdst
    simp only at hop hdst
    subst hop hdst
    obtain ⟨_, rfl, hlt, h⟩ := h
    exact append_ok sim rfl rfl hlt h hn
  · rename_i t x y hop hdst
    simp only at hop hdst
    subst hop hdst
    exact store_ok sim rfl rfl h.2 fun s' w' hK hs => hn s' a w' hK ⟨φ, hs⟩
  · rename_i t l c d hop hdst
    simp only at hop hdst
    subst hop hdst
    exact make_ok sim rfl rfl h.2.1 h.2.2 hn
  · rename_i t x d hop hdst
    simp only at hop hdst
    subst hop hdst
    exact box_ok sim rfl rfl h.2.1 h.2.2 hn
  · rename_i t d hop hdst
    simp only at hop hdst
    subst hop hdst
    exact alloc_ok sim rfl rfl h.2.1 h.2.2 hn
  · rename_i t ps d hop hdst
    simp only at hop hdst
    subst hop hdst
    exact build_ok sim rfl rfl h.2.1 h.2.2 hn
  · rename_i t n ps d hop hdst
    simp only at hop hdst
    subst hop hdst
    exact buildSlice_ok sim rfl rfl h.2.1 h.2.2 hn
  · rename_i d hdst _ _ _ _ _ _ _ _
    simp only at hdst
    subst hdst
    obtain ⟨r, v, hK, hr, hrun⟩ := evQ_ok (o := ⟨some d, op, ty, pos, after, guard⟩) h.2 sim
    unfold Oper.wp
    rw [hrun w (.inr (Below.refl _ _)), Oper.upon_value]
    exact hn _ _ _ hK ⟨φ, sim.put h.1 hr⟩
  · exact h.elim

/-- One operation of the list, guarded or not. -/
theorem evOps_plain {l : List Oper} : ∀ (os : List Oper) {K : ASt → Prop} {s : ASt} {φ : List (Option (Nat × Nat))} {a : Act} {w : World}, SimAt w0 S0 s φ a w → evOps P false l os K s → ∀ {Q : Exit → Act → World → Prop},
    (∀ s' a' w', K s' → Sim w0 S0 s' a' w' → Q .normal a' w') → wpList P l.toArray Q os a w
  | [], K, s, φ, a, w, sim, h, Q, hn => hn _ _ _ h ⟨φ, sim⟩
  | o :: os, K, s, φ, a, w, sim, h, Q, hn => by
    have hrest : ∀ s' a' w', evOps P false l os K s' → Sim w0 S0 s' a' w' → wpList P l.toArray Q os a' w' := fun s' a' w' h' ⟨φ', sim'⟩ => evOps_plain os sim' h' hn
    have hskip : ∀ s', SimAt w0 S0 s' φ a w → skipOp o (evOps P false l os K) s' → wpList P l.toArray Q os (a.put o.dst undef) w := fun s' sim' h' => by
      unfold skipOp at h'
      split at h'
      · rename_i d hd
        rw [hd]
        exact hrest _ _ _ h'.2 ⟨φ, sim'.put h'.1 rfl⟩
      · rename_i hd
        rw [hd]
        exact hrest _ _ _ h' ⟨φ, sim'⟩
    unfold evOps at h
    split at h
    · rename_i hg
      unfold wpList
      rw [if_pos (by simp [Region.wanted, hg])]
      exact .inl (evOp_plain sim h hrest)
    · rename_i j want hg
      split at h
      · rename_i d hd
        split at h
        · rename_i b hb
          have hy := yielded_bool sim hd hb
          have say : ∀ c, b = c → SimAt w0 S0 (putS s d (sc (.bool c))) φ a w := fun c e => sim.say (by rw [hb, e])
          unfold wpList
          by_cases hbw : b = want
          · rw [if_pos (by simp [Region.wanted, hg, hy, hbw])]
            exact .inl (evOp_plain (say _ hbw) (h.1 hbw) hrest)
          · rw [if_neg (by simp [Region.wanted, hg, hy, hbw])]
            have hb' : b = !want := by cases b <;> cases want <;> simp_all
            exact hskip _ (say _ hb') (h.2 hb')
        · rename_i x hb
          have hy := yielded_bool sim hd hb
          unfold wpList
          rw [if_neg (by simp [Region.wanted, hg, hy])]
          exact hskip _ sim h
        · exact h.elim
      · exact h.elim

/-- One operation of a region whose order is open. -/
theorem evOp_quiet {o : Oper} {K : ASt → Prop} {s : ASt} {φ : List (Option (Nat × Nat))} {a : Act} {w : World} (sim : SimAt w0 S0 s φ a w) (h : evOp P true o K s) {next : Act → Prop}
    (hn : ∀ s' a', K s' → SimAt w0 S0 s' φ a' w → next a') : o.quiet P a (fun w' => Below w.heap.size w w') next := by
  obtain ⟨dst, op, ty, pos, after, guard⟩ := o
  unfold evOp at h
  split at h
  · rename_i f args ts d hop hdst
    simp only at hop hdst
    subst hop hdst
    obtain ⟨p', vs', ⟨hd, r, hf, hres, hK⟩, h3, h4⟩ := argsK_ok sim args.toList true [] [] h trivial (fun _ => trivial)
    have hres : allVal r.list = true := hres.resolve_right (fun h => by cases h.1)
    have hrun : ∀ w', (execOp a.eval ⟨some d, .call ⟨.value (.func f), args, ts⟩, ty, pos, after, guard⟩).run P w' = .ok (.enter f (args.toList.map a.eval).toArray) w' := fun w' => by
      have e : execOp a.eval ⟨some d, .call ⟨.value (.func f), args, ts⟩, ty, pos, after, guard⟩ = callFunc f (#[] ++ args.map a.eval ++ #[]) := rfl
      rw [e, hf.1]
      congr 2
      rw [← Array.toList_inj]
      simp
    simp only [List.reverse_nil, List.nil_append] at h3
    refine ⟨r.value, fun w' hw' => ?_, ?_⟩
    · unfold Oper.quietAt
      rw [hrun]
      refine ⟨rfl, (hf.2 w' (fun _ => True) _ (RdL.mono (fun b _ hb => ⟨trivial, hw'.block b hb⟩) _ _ h3)).mono ?_⟩
      · rintro e w'' ⟨u, ψ, rfl, hh, hr⟩
        exact ⟨by rw [rdSlot_value hres hr], hw'.trans (hh.below.mono hw'.size)⟩
    · obtain ⟨e1, e2⟩ := bring_value hres s.h (Stab w0 S0 s.h φ) w φ
      refine hn _ _ hK ?_
      have := sim.put hd e2
      unfold bringIn
      rw [e1]; exact this
  · rename_i t args ts d hop hdst
    simp only at hop hdst
    subst hop hdst
    obtain ⟨f, cs, p, vs, he, hc, h3, _⟩ := dynK_ok sim h
    exact callK_quiet sim rfl hc (fun hf w' => run_dyn he hf) h3 hn
  · exact absurd h.1 (by simp)
  · exact absurd h.1 (by simp)
  · exact absurd h.1 (by simp)
  · exact absurd h.1 (by simp)
  · exact absurd h.1 (by simp)
  · exact absurd h.1 (by simp)
  · exact absurd h.1 (by simp)
  · rename_i d hdst _ _ _ _ _ _ _ _
    simp only at hdst
    subst hdst
    obtain ⟨r, v, hK, hr, hrun⟩ := evQ_ok (o := ⟨some d, op, ty, pos, after, guard⟩) h.2 sim
    refine ⟨v, fun w' hw' => ?_, hn _ _ hK (sim.put h.1 hr)⟩
    unfold Oper.quietAt
    rw [hrun w' (.inr hw')]
    exact ⟨rfl, rfl⟩
  · exact h.elim

theorem evOps_quiet {l : List Oper} : ∀ (os : List Oper) {K : ASt → Prop} {s : ASt} {φ : List (Option (Nat × Nat))} {a : Act} {w : World}, SimAt w0 S0 s φ a w → evOps P true l os K s → ∀ {Q : Act → Prop},
    (∀ s' a', K s' → SimAt w0 S0 s' φ a' w → Q a') → wpQuiet P l.toArray (fun w' => Below w.heap.size w w') Q os a
  | [], K, s, φ, a, w, sim, h, Q, hn => hn _ _ h sim
  | o :: os, K, s, φ, a, w, sim, h, Q, hn => by
    have hrest : ∀ s' a', evOps P true l os K s' → SimAt w0 S0 s' φ a' w → wpQuiet P l.toArray (fun w' => Below w.heap.size w w') Q os a' := fun s' a' h' sim' => evOps_quiet os sim' h' hn
    have hskip : ∀ s', SimAt w0 S0 s' φ a w → skipOp o (evOps P true l os K) s' → wpQuiet P l.toArray (fun w' => Below w.heap.size w w') Q os (a.put o.dst undef) := fun s' sim' h' => by
      unfold skipOp at h'
      split at h'
      · rename_i d hd
        rw [hd]
        exact hrest _ _ h'.2 (sim'.put h'.1 rfl)
      · rename_i hd
        rw [hd]
        exact hrest _ _ h' sim'
    unfold evOps at h
    split at h
    · rename_i hg
      unfold wpQuiet
      rw [if_pos (by simp [Region.wanted, hg])]
      exact evOp_quiet sim h hrest
    · rename_i j want hg
      split at h
      · rename_i d hd
        split at h
        · rename_i b hb
          have hy := yielded_bool sim hd hb
          have say : ∀ c, b = c → SimAt w0 S0 (putS s d (sc (.bool c))) φ a w := fun c e => sim.say (by rw [hb, e])
          unfold wpQuiet
          by_cases hbw : b = want
          · rw [if_pos (by simp [Region.wanted, hg, hy, hbw])]
            exact evOp_quiet (say _ hbw) (h.1 hbw) hrest
          · rw [if_neg (by simp [Region.wanted, hg, hy, hbw])]
            have hb' : b = !want := by cases b <;> cases want <;> simp_all
            exact hskip _ (say _ hb') (h.2 hb')
        · rename_i x hb
          have hy := yielded_bool sim hd hb
          unfold wpQuiet
          rw [if_neg (by simp [Region.wanted, hg, hy])]
          exact hskip _ sim h
        · exact h.elim
      · exact h.elim

/-- Code, by the abstract state: what it may end in, with which state. -/
def AWP (N : Nat) (P : Program) (c : Code) (Q : Exit → ASt → Prop) (s : ASt) : Prop :=
  ∀ (w0 : World) (S0 : Nat → Prop) (a : Act) (w : World), w0.heap.size = N → Sim w0 S0 s a w → c.wp P (fun e a' w' => ∃ s', Q e s' ∧ Sim w0 S0 s' a' w') a w

theorem AWP.region {N : Nat} {id : Nat} {ops : List Oper} {Q : Exit → ASt → Prop} {s : ASt} (h : evOps P false ops ops (Q .normal) s) : AWP N P (.region id ops.toArray false) Q s := by
  rintro w0 S0 a w hN ⟨φ, sim⟩
  exact wp_region_lit (evOps_plain ops sim h fun s' a' w' hK sim' => ⟨s', hK, sim'⟩)

theorem AWP.drawn {N : Nat} {id : Nat} {ops : List Oper} {Q : Exit → ASt → Prop} {s : ASt} (hm : P.follows .mixedOrders = true) (hB : Region.lexB .any ops.toArray = true) (h : evOps P true ops ops (Q .normal) s) : AWP N P (.region id ops.toArray true) Q s := by
  rintro w0 S0 a w hN ⟨φ, sim⟩
  refine wp_region_quiet (C := fun w' => Below w.heap.size w w') hm hB ⟨rfl, rfl, rfl, Nat.le_refl _, fun _ _ => rfl⟩ ?_
  exact evOps_quiet ops sim h fun s' a' hK sim' w' hw' => ⟨s', hK, φ, sim'.after hw'⟩

theorem AWP.skip {N : Nat} {Q : Exit → ASt → Prop} {s : ASt} (h : Q .normal s) : AWP N P .skip Q s := fun _ _ _ _ _ sim => wp_skip ⟨s, h, sim⟩
theorem AWP.exit {N : Nat} {id : Nat} {Q : Exit → ASt → Prop} {s : ASt} (h : Q (.exit id) s) : AWP N P (.exit id) Q s := fun _ _ _ _ _ sim => wp_exit ⟨s, h, sim⟩
theorem AWP.ret {N : Nat} {Q : Exit → ASt → Prop} {s : ASt} (h : Q .ret s) : AWP N P .ret Q s := fun _ _ _ _ _ sim => wp_ret ⟨s, h, sim⟩

/-- Behind the first of two. -/
def thenQ (next : ASt → Prop) (Q : Exit → ASt → Prop) : Exit → ASt → Prop
  | .normal, s => next s
  | e, s => Q e s

theorem AWP.seq {N : Nat} {x y : Code} {Q : Exit → ASt → Prop} {s : ASt} (h : AWP N P x (thenQ (AWP N P y Q) Q) s) : AWP N P (.seq x y) Q s := by
  intro w0 S0 a w hN sim
  refine wp_seq (wp_mono (h w0 S0 a w hN sim) fun e a' w' ⟨s', hq, sim'⟩ => ?_)
  cases e <;> first | exact hq w0 S0 a' w' hN sim' | exact ⟨s', hq, sim'⟩

theorem AWP.cond {N : Nat} {c : Operand} {x y : Code} {Q : Exit → ASt → Prop} {s : ASt} {b : Bool} (hc : opd s c = some (sc (.bool b))) (h1 : b = true → AWP N P x Q s) (h2 : b = false → AWP N P y Q s) : AWP N P (.cond c x y) Q s := by
  rintro w0 S0 a w hN ⟨φ, sim⟩
  have e : a.eval c = .bool b := val_of sim hc
  refine wp_cond e ?_
  cases b with
  | true => exact h1 rfl w0 S0 a w hN ⟨φ, sim⟩
  | false => exact h2 rfl w0 S0 a w hN ⟨φ, sim⟩

/-- Behind a block: an exit from it goes on behind it. -/
def blockQ (id : Nat) (Q : Exit → ASt → Prop) : Exit → ASt → Prop
  | .exit id', s => if id' = id then Q .normal s else Q (.exit id') s
  | e, s => Q e s

theorem AWP.block {N : Nat} {id : Nat} {c : Code} {Q : Exit → ASt → Prop} {s : ASt} (h : AWP N P c (blockQ id Q) s) : AWP N P (.block id c) Q s := by
  intro w0 S0 a w hN sim
  refine wp_block (wp_mono (h w0 S0 a w hN sim) fun e a' w' ⟨s', hq, sim'⟩ => ?_)
  cases e with
  | exit id' =>
    simp only [blockQ] at hq
    simp only [Exit.inBlock]
    split at hq
    · rename_i e; rw [if_pos e]; exact ⟨s', hq, sim'⟩
    · rename_i e; rw [if_neg e]; exact ⟨s', hq, sim'⟩
  | _ => exact ⟨s', hq, sim'⟩

/-- A loop: inv x is the state at a round's head; every round ends in such a state, with a smaller measure, or leaves the loop. -/
theorem AWP.loop {N : Nat} {c : Code} {Q : Exit → ASt → Prop} {ι : Type} (inv : ι → ASt) (μ : ι → Nat) (G : ι → Prop) (x : ι) (hG : G x)
    (h : ∀ x, G x → AWP N P c (thenQ (fun s' => ∃ y, G y ∧ μ y < μ x ∧ ∀ w0 S0 a w, Sim w0 S0 s' a w → Sim w0 S0 (inv y) a w) Q) (inv x)) : AWP N P (.loop c) Q (inv x) := by
  intro w0 S0 a w hN sim
  refine wp_loop_ghost (fun n a w => ∃ x, G x ∧ μ x = n ∧ Sim w0 S0 (inv x) a w) (μ x) ⟨x, hG, rfl, sim⟩ ?_
  rintro n a w ⟨x, hG, rfl, sim⟩
  refine wp_mono (h x hG w0 S0 a w hN sim) fun e a' w' ⟨s', hq, sim'⟩ => ?_
  cases e with
  | normal =>
    obtain ⟨y, hy, hlt, hs⟩ := hq
    exact ⟨_, hlt, y, hy, rfl, hs _ _ _ _ sim'⟩
  | _ => exact ⟨s', hq, sim'⟩

end
end Go.Proofs.Ytpolbgenoicckaa
