/- Parts of the proof of LawFnWayBounds: contracts of functions, laws of an abstract state, plain facts. No conditions. -/
import Derived.Test.YtlomkebhopaliaaB01
import Derived.Deep.LoopGhost
import Derived.Lib.Join
import Derived.Lib.Bytealg
import Derived.Test.YtlomkebhopaliaaRows
import Derived.ProofKit
import Derived.OpenShut
import Derived.ShutString
import Derived.ChangeOld
import Derived.SliceStrings
import Derived.Deep.Matrix
import Derived.Deep.Slices
import Derived.Lib.SmallJoins
import Derived.StillTail
import Derived.Lib.Walk
import Derived.Lib.SlicesMore
namespace Go.Proofs.Ytlomkebhopaliaa
set_option linter.unusedSimpArgs false
set_option linter.unusedVariables false
open Go.RowKit
def kput (K : ASt → Prop) (s : ASt) (d : Nat) (r : Slot) : Prop := K (putS s d r)
def skipOp (o : Oper) (K : ASt → Prop) (s : ASt) : Prop :=
  match o.dst with
  | some d => d < s.nt ∧ K (putS s d (sc undef))
  | none => K s
def tabV : Nat → (Nat → V) → List V
  | 0, _ => []
  | n + 1, g => g 0 :: tabV n fun i => g (i + 1)
theorem tabV_len : ∀ (n : Nat) (g : Nat → V), (tabV n g).length = n
  | 0, _ => rfl
  | n + 1, g => by simp [tabV, tabV_len n]
theorem tabV_get : ∀ (n : Nat) (g : Nat → V) (i : Nat), i < n → (tabV n g)[i]? = some (g i)
  | 0, _, _, h => by omega
  | n + 1, g, 0, _ => by simp [tabV]
  | n + 1, g, i + 1, h => by simpa [tabV] using tabV_get n (fun i => g (i + 1)) i (by omega)
def dynK (P : Program) (q : Bool) (args : List Operand) (d : Nat) (K : ASt → Prop) (s : ASt) : Option Slot → Prop
  | some (.one (.pv (.val (.func (.func f) a b)))) => a = #[] ∧ b = #[] ∧ argsK s args true [] (callK P q f d K s)
  | some (.one (.pv (.clo f n g))) => argsK s args true [] fun p vs => callK P q f d K s p (vs ++ tabV n g)
  | _ => False
def evOp (P : Program) (q : Bool) (o : Oper) (K : ASt → Prop) (s : ASt) : Prop :=
  match o.op, o.dst with
  | .call ⟨.value (.func f), args, _⟩, some d => argsK s args.toList true [] (callK P q f d K s)
  | .call ⟨.value (.tmp t), args, _⟩, some d => dynK P q args.toList d K s (lookup s.σ t)
  | .call ⟨.builtin .append, ⟨[x, y]⟩, ⟨[t, t']⟩⟩, some d => q = false ∧ t = t' ∧ d < s.nt ∧ appendK P s t x y d K
  | .store t x y, none => q = false ∧ storeK P s t x y K
  | .makeSlice t l c, some d => q = false ∧ d < s.nt ∧ makeK P s t l c d K
  | .box t x, some d => q = false ∧ d < s.nt ∧ frz s x (boxV t d K)
  | .alloc t, some d => q = false ∧ d < s.nt ∧ allocK P s t d K
  | .build t ps, some d => q = false ∧ d < s.nt ∧ buildK P s t ps.toList d K
  | .buildSlice t n ps, some d => q = false ∧ d < s.nt ∧ buildSliceK P s t n ps.toList d K
  | op, some d => d < s.nt ∧ evQ P s op (kput K s d)
  | _, none => False
def evOps (P : Program) (q : Bool) (l : List Oper) : List Oper → (ASt → Prop) → ASt → Prop
  | [], K, s => K s
  | o :: os, K, s =>
    match o.guard with
    | none => evOp P q o (evOps P q l os K) s
    | some (j, want) =>
      match (l[j]?).bind (·.dst) with
      | some d =>
        match lookup s.σ d with
        | some (.one (.pv (.val (.bool b)))) =>
          (b = want → evOp P q o (evOps P q l os K) (putS s d (sc (.bool want)))) ∧
          (b = !want → skipOp o (evOps P q l os K) (putS s d (sc (.bool (!want)))))
        | some (.one (.pv (.val (.tuple _)))) => skipOp o (evOps P q l os K) s
        | _ => False
      | none => False
section
variable {P : Program} {w0 : World} {S0 : Nat → Prop}
theorem SimAt.say {s : ASt} {φ : List (Option (Nat × Nat))} {a : Act} {w : World} (sim : SimAt w0 S0 s φ a w) {d : Nat} {r : Slot} (h : lookup s.σ d = some r) : SimAt w0 S0 (putS s d r) φ a w := by
  refine ⟨sim.heap, fun t v ht => ?_, sim.defers, sim.size⟩
  simp only [putS, lookup_upd] at ht
  split at ht
  · rename_i e; subst e; injection ht with ht; subst ht; exact sim.slots _ _ h
  · exact sim.slots t v ht
theorem yielded_bool {l : List Oper} {j d : Nat} {s : ASt} {φ : List (Option (Nat × Nat))} {a : Act} {w : World} (sim : SimAt w0 S0 s φ a w) (hd : (l[j]?).bind (·.dst) = some d) {v : Value} (h : lookup s.σ d = some (sc v)) :
    yielded l.toArray a.tmps j = match v with | .bool b => some b | _ => none := by
  obtain ⟨u, hu, hr⟩ := sim.slots d _ h
  have hr' : u = v := hr
  subst hr'
  unfold yielded
  rw [show ((l.toArray[j]?).bind (·.dst)) = some d by simpa using hd]
  simp only [Option.bind_some, hu]
  cases u <;> rfl
theorem RdL.both {w : World} {S : Nat → Prop} : ∀ (vs vs' : List V) (us us' : List Value), RdL w S vs us → RdL w S vs' us' → RdL w S (vs ++ vs') (us ++ us')
  | [], _, [], _, _, h => h
  | [], _, _ :: _, _, h, _ => h.elim
  | _ :: _, _, [], _, h, _ => h.elim
  | _ :: vs, vs', _ :: us, us', h, h' => ⟨h.1, RdL.both vs vs' us us' h.2 h'⟩
theorem RdL.of_get {w : World} {S : Nat → Prop} (gl : Gl w) : ∀ (vs : List V) (us : List Value), us.length = vs.length → (∀ (i : Nat) (v : V), vs[i]? = some v → ∃ u, us[i]? = some u ∧ Rd w S v u) → RdL w S vs us
  | [], [], _, _ => gl
  | [], _ :: _, h, _ => by simp at h
  | _ :: _, [], h, _ => by simp at h
  | v :: vs, u :: us, h, hg => by
    refine ⟨?_, RdL.of_get gl vs us (by simpa using h) fun i v' hv => by simpa using hg (i + 1) v' (by simpa using hv)⟩
    obtain ⟨u', h1, h2⟩ := hg 0 v (by simp)
    simp at h1; subst h1; exact h2
theorem run_dyn {a : Act} {w : World} {f : FuncId} {cs : Array Value} {t d ty : Nat} {pos : String} {after : Array Edge} {guard : Option (Nat × Bool)} {args : Array Operand} {ts : Array TypeId} (he : a.eval (.tmp t) = .func (.func f) #[] cs)
    (hf : ∀ (args : Array Value) (w : World), (callFunc f args).run P w = .ok (.enter f args) w) :
    (execOp a.eval ⟨some d, .call ⟨.value (.tmp t), args, ts⟩, ty, pos, after, guard⟩).run P w = .ok (.enter f (args.toList.map a.eval ++ cs.toList).toArray) w := by
  have e : execOp a.eval ⟨some d, .call ⟨.value (.tmp t), args, ts⟩, ty, pos, after, guard⟩ = (do let d ← Deferred.ofValue (a.eval (.tmp t)) (args.map a.eval); invoke d.target d.args) := by
    rfl
  rw [e, he]
  simp only [Deferred.ofValue, Sem.run_bind, Sem.run_pure, Result.andThen_ok, invoke, hf]
  congr 2
  rw [← Array.toList_inj]
  simp
theorem callK_plain {o : Oper} {f : FuncId} {d : Nat} {K : ASt → Prop} {s : ASt} {φ : List (Option (Nat × Nat))} {a : Act} {w : World} {p : Bool} {vs : List V} {us : List Value} (sim : SimAt w0 S0 s φ a w) (ho : o.dst = some d) (h : callK P false f d K s p vs)
    (hrun : (∀ (args : Array Value) (w : World), (callFunc f args).run P w = .ok (.enter f args) w) → (execOp a.eval o).run P w = .ok (.enter f us.toArray) w) (h3 : RdL w (fun _ => True) vs us) (h4 : p = true → RdL w (Stab w0 S0 s.h φ) vs us) {next : Act → World → Prop} {Q : Exit → Act → World → Prop}
    (hn : ∀ s' a' w', K s' → Sim w0 S0 s' a' w' → next a' w') : o.wp P a w next Q := by
  obtain ⟨hd, r, hf, hres, hK⟩ := h
  unfold Oper.wp
  rw [hrun hf.1, Oper.upon_enter, ho]
  rcases hres with hres | ⟨_, hres | hres⟩
  · refine (hf.2 w (fun _ => True) _ h3).mono ?_
    rintro e w' ⟨u, ψ, rfl, hh, hr⟩
    exact hn _ _ _ hK ⟨_, sim.call_safe hd (allVal_safe hres) hh hr⟩
  · refine (hf.2 w (Stab w0 S0 s.h φ) _ (h4 hres)).mono ?_
    rintro e w' ⟨u, ψ, rfl, hh, hr⟩
    exact hn _ _ _ hK ⟨_, sim.call_pure hd hh hr⟩
  · refine (hf.2 w (fun _ => True) _ h3).mono ?_
    rintro e w' ⟨u, ψ, rfl, hh, hr⟩
    exact hn _ _ _ hK ⟨_, sim.call_safe hd hres hh hr⟩
theorem callK_quiet {o : Oper} {f : FuncId} {d : Nat} {K : ASt → Prop} {s : ASt} {φ : List (Option (Nat × Nat))} {a : Act} {w : World} {p : Bool} {vs : List V} {us : List Value} (sim : SimAt w0 S0 s φ a w) (ho : o.dst = some d) (h : callK P true f d K s p vs)
    (hrun : (∀ (args : Array Value) (w : World), (callFunc f args).run P w = .ok (.enter f args) w) → ∀ w', (execOp a.eval o).run P w' = .ok (.enter f us.toArray) w') (h3 : RdL w (fun _ => True) vs us) {next : Act → Prop}
    (hn : ∀ s' a', K s' → SimAt w0 S0 s' φ a' w → next a') : o.quiet P a (fun w' => Below w.heap.size w w') next := by
  obtain ⟨hd, r, hf, hres, hK⟩ := h
  have hres : allVal r.list = true := hres.resolve_right (fun h => by cases h.1)
  refine ⟨r.value, fun w' hw' => ?_, ?_⟩
  · unfold Oper.quietAt
    rw [hrun hf.1 w']
    refine ⟨rfl, (hf.2 w' (fun _ => True) _ (RdL.monoB (fun h => h.keep hw') (fun b _ hb => ⟨trivial, hw'.block b hb⟩) _ _ h3)).mono ?_⟩
    · rintro e w'' ⟨u, ψ, rfl, hh, hr⟩
      exact ⟨by rw [rdSlot_value hres hr], hw'.trans (hh.below.mono hw'.size)⟩
  · obtain ⟨e1, e2⟩ := bring_value hres s.h (Stab w0 S0 s.h φ) w φ
    refine hn _ _ hK ?_
    have := sim.put hd e2
    rw [ho]
    unfold bringIn
    rw [e1]; exact this
theorem dynK_ok {q : Bool} {args : List Operand} {t d : Nat} {K : ASt → Prop} {s : ASt} {φ : List (Option (Nat × Nat))} {a : Act} {w : World} (sim : SimAt w0 S0 s φ a w) (h : dynK P q args d K s (lookup s.σ t)) :
    ∃ (f : FuncId) (cs : Array Value) (p : Bool) (vs : List V), a.eval (.tmp t) = .func (.func f) #[] cs ∧ callK P q f d K s p vs ∧ RdL w (fun _ => True) vs (args.map a.eval ++ cs.toList) ∧ (p = true → RdL w (Stab w0 S0 s.h φ) vs (args.map a.eval ++ cs.toList)) := by
  unfold dynK at h
  split at h
  · rename_i f x y hl
    obtain ⟨rfl, rfl, h⟩ := h
    have he : a.eval (.tmp t) = _ := sim.opd (x := .tmp t) hl
    obtain ⟨p', vs', hc, h3, h4⟩ := argsK_ok sim args true [] [] h sim.gl (fun _ => sim.gl)
    exact ⟨f, #[], p', vs', he, hc, by simpa using h3, by simpa using h4⟩
  · rename_i f n g hl
    obtain ⟨cs, he, hn, hr⟩ : ∃ cs : Array Value, a.eval (.tmp t) = .func (.func f) #[] cs ∧ cs.size = n ∧ ∀ i, i < n → ∃ x, cs[i]? = some x ∧ Rd w (Stab w0 S0 s.h φ) (g i) x := sim.opd (x := .tmp t) hl
    obtain ⟨p', vs', hc, h3, h4⟩ := argsK_ok sim args true [] [] h sim.gl (fun _ => sim.gl)
    have hcs : RdL w (Stab w0 S0 s.h φ) (tabV n g) cs.toList := RdL.of_get sim.gl _ _ (by simp [hn, tabV_len]) fun i v hv => by
      have hi : i < n := by
        have := (List.getElem?_eq_some_iff.1 hv).1; rwa [tabV_len] at this
      obtain ⟨u, hu, hr⟩ := hr i hi
      refine ⟨u, by simpa using hu, ?_⟩
      rw [tabV_get n g i hi] at hv
      injection hv with hv
      rw [← hv]; exact hr
    simp only [List.reverse_nil, List.nil_append] at h3 h4
    exact ⟨f, cs, p', _, he, hc, RdL.both _ _ _ _ h3 (RdL.mono (fun b _ _ => ⟨trivial, rfl⟩) _ _ hcs), fun hp => RdL.both _ _ _ _ (h4 hp) hcs⟩
  · exact h.elim
theorem evOp_plain {o : Oper} {K : ASt → Prop} {s : ASt} {φ : List (Option (Nat × Nat))} {a : Act} {w : World} (sim : SimAt w0 S0 s φ a w) (h : evOp P false o K s) {next : Act → World → Prop} {Q : Exit → Act → World → Prop}
    (hn : ∀ s' a' w', K s' → Sim w0 S0 s' a' w' → next a' w') : o.wp P a w next Q := by
  obtain ⟨dst, op, ty, pos, after, guard⟩ := o
  unfold evOp at h
  split at h
  · rename_i f args ts d hop hdst
    simp only at hop hdst
    subst hop hdst
    obtain ⟨p', vs', ⟨hd, r, hf, hres, hK⟩, h3, h4⟩ := argsK_ok sim args.toList true [] [] h sim.gl (fun _ => sim.gl)
    have hrun : (execOp a.eval ⟨some d, .call ⟨.value (.func f), args, ts⟩, ty, pos, after, guard⟩).run P w = .ok (.enter f (args.toList.map a.eval).toArray) w := by
      have e : execOp a.eval ⟨some d, .call ⟨.value (.func f), args, ts⟩, ty, pos, after, guard⟩ = callFunc f (#[] ++ args.map a.eval ++ #[]) := rfl
      rw [e, hf.1]
      congr 2
      rw [← Array.toList_inj]
      simp
    unfold Oper.wp
    rw [hrun, Oper.upon_enter]
    simp only [List.reverse_nil, List.nil_append] at h3 h4
    rcases hres with hres | ⟨_, hres | hres⟩
    · refine (hf.2 w (fun _ => True) _ h3).mono ?_
      rintro e w' ⟨u, ψ, rfl, hh, hr⟩
      exact hn _ _ _ hK ⟨_, sim.call_safe hd (allVal_safe hres) hh hr⟩
    · refine (hf.2 w (Stab w0 S0 s.h φ) _ (h4 hres)).mono ?_
      rintro e w' ⟨u, ψ, rfl, hh, hr⟩
      exact hn _ _ _ hK ⟨_, sim.call_pure hd hh hr⟩
    · refine (hf.2 w (fun _ => True) _ h3).mono ?_
      rintro e w' ⟨u, ψ, rfl, hh, hr⟩
      exact hn _ _ _ hK ⟨_, sim.call_safe hd hres hh hr⟩
  · rename_i t args ts d hop hdst
    simp only at hop hdst
    subst hop hdst
    obtain ⟨f, cs, p, vs, he, hc, h3, h4⟩ := dynK_ok sim h
    exact callK_plain sim rfl hc (fun hf => run_dyn he hf) h3 h4 hn
  · rename_i x y ts t t' d hop hdst
    simp only at hop hdst
    subst hop hdst
    obtain ⟨_, rfl, hlt, h⟩ := h
    exact append_ok sim rfl rfl hlt h hn
  · rename_i t x y hop hdst
    simp only at hop hdst
    subst hop hdst
    exact store_ok sim rfl rfl h.2 fun s' w' hK hs => hn s' a w' hK ⟨φ, hs⟩
  · rename_i t l c d hop hdst
    simp only at hop hdst
    subst hop hdst
    exact make_ok sim rfl rfl h.2.1 h.2.2 fun s' a' w' h1 h2 _ => hn s' a' w' h1 h2
  · rename_i t x d hop hdst
    simp only at hop hdst
    subst hop hdst
    exact box_ok sim rfl rfl h.2.1 h.2.2 fun s' a' w' h1 h2 _ => hn s' a' w' h1 h2
  · rename_i t d hop hdst
    simp only at hop hdst
    subst hop hdst
    exact alloc_ok sim rfl rfl h.2.1 h.2.2 fun s' a' w' h1 h2 _ => hn s' a' w' h1 h2
  · rename_i t ps d hop hdst
    simp only at hop hdst
    subst hop hdst
    exact build_ok sim rfl rfl h.2.1 h.2.2 fun s' a' w' h1 h2 _ => hn s' a' w' h1 h2
  · rename_i t n ps d hop hdst
    simp only at hop hdst
    subst hop hdst
    exact buildSlice_ok sim rfl rfl h.2.1 h.2.2 fun s' a' w' h1 h2 _ => hn s' a' w' h1 h2
  · rename_i d hdst _ _ _ _ _ _ _ _
    simp only at hdst
    subst hdst
    obtain ⟨r, v, hK, hr, hrun⟩ := evQ_ok (o := ⟨some d, op, ty, pos, after, guard⟩) h.2 sim
    unfold Oper.wp
    rw [hrun w (.inr (Below.refl _ _)), Oper.upon_value]
    exact hn _ _ _ hK ⟨φ, sim.put h.1 hr⟩
  · exact h.elim
def wr (o : Oper) : Bool :=
  match o.op with
  | .store _ _ _ => true
  | .call ⟨.builtin .append, _, _⟩ => true
  | .call ⟨.value (.tmp _), _, _⟩ => true
  | _ => false
theorem evOp_below {o : Oper} {K : ASt → Prop} {s : ASt} {φ : List (Option (Nat × Nat))} {a : Act} {w : World} (sim : SimAt w0 S0 s φ a w) (hw : wr o = false) (h : evOp P false o K s) {next : Act → World → Prop} {Q : Exit → Act → World → Prop}
    (hn : ∀ s' a' w', K s' → Sim w0 S0 s' a' w' → Below w.heap.size w w' → next a' w') : o.wp P a w next Q := by
  obtain ⟨dst, op, ty, pos, after, guard⟩ := o
  unfold evOp at h
  split at h
  · rename_i f args ts d hop hdst
    simp only at hop hdst
    subst hop hdst
    obtain ⟨p', vs', ⟨hd, r, hf, hres, hK⟩, h3, h4⟩ := argsK_ok sim args.toList true [] [] h sim.gl (fun _ => sim.gl)
    have hrun : (execOp a.eval ⟨some d, .call ⟨.value (.func f), args, ts⟩, ty, pos, after, guard⟩).run P w = .ok (.enter f (args.toList.map a.eval).toArray) w := by
      have e : execOp a.eval ⟨some d, .call ⟨.value (.func f), args, ts⟩, ty, pos, after, guard⟩ = callFunc f (#[] ++ args.map a.eval ++ #[]) := rfl
      rw [e, hf.1]
      congr 2
      rw [← Array.toList_inj]
      simp
    unfold Oper.wp
    rw [hrun, Oper.upon_enter]
    simp only [List.reverse_nil, List.nil_append] at h3 h4
    rcases hres with hres | ⟨_, hres | hres⟩
    · refine (hf.2 w (fun _ => True) _ h3).mono ?_
      rintro e w' ⟨u, ψ, rfl, hh, hr⟩
      exact hn _ _ _ hK ⟨_, sim.call_safe hd (allVal_safe hres) hh hr⟩ hh.below
    · refine (hf.2 w (Stab w0 S0 s.h φ) _ (h4 hres)).mono ?_
      rintro e w' ⟨u, ψ, rfl, hh, hr⟩
      exact hn _ _ _ hK ⟨_, sim.call_pure hd hh hr⟩ hh.below
    · refine (hf.2 w (fun _ => True) _ h3).mono ?_
      rintro e w' ⟨u, ψ, rfl, hh, hr⟩
      exact hn _ _ _ hK ⟨_, sim.call_safe hd hres hh hr⟩ hh.below
  · rename_i t args ts d hop hdst
    simp only at hop hdst
    subst hop hdst
    cases hw
  · rename_i x y ts t t' d hop hdst
    simp only at hop hdst
    subst hop hdst
    cases hw
  · rename_i t x y hop hdst
    simp only at hop hdst
    subst hop hdst
    cases hw
  · rename_i t l c d hop hdst
    simp only at hop hdst
    subst hop hdst
    exact make_ok sim rfl rfl h.2.1 h.2.2 hn
  · rename_i t x d hop hdst
    simp only at hop hdst
    subst hop hdst
    exact box_ok sim rfl rfl h.2.1 h.2.2 hn
  · rename_i t d hop hdst
    simp only at hop hdst
    subst hop hdst
    exact alloc_ok sim rfl rfl h.2.1 h.2.2 hn
  · rename_i t ps d hop hdst
    simp only at hop hdst
    subst hop hdst
    exact build_ok sim rfl rfl h.2.1 h.2.2 hn
  · rename_i t n ps d hop hdst
    simp only at hop hdst
    subst hop hdst
    exact buildSlice_ok sim rfl rfl h.2.1 h.2.2 hn
  · rename_i d hdst _ _ _ _ _ _ _ _
    simp only at hdst
    subst hdst
    obtain ⟨r, v, hK, hr, hrun⟩ := evQ_ok (o := ⟨some d, op, ty, pos, after, guard⟩) h.2 sim
    unfold Oper.wp
    rw [hrun w (.inr (Below.refl _ _)), Oper.upon_value]
    exact hn _ _ _ hK ⟨φ, sim.put h.1 hr⟩ (Below.refl _ _)
  · exact h.elim
theorem evOps_plain {l : List Oper} : ∀ (os : List Oper) {K : ASt → Prop} {s : ASt} {φ : List (Option (Nat × Nat))} {a : Act} {w : World}, SimAt w0 S0 s φ a w → evOps P false l os K s → ∀ {Q : Exit → Act → World → Prop},
    (∀ s' a' w', K s' → Sim w0 S0 s' a' w' → Q .normal a' w') → wpList P l.toArray Q os a w
  | [], K, s, φ, a, w, sim, h, Q, hn => hn _ _ _ h ⟨φ, sim⟩
  | o :: os, K, s, φ, a, w, sim, h, Q, hn => by
    have hrest : ∀ s' a' w', evOps P false l os K s' → Sim w0 S0 s' a' w' → wpList P l.toArray Q os a' w' := fun s' a' w' h' ⟨φ', sim'⟩ => evOps_plain os sim' h' hn
    have hskip : ∀ s', SimAt w0 S0 s' φ a w → skipOp o (evOps P false l os K) s' → wpList P l.toArray Q os (a.put o.dst undef) w := fun s' sim' h' => by
      unfold skipOp at h'
      split at h'
      · rename_i d hd
        rw [hd]
        exact hrest _ _ _ h'.2 ⟨φ, sim'.put h'.1 rfl⟩
      · rename_i hd
        rw [hd]
        exact hrest _ _ _ h' ⟨φ, sim'⟩
    unfold evOps at h
    split at h
    · rename_i hg
      unfold wpList
      rw [if_pos (by simp [Region.wanted, hg])]
      exact .inl (evOp_plain sim h hrest)
    · rename_i j want hg
      split at h
      · rename_i d hd
        split at h
        · rename_i b hb
          have hy := yielded_bool sim hd hb
          have say : ∀ c, b = c → SimAt w0 S0 (putS s d (sc (.bool c))) φ a w := fun c e => sim.say (by rw [hb, e])
          unfold wpList
          by_cases hbw : b = want
          · rw [if_pos (by simp [Region.wanted, hg, hy, hbw])]
            exact .inl (evOp_plain (say _ hbw) (h.1 hbw) hrest)
          · rw [if_neg (by simp [Region.wanted, hg, hy, hbw])]
            have hb' : b = !want := by cases b <;> cases want <;> simp_all
            exact hskip _ (say _ hb') (h.2 hb')
        · rename_i x hb
          have hy := yielded_bool sim hd hb
          unfold wpList
          rw [if_neg (by simp [Region.wanted, hg, hy])]
          exact hskip _ sim h
        · exact h.elim
      · exact h.elim
theorem evOp_quiet {o : Oper} {K : ASt → Prop} {s : ASt} {φ : List (Option (Nat × Nat))} {a : Act} {w : World} (sim : SimAt w0 S0 s φ a w) (h : evOp P true o K s) {next : Act → Prop}
    (hn : ∀ s' a', K s' → SimAt w0 S0 s' φ a' w → next a') : o.quiet P a (fun w' => Below w.heap.size w w') next := by
  obtain ⟨dst, op, ty, pos, after, guard⟩ := o
  unfold evOp at h
  split at h
  · rename_i f args ts d hop hdst
    simp only at hop hdst
    subst hop hdst
    obtain ⟨p', vs', ⟨hd, r, hf, hres, hK⟩, h3, h4⟩ := argsK_ok sim args.toList true [] [] h sim.gl (fun _ => sim.gl)
    have hres : allVal r.list = true := hres.resolve_right (fun h => by cases h.1)
    have hrun : ∀ w', (execOp a.eval ⟨some d, .call ⟨.value (.func f), args, ts⟩, ty, pos, after, guard⟩).run P w' = .ok (.enter f (args.toList.map a.eval).toArray) w' := fun w' => by
      have e : execOp a.eval ⟨some d, .call ⟨.value (.func f), args, ts⟩, ty, pos, after, guard⟩ = callFunc f (#[] ++ args.map a.eval ++ #[]) := rfl
      rw [e, hf.1]
      congr 2
      rw [← Array.toList_inj]
      simp
    simp only [List.reverse_nil, List.nil_append] at h3
    refine ⟨r.value, fun w' hw' => ?_, ?_⟩
    · unfold Oper.quietAt
      rw [hrun]
      refine ⟨rfl, (hf.2 w' (fun _ => True) _ (RdL.monoB (fun h => h.keep hw') (fun b _ hb => ⟨trivial, hw'.block b hb⟩) _ _ h3)).mono ?_⟩
      · rintro e w'' ⟨u, ψ, rfl, hh, hr⟩
        exact ⟨by rw [rdSlot_value hres hr], hw'.trans (hh.below.mono hw'.size)⟩
    · obtain ⟨e1, e2⟩ := bring_value hres s.h (Stab w0 S0 s.h φ) w φ
      refine hn _ _ hK ?_
      have := sim.put hd e2
      unfold bringIn
      rw [e1]; exact this
  · rename_i t args ts d hop hdst
    simp only at hop hdst
    subst hop hdst
    obtain ⟨f, cs, p, vs, he, hc, h3, _⟩ := dynK_ok sim h
    exact callK_quiet sim rfl hc (fun hf w' => run_dyn he hf) h3 hn
  · exact absurd h.1 (by simp)
  · exact absurd h.1 (by simp)
  · exact absurd h.1 (by simp)
  · exact absurd h.1 (by simp)
  · exact absurd h.1 (by simp)
  · exact absurd h.1 (by simp)
  · exact absurd h.1 (by simp)
  · rename_i d hdst _ _ _ _ _ _ _ _
    simp only at hdst
    subst hdst
    obtain ⟨r, v, hK, hr, hrun⟩ := evQ_ok (o := ⟨some d, op, ty, pos, after, guard⟩) h.2 sim
    refine ⟨v, fun w' hw' => ?_, hn _ _ hK (sim.put h.1 hr)⟩
    unfold Oper.quietAt
    rw [hrun w' (.inr hw')]
    exact ⟨rfl, rfl⟩
  · exact h.elim
theorem evOps_quiet {l : List Oper} : ∀ (os : List Oper) {K : ASt → Prop} {s : ASt} {φ : List (Option (Nat × Nat))} {a : Act} {w : World}, SimAt w0 S0 s φ a w → evOps P true l os K s → ∀ {Q : Act → Prop},
    (∀ s' a', K s' → SimAt w0 S0 s' φ a' w → Q a') → wpQuiet P l.toArray (fun w' => Below w.heap.size w w') Q os a
  | [], K, s, φ, a, w, sim, h, Q, hn => hn _ _ h sim
  | o :: os, K, s, φ, a, w, sim, h, Q, hn => by
    have hrest : ∀ s' a', evOps P true l os K s' → SimAt w0 S0 s' φ a' w → wpQuiet P l.toArray (fun w' => Below w.heap.size w w') Q os a' := fun s' a' h' sim' => evOps_quiet os sim' h' hn
    have hskip : ∀ s', SimAt w0 S0 s' φ a w → skipOp o (evOps P true l os K) s' → wpQuiet P l.toArray (fun w' => Below w.heap.size w w') Q os (a.put o.dst undef) := fun s' sim' h' => by
      unfold skipOp at h'
      split at h'
      · rename_i d hd
        rw [hd]
        exact hrest _ _ h'.2 (sim'.put h'.1 rfl)
      · rename_i hd
        rw [hd]
        exact hrest _ _ h' sim'
    unfold evOps at h
    split at h
    · rename_i hg
      unfold wpQuiet
      rw [if_pos (by simp [Region.wanted, hg])]
      exact evOp_quiet sim h hrest
    · rename_i j want hg
      split at h
      · rename_i d hd
        split at h
        · rename_i b hb
          have hy := yielded_bool sim hd hb
          have say : ∀ c, b = c → SimAt w0 S0 (putS s d (sc (.bool c))) φ a w := fun c e => sim.say (by rw [hb, e])
          unfold wpQuiet
          by_cases hbw : b = want
          · rw [if_pos (by simp [Region.wanted, hg, hy, hbw])]
            exact evOp_quiet (say _ hbw) (h.1 hbw) hrest
          · rw [if_neg (by simp [Region.wanted, hg, hy, hbw])]
            have hb' : b = !want := by cases b <;> cases want <;> simp_all
            exact hskip _ (say _ hb') (h.2 hb')
        · rename_i x hb
          have hy := yielded_bool sim hd hb
          unfold wpQuiet
          rw [if_neg (by simp [Region.wanted, hg, hy])]
          exact hskip _ sim h
        · exact h.elim
      · exact h.elim
class Cx where
  X : Nat → Prop
instance noCx : Cx := ⟨fun _ => False⟩
structure Reb [Cx] (w0 w1 : World) : Prop where
  os : w1.os = w0.os
  tape : w1.tape = w0.tape
  output : w1.output = w0.output
  drawn : w1.drawn = w0.drawn
  size : w1.heap.size = w0.heap.size
  oth : ∀ b, ¬ Cx.X b → w1.heap[b]? = w0.heap[b]?
theorem Reb.refl [Cx] (w : World) : Reb w w := ⟨rfl, rfl, rfl, rfl, rfl, fun _ _ => rfl⟩
theorem Reb.trans [Cx] {a b c : World} (h : Reb a b) (k : Reb b c) : Reb a c := ⟨k.os.trans h.os, k.tape.trans h.tape, k.output.trans h.output, k.drawn.trans h.drawn, k.size.trans h.size, fun b hb => (k.oth b hb).trans (h.oth b hb)⟩
theorem Reb.none {a b : World} (h : @Reb noCx a b) : a = b := by
  obtain ⟨h1, h2, h3, h4, h5, h6⟩ := h
  have e : b.heap = a.heap := Array.ext_getElem? fun i => h6 i fun h => h
  cases a; cases b; simp_all
def SimR [Cx] (w0 : World) (S0 : Nat → Prop) (s : ASt) (a : Act) (w : World) : Prop := ∃ w1, Reb w0 w1 ∧ Sim w1 S0 s a w
theorem Sim.R [Cx] {w0 : World} {S0 : Nat → Prop} {s : ASt} {a : Act} {w : World} (h : Sim w0 S0 s a w) : SimR w0 S0 s a w := ⟨w0, Reb.refl _, h⟩
theorem SimR.none {w0 : World} {S0 : Nat → Prop} {s : ASt} {a : Act} {w : World} (h : @SimR noCx w0 S0 s a w) : Sim w0 S0 s a w := by
  obtain ⟨w1, hR, h⟩ := h
  obtain rfl := hR.none
  exact h
theorem SimR.trans [Cx] {w0 w1 : World} {S0 : Nat → Prop} {s : ASt} {a : Act} {w : World} (hR : Reb w0 w1) (h : SimR w1 S0 s a w) : SimR w0 S0 s a w := by
  obtain ⟨w2, h2, h⟩ := h; exact ⟨w2, hR.trans h2, h⟩
def AWP [Cx] (N : Nat) (P : Program) (c : Code) (Q : Exit → ASt → Prop) (s : ASt) : Prop :=
  ∀ (w0 : World) (S0 : Nat → Prop) (a : Act) (w : World), w0.heap.size = N → SimR w0 S0 s a w → c.wp P (fun e a' w' => ∃ s', Q e s' ∧ SimR w0 S0 s' a' w') a w
theorem AWP.of0 [Cx] {N : Nat} {c : Code} {Q : Exit → ASt → Prop} {s : ASt} (h : ∀ (w0 : World) (S0 : Nat → Prop) (a : Act) (w : World), w0.heap.size = N → Sim w0 S0 s a w → c.wp P (fun e a' w' => ∃ s', Q e s' ∧ Sim w0 S0 s' a' w') a w) : AWP N P c Q s := by
  rintro w0 S0 a w hN ⟨w1, hR, sim⟩
  exact wp_mono (h w1 S0 a w (hR.size.trans hN) sim) fun e a' w' ⟨s', hq, sim'⟩ => ⟨s', hq, w1, hR, sim'⟩
theorem AWP.of_step [Cx] {N : Nat} {c : Code} {Q : Exit → ASt → Prop} {s : ASt} (h : ∀ (w0 : World) (S0 : Nat → Prop) (φ : List (Option (Nat × Nat))) (a : Act) (w : World), w0.heap.size = N → SimAt w0 S0 s φ a w → ∃ s' φ', AWP N P c Q s' ∧ SimAt w0 S0 s' φ' a w) : AWP N P c Q s := by
  rintro w0 S0 a w hN ⟨w1, hR, φ, sim⟩
  obtain ⟨s', φ', hA, sim'⟩ := h w1 S0 φ a w (hR.size.trans hN) sim
  exact hA w0 S0 a w hN ⟨w1, hR, φ', sim'⟩
theorem AWP.region [Cx] {N : Nat} {id : Nat} {ops : List Oper} {Q : Exit → ASt → Prop} {s : ASt} (h : evOps P false ops ops (Q .normal) s) : AWP N P (.region id ops.toArray false) Q s := by
  refine AWP.of0 ?_
  rintro w0 S0 a w hN ⟨φ, sim⟩
  exact wp_region_lit (evOps_plain ops sim h fun s' a' w' hK sim' => ⟨s', hK, sim'⟩)
theorem AWP.drawn [Cx] {N : Nat} {id : Nat} {ops : List Oper} {Q : Exit → ASt → Prop} {s : ASt} (hm : P.follows .mixedOrders = true) (hB : Region.lexB .any ops.toArray = true) (h : evOps P true ops ops (Q .normal) s) : AWP N P (.region id ops.toArray true) Q s := by
  refine AWP.of0 ?_
  rintro w0 S0 a w hN ⟨φ, sim⟩
  refine wp_region_quiet (C := fun w' => Below w.heap.size w w') hm hB ⟨rfl, rfl, rfl, Nat.le_refl _, fun _ _ => rfl⟩ ?_
  exact evOps_quiet ops sim h fun s' a' hK sim' w' hw' => ⟨s', hK, φ, sim'.after hw'⟩
theorem AWP.skip [Cx] {N : Nat} {Q : Exit → ASt → Prop} {s : ASt} (h : Q .normal s) : AWP N P .skip Q s := fun _ _ _ _ _ sim => wp_skip ⟨s, h, sim⟩
theorem AWP.exit [Cx] {N : Nat} {id : Nat} {Q : Exit → ASt → Prop} {s : ASt} (h : Q (.exit id) s) : AWP N P (.exit id) Q s := fun _ _ _ _ _ sim => wp_exit ⟨s, h, sim⟩
theorem AWP.ret [Cx] {N : Nat} {Q : Exit → ASt → Prop} {s : ASt} (h : Q .ret s) : AWP N P .ret Q s := fun _ _ _ _ _ sim => wp_ret ⟨s, h, sim⟩
def thenQ (next : ASt → Prop) (Q : Exit → ASt → Prop) : Exit → ASt → Prop
  | .normal, s => next s
  | e, s => Q e s
theorem AWP.seq [Cx] {N : Nat} {x y : Code} {Q : Exit → ASt → Prop} {s : ASt} (h : AWP N P x (thenQ (AWP N P y Q) Q) s) : AWP N P (.seq x y) Q s := by
  intro w0 S0 a w hN sim
  refine wp_seq (wp_mono (h w0 S0 a w hN sim) fun e a' w' ⟨s', hq, sim'⟩ => ?_)
  cases e <;> first | exact hq w0 S0 a' w' hN sim' | exact ⟨s', hq, sim'⟩
theorem AWP.cond [Cx] {N : Nat} {c : Operand} {x y : Code} {Q : Exit → ASt → Prop} {s : ASt} {b : Bool} (hc : opd s c = some (sc (.bool b))) (h1 : b = true → AWP N P x Q s) (h2 : b = false → AWP N P y Q s) : AWP N P (.cond c x y) Q s := by
  rintro w0 S0 a w hN ⟨w1, hR, φ, sim⟩
  have e : a.eval c = .bool b := val_of sim hc
  refine wp_cond e ?_
  cases b with
  | true => exact h1 rfl w0 S0 a w hN ⟨w1, hR, φ, sim⟩
  | false => exact h2 rfl w0 S0 a w hN ⟨w1, hR, φ, sim⟩
def blockQ (id : Nat) (Q : Exit → ASt → Prop) : Exit → ASt → Prop
  | .exit id', s => if id' = id then Q .normal s else Q (.exit id') s
  | e, s => Q e s
theorem AWP.block [Cx] {N : Nat} {id : Nat} {c : Code} {Q : Exit → ASt → Prop} {s : ASt} (h : AWP N P c (blockQ id Q) s) : AWP N P (.block id c) Q s := by
  intro w0 S0 a w hN sim
  refine wp_block (wp_mono (h w0 S0 a w hN sim) fun e a' w' ⟨s', hq, sim'⟩ => ?_)
  cases e with
  | exit id' =>
    simp only [blockQ] at hq
    simp only [Exit.inBlock]
    split at hq
    · rename_i e; rw [if_pos e]; exact ⟨s', hq, sim'⟩
    · rename_i e; rw [if_neg e]; exact ⟨s', hq, sim'⟩
  | _ => exact ⟨s', hq, sim'⟩
theorem AWP.loop [Cx] {N : Nat} {c : Code} {Q : Exit → ASt → Prop} {ι : Type} (inv : ι → ASt) (μ : ι → Nat) (G : ι → Prop) (x : ι) (hG : G x)
    (h : ∀ x, G x → AWP N P c (thenQ (fun s' => ∃ y, G y ∧ μ y < μ x ∧ ∀ w0 S0 a w, Sim w0 S0 s' a w → Sim w0 S0 (inv y) a w) Q) (inv x)) : AWP N P (.loop c) Q (inv x) := by
  intro w0 S0 a w hN sim
  refine wp_loop_ghost (fun n a w => ∃ x, G x ∧ μ x = n ∧ SimR w0 S0 (inv x) a w) (μ x) ⟨x, hG, rfl, sim⟩ ?_
  rintro n a w ⟨x, hG, rfl, sim⟩
  refine wp_mono (h x hG w0 S0 a w hN sim) fun e a' w' ⟨s', hq, sim'⟩ => ?_
  cases e with
  | normal =>
    obtain ⟨y, hy, hlt, hs⟩ := hq
    obtain ⟨w1, hR, sim'⟩ := sim'
    exact ⟨_, hlt, y, hy, rfl, w1, hR, hs _ _ _ _ sim'⟩
  | _ => exact ⟨s', hq, sim'⟩
end
set_option linter.unusedSimpArgs false
set_option linter.unusedVariables false
open Go.RowKit
def VE : V → V → Prop
  | .val a, .val b => a = b
  | .seq sz n f, .seq sz' n' g => sz = sz' ∧ n = n' ∧ ∀ i, i < n * sz → VE (f i) (g i)
  | .agg n f, .agg n' g => n = n' ∧ ∀ i, i < n → VE (f i) (g i)
  | .pin n f, .pin n' g => n = n' ∧ ∀ i, i < n → VE (f i) (g i)
  | .clo f0 n f, .clo f1 n' g => f0 = f1 ∧ n = n' ∧ ∀ i, i < n → VE (f i) (g i)
  | .old n v, .old n' v' => n = n' ∧ VE v v'
  | .row u Z sz n f, .row u' Z' sz' n' g => u = u' ∧ Z = Z' ∧ sz = sz' ∧ n = n' ∧ ∀ i, i < n * sz → VE (f i) (g i)
  | .grow u Z e sz n f, .grow u' Z' e' sz' n' g => u = u' ∧ Z = Z' ∧ e = e' ∧ sz = sz' ∧ n = n' ∧ ∀ i, i < n * sz → VE (f i) (g i)
  | .grow u Z _ sz n f, .row u' Z' sz' n' g => u = u' ∧ Z = Z' ∧ sz = sz' ∧ n = n' ∧ ∀ i, i < n * sz → VE (f i) (g i)
  | .cur b k Z c, .cur b' k' Z' c' => b = b' ∧ k ≤ k' ∧ Z = Z' ∧ VE c c'
  | .val a, .grow u Z _ _ n _ => a = .slice none 0 0 ∧ u = a ∧ Z = (fun _ => False) ∧ n = 0
  | .val a, .row u Z _ n _ => a = .slice none 0 0 ∧ u = a ∧ Z = (fun _ => False) ∧ n = 0
  | _, _ => False
theorem VE.rfl' : ∀ v : V, VE v v
  | .val _ => rfl
  | .seq _ _ f => ⟨rfl, rfl, fun i _ => VE.rfl' (f i)⟩
  | .agg _ f => ⟨rfl, fun i _ => VE.rfl' (f i)⟩
  | .pin _ f => ⟨rfl, fun i _ => VE.rfl' (f i)⟩
  | .clo _ _ f => ⟨rfl, rfl, fun i _ => VE.rfl' (f i)⟩
  | .old _ v => ⟨rfl, VE.rfl' v⟩
  | .row _ _ _ _ f => ⟨rfl, rfl, rfl, rfl, fun i _ => VE.rfl' (f i)⟩
  | .grow _ _ _ _ _ f => ⟨rfl, rfl, rfl, rfl, rfl, fun i _ => VE.rfl' (f i)⟩
  | .cur _ _ _ c => ⟨rfl, Nat.le_refl _, rfl, VE.rfl' c⟩
theorem VE.of_eq {v v' : V} (h : v = v') : VE v v' := h ▸ VE.rfl' v
theorem VE.rd {w : World} {S : Nat → Prop} : ∀ (v v' : V) (u : Value), VE v v' → Rd w S v u → Rd w S v' u
  | .val _, .val _, _, h, hr => by cases h; exact hr
  | .seq sz n f, .seq sz' n' g, u, h, hr => by
    obtain ⟨rfl, rfl, h⟩ := h
    obtain ⟨A, c, rfl, hc, hr⟩ := hr
    refine ⟨A, c, rfl, hc, fun hp => ?_⟩
    obtain ⟨b, off, rfl, hS, hr⟩ := hr hp
    refine ⟨b, off, rfl, hS, fun i hi => ?_⟩
    obtain ⟨x, hx, hr⟩ := hr i hi
    exact ⟨x, hx, VE.rd (f i) (g i) x (h i hi) hr⟩
  | .agg n f, .agg n' g, u, h, hr => by
    obtain ⟨rfl, h⟩ := h
    obtain ⟨cs, rfl, hn, hr⟩ := hr
    refine ⟨cs, rfl, hn, fun i hi => ?_⟩
    obtain ⟨x, hx, hr⟩ := hr i hi
    exact ⟨x, hx, VE.rd (f i) (g i) x (h i hi) hr⟩
  | .pin n f, .pin n' g, u, h, hr => by
    obtain ⟨rfl, h⟩ := h
    obtain ⟨b, off, rfl, hr⟩ := hr
    refine ⟨b, off, rfl, fun i hi => ?_⟩
    obtain ⟨hS, x, hx, hr⟩ := hr i hi
    exact ⟨hS, x, hx, VE.rd (f i) (g i) x (h i hi) hr⟩
  | .clo f0 n f, .clo f1 n' g, u, h, hr => by
    obtain ⟨rfl, rfl, h⟩ := h
    obtain ⟨cs, rfl, hn, hr⟩ := hr
    refine ⟨cs, rfl, hn, fun i hi => ?_⟩
    obtain ⟨x, hx, hr⟩ := hr i hi
    exact ⟨x, hx, VE.rd (f i) (g i) x (h i hi) hr⟩
  | .old n v, .old n' v', u, h, hr => by
    obtain ⟨rfl, h⟩ := h
    exact ⟨hr.1, VE.rd (S := n) v v' u h hr.2⟩
  | .row u0 Z sz n f, .row u0' Z' sz' n' g, u, h, hr => by
    obtain ⟨rfl, rfl, rfl, rfl, h⟩ := h
    obtain ⟨e, hz, A, c, hu, hc, hr⟩ := hr
    refine ⟨e, hz, A, c, hu, hc, fun hp => ?_⟩
    obtain ⟨b, off, hA, hS, hr⟩ := hr hp
    refine ⟨b, off, hA, hS, fun i hi => ?_⟩
    obtain ⟨x, hx, hr⟩ := hr i hi
    exact ⟨x, hx, VE.rd (f i) (g i) x (h i hi) hr⟩
  | .grow u0 Z e sz n f, .grow u0' Z' e' sz' n' g, u, h, hr => by
    obtain ⟨rfl, rfl, rfl, rfl, rfl, h⟩ := h
    obtain ⟨hu, hz, hr⟩ := hr
    refine ⟨hu, hz, ?_⟩
    rcases hr with hr | ⟨b, c, cur, h1, h2, h3, h4, h5, h6, h7⟩
    · exact .inl hr
    · refine .inr ⟨b, c, cur, h1, h2, h3, h4, h5, h6, fun i hi => ?_⟩
      obtain ⟨x, hx, hr⟩ := h7 i hi
      exact ⟨x, hx, VE.rd (f i) (g i) x (h i hi) hr⟩
  | .grow u0 Z e sz n f, .row u0' Z' sz' n' g, u, h, hr => by
    obtain ⟨rfl, rfl, rfl, rfl, h⟩ := h
    obtain ⟨hu, hz, hr⟩ := hr
    refine ⟨hu, hz, ?_⟩
    rcases hr with ⟨hr, hn⟩ | ⟨b, c, cur, h1, h2, h3, h4, h5, h6, h7⟩
    · exact ⟨none, 0, by rw [hr, hn], by omega, fun hp => by rw [hn] at hp; omega⟩
    · refine ⟨_, c, h1, h2, fun _ => ⟨b, 0, rfl, h4, fun i hi => ?_⟩⟩
      obtain ⟨x, hx, hr⟩ := h7 i hi
      exact ⟨x, by rw [Nat.zero_add]; exact h5.cell hx, VE.rd (f i) (g i) x (h i hi) hr⟩
  | .grow _ _ _ _ _ _, .val _, _, h, _ => h.elim
  | .grow _ _ _ _ _ _, .seq _ _ _, _, h, _ => h.elim
  | .grow _ _ _ _ _ _, .agg _ _, _, h, _ => h.elim
  | .grow _ _ _ _ _ _, .pin _ _, _, h, _ => h.elim
  | .grow _ _ _ _ _ _, .clo _ _ _, _, h, _ => h.elim
  | .grow _ _ _ _ _ _, .old _ _, _, h, _ => h.elim
  | .val a, .grow u0 Z e sz n f, u, h, hr => by
    obtain ⟨rfl, rfl, rfl, rfl⟩ := h
    exact ⟨hr, fun _ h => h.elim, .inl ⟨hr, rfl⟩⟩
  | .seq _ _ _, .grow _ _ _ _ _ _, _, h, _ => h.elim
  | .agg _ _, .grow _ _ _ _ _ _, _, h, _ => h.elim
  | .pin _ _, .grow _ _ _ _ _ _, _, h, _ => h.elim
  | .clo _ _ _, .grow _ _ _ _ _ _, _, h, _ => h.elim
  | .old _ _, .grow _ _ _ _ _ _, _, h, _ => h.elim
  | .row _ _ _ _ _, .grow _ _ _ _ _ _, _, h, _ => h.elim
  | .val _, .seq _ _ _, _, h, _ => h.elim
  | .val _, .agg _ _, _, h, _ => h.elim
  | .val _, .pin _ _, _, h, _ => h.elim
  | .val _, .clo _ _ _, _, h, _ => h.elim
  | .seq _ _ _, .val _, _, h, _ => h.elim
  | .seq _ _ _, .agg _ _, _, h, _ => h.elim
  | .seq _ _ _, .pin _ _, _, h, _ => h.elim
  | .seq _ _ _, .clo _ _ _, _, h, _ => h.elim
  | .agg _ _, .val _, _, h, _ => h.elim
  | .agg _ _, .seq _ _ _, _, h, _ => h.elim
  | .agg _ _, .pin _ _, _, h, _ => h.elim
  | .agg _ _, .clo _ _ _, _, h, _ => h.elim
  | .pin _ _, .val _, _, h, _ => h.elim
  | .pin _ _, .seq _ _ _, _, h, _ => h.elim
  | .pin _ _, .agg _ _, _, h, _ => h.elim
  | .pin _ _, .clo _ _ _, _, h, _ => h.elim
  | .clo _ _ _, .val _, _, h, _ => h.elim
  | .clo _ _ _, .seq _ _ _, _, h, _ => h.elim
  | .clo _ _ _, .agg _ _, _, h, _ => h.elim
  | .clo _ _ _, .pin _ _, _, h, _ => h.elim
  | .val _, .old _ _, _, h, _ => h.elim
  | .val a, .row u0 Z sz n f, u, h, hr => by
    obtain ⟨rfl, rfl, rfl, rfl⟩ := h
    exact ⟨hr, fun _ h => h.elim, none, 0, hr, Nat.le_refl _, fun hp => by omega⟩
  | .seq _ _ _, .old _ _, _, h, _ => h.elim
  | .seq _ _ _, .row _ _ _ _ _, _, h, _ => h.elim
  | .agg _ _, .old _ _, _, h, _ => h.elim
  | .agg _ _, .row _ _ _ _ _, _, h, _ => h.elim
  | .pin _ _, .old _ _, _, h, _ => h.elim
  | .pin _ _, .row _ _ _ _ _, _, h, _ => h.elim
  | .clo _ _ _, .old _ _, _, h, _ => h.elim
  | .clo _ _ _, .row _ _ _ _ _, _, h, _ => h.elim
  | .old _ _, .val _, _, h, _ => h.elim
  | .old _ _, .seq _ _ _, _, h, _ => h.elim
  | .old _ _, .agg _ _, _, h, _ => h.elim
  | .old _ _, .pin _ _, _, h, _ => h.elim
  | .old _ _, .clo _ _ _, _, h, _ => h.elim
  | .old _ _, .row _ _ _ _ _, _, h, _ => h.elim
  | .row _ _ _ _ _, .val _, _, h, _ => h.elim
  | .row _ _ _ _ _, .seq _ _ _, _, h, _ => h.elim
  | .row _ _ _ _ _, .agg _ _, _, h, _ => h.elim
  | .row _ _ _ _ _, .pin _ _, _, h, _ => h.elim
  | .row _ _ _ _ _, .clo _ _ _, _, h, _ => h.elim
  | .row _ _ _ _ _, .old _ _, _, h, _ => h.elim
  | .cur b k Z c, .cur b' k' Z' c', u, h, hr => by
    obtain ⟨rfl, hk, rfl, h⟩ := h
    obtain ⟨hu, hb, hz, cur, cv, p, q, e, hc, h3, hp, hq, hr⟩ := hr
    exact ⟨hu, hb, hz, cur, cv, p, q, e, hc, h3, ⟨hp.1, by omega⟩, hq, VE.rd c c' cv h hr⟩
  | .cur _ _ _ _, .val _, _, h, _ => h.elim
  | .val _, .cur _ _ _ _, _, h, _ => h.elim
  | .cur _ _ _ _, .seq _ _ _, _, h, _ => h.elim
  | .seq _ _ _, .cur _ _ _ _, _, h, _ => h.elim
  | .cur _ _ _ _, .agg _ _, _, h, _ => h.elim
  | .agg _ _, .cur _ _ _ _, _, h, _ => h.elim
  | .cur _ _ _ _, .pin _ _, _, h, _ => h.elim
  | .pin _ _, .cur _ _ _ _, _, h, _ => h.elim
  | .cur _ _ _ _, .clo _ _ _, _, h, _ => h.elim
  | .clo _ _ _, .cur _ _ _ _, _, h, _ => h.elim
  | .cur _ _ _ _, .old _ _, _, h, _ => h.elim
  | .old _ _, .cur _ _ _ _, _, h, _ => h.elim
  | .cur _ _ _ _, .row _ _ _ _ _, _, h, _ => h.elim
  | .row _ _ _ _ _, .cur _ _ _ _, _, h, _ => h.elim
  | .cur _ _ _ _, .grow _ _ _ _ _ _, _, h, _ => h.elim
  | .grow _ _ _ _ _ _, .cur _ _ _ _, _, h, _ => h.elim
def BE (b b' : Blk) : Prop := b.elem = b'.elem ∧ b'.n ≤ b.n ∧ ∀ i, i < b'.n → VE (b.f i) (b'.f i)
theorem BE.rfl' (b : Blk) : BE b b := ⟨rfl, Nat.le_refl _, fun _ _ => VE.rfl' _⟩
def fits (h : List (Option Blk)) : SV → RV → Prop
  | .pv v, .pv v' => VE v v'
  | .own id sz off len, .fr sz' len' b' => off = 0 ∧ sz = sz' ∧ len = len' ∧ ∃ b, h[id]? = some (some b) ∧ BE b b'
  | .pv (.val (.slice none 0 0)), .fr _ len' b' => len' = 0 ∧ b'.n = 0
  | _, _ => False
def fitsL (h : List (Option Blk)) : List SV → List RV → Prop
  | [], [] => True
  | v :: vs, r :: rs => fits h v r ∧ fitsL h vs rs
  | _, _ => False
def blksOf : List RV → List Blk
  | [] => []
  | .pv _ :: r => blksOf r
  | .fr _ _ b :: r => b :: blksOf r
def srcs : List SV → List RV → List (Option Nat)
  | .own id _ _ _ :: vs, .fr _ _ _ :: rs => some id :: srcs vs rs
  | _ :: vs, .fr _ _ _ :: rs => none :: srcs vs rs
  | _ :: vs, .pv _ :: rs => srcs vs rs
  | _, _ => []
def ND : List (Option Nat) → Prop
  | [] => True
  | none :: r => ND r
  | some a :: r => some a ∉ r ∧ ND r
theorem ND.inj : ∀ {l : List (Option Nat)}, ND l → ∀ (i j a : Nat), l[i]? = some (some a) → l[j]? = some (some a) → i = j
  | [], _, i, _, _, h, _ => by simp at h
  | none :: r, h, i, j, a, hi, hj => by
    cases i <;> cases j <;> simp at hi hj
    rw [ND.inj (l := r) h _ _ a hi hj]
  | some b :: r, h, i, j, a, hi, hj => by
    cases i <;> cases j <;> simp at hi hj
    · rfl
    · subst hi; exact absurd (List.mem_of_getElem? hj) h.1
    · subst hj; exact absurd (List.mem_of_getElem? hi) h.1
    · rw [ND.inj (l := r) h.2 _ _ a hi hj]
theorem bring_blks (rs : List RV) : ∀ g : List (Option Blk), (bring rs g).2 = g ++ (blksOf rs).map some := by
  induction rs with
  | nil => intro g; simp [bring, blksOf]
  | cons r rs ih => intro g; cases r with
    | pv v => exact ih g
    | fr sz len b => simp only [bring, blksOf]; rw [ih]; simp
theorem fits_nil {h : List (Option Blk)} {v : V} {sz len : Nat} {b : Blk} (hf : fits h (.pv v) (.fr sz len b)) : v = .val (.slice none 0 0) ∧ len = 0 ∧ b.n = 0 := by
  unfold fits at hf
  split at hf <;> simp_all
theorem fitsL_src {h : List (Option Blk)} : ∀ (vs : List SV) (rs : List RV), fitsL h vs rs → (srcs vs rs).length = (blksOf rs).length ∧
    ∀ (k : Nat) (b' : Blk), (blksOf rs)[k]? = some b' → ((srcs vs rs)[k]? = some none ∧ b'.n = 0) ∨ ∃ id b, (srcs vs rs)[k]? = some (some id) ∧ h[id]? = some (some b) ∧ BE b b'
  | [], [], _ => ⟨rfl, fun k b' hk => by simp [blksOf] at hk⟩
  | [], _ :: _, hf => hf.elim
  | _ :: _, [], hf => hf.elim
  | v :: vs, r :: rs, hf => by
    obtain ⟨h1, h2⟩ := hf
    obtain ⟨ih1, ih2⟩ := fitsL_src vs rs h2
    cases r with
    | pv v' => cases v <;> exact ⟨ih1, ih2⟩
    | fr sz' len' b'' =>
      cases v with
      | own id sz off len =>
        obtain ⟨_, _, _, b, hb, he⟩ := h1
        refine ⟨by simp [srcs, blksOf, ih1], fun k b' hk => ?_⟩
        cases k with
        | zero => simp [blksOf] at hk; subst hk; exact .inr ⟨id, b, rfl, hb, he⟩
        | succ k => simp [blksOf] at hk; simpa [srcs] using ih2 k b' hk
      | pv v =>
        refine ⟨by simp [srcs, blksOf, ih1], fun k b' hk => ?_⟩
        cases k with
        | zero =>
          simp [blksOf] at hk; subst hk
          refine .inl ⟨rfl, ?_⟩
          exact (fits_nil h1).2.2
        | succ k => simp [blksOf] at hk; simpa [srcs] using ih2 k b' hk
      | ptr id off => exact h1.elim
      | pin n f => exact h1.elim
      | mp _ _ => exact h1.elim
      | it _ _ _ => exact h1.elim
section
variable {w0 : World} {S0 : Nat → Prop} {s : ASt} {φ : List (Option (Nat × Nat))} {a : Act} {w : World}
def places (φ : List (Option (Nat × Nat))) (l : List (Option Nat)) : List (Option (Nat × Nat)) := l.map fun x => x.bind fun id => (φ[id]?).join
theorem SimAt.results_heap (sim : SimAt w0 S0 s φ a w) {vs : List SV} {rs : List RV} (hf : fitsL s.h vs rs) (hnd : ND (srcs vs rs)) :
    Heap w0 S0 ((blksOf rs).map some) (places φ (srcs vs rs)) w ∧ ∀ b, Stab w0 S0 s.h φ b → Stab w0 S0 ((blksOf rs).map some) (places φ (srcs vs rs)) b := by
  obtain ⟨h1, h2⟩ := fitsL_src vs rs hf
  have src : ∀ (k : Nat) (b' : Blk), ((blksOf rs).map some)[k]? = some (some b') → ((places φ (srcs vs rs))[k]? = some none ∧ b'.n = 0) ∨
      ∃ id b, (srcs vs rs)[k]? = some (some id) ∧ s.h[id]? = some (some b) ∧ BE b b' ∧ (places φ (srcs vs rs))[k]? = some ((φ[id]?).join) := fun k b' hk => by
    have hk' : (blksOf rs)[k]? = some b' := by simpa [List.getElem?_map, Option.map_eq_some_iff] using hk
    rcases h2 k b' hk' with ⟨h3, h4⟩ | ⟨id, b, h3, h4, h5⟩
    · exact .inl ⟨by simp [places, h3], h4⟩
    · exact .inr ⟨id, b, h3, h4, h5, by simp [places, h3]⟩
  have hst : ∀ b, Stab w0 S0 s.h φ b → Stab w0 S0 ((blksOf rs).map some) (places φ (srcs vs rs)) b := fun b hb => ⟨hb.1, fun ⟨k, b', z, hk, hp⟩ => by
    rcases src k b' hk with ⟨h3, _⟩ | ⟨id, b0, _, h4, _, h5⟩
    · rw [hp] at h3; cases h3
    · rw [hp] at h5
      injection h5 with h5
      refine hb.2 ⟨id, b0, z, h4, ?_⟩
      cases hφ : φ[id]? with
      | none => rw [hφ] at h5; cases h5
      | some x => rw [hφ] at h5; simp at h5; rw [h5]⟩
  refine ⟨⟨by simp [places, h1], sim.heap.below, fun k b' hk => ?_, fun i j bi bj b z z' hi hj hi' hj' => ?_⟩, hst⟩
  · rcases src k b' hk with h3 | ⟨id, b, _, h4, h5, h6⟩
    · exact .inl h3
    · rcases sim.heap.blk id b h4 with ⟨h7, h8⟩ | ⟨bb, cur, h7, h8, h9, h10, h11⟩
      · exact .inl ⟨by rw [h6, h7]; rfl, by have := h5.2.1; omega⟩
      · refine .inr ⟨bb, cur, by rw [h6, h7]; rfl, h8, by rw [← h5.1]; exact h9, by have := h5.2.1; omega, fun i hi => ?_⟩
        obtain ⟨x, hx, hr⟩ := h11 i (by have := h5.2.1; omega)
        exact ⟨x, hx, VE.rd _ _ _ (h5.2.2 i hi) (Rd.mono (fun b hb _ => ⟨hst b hb, rfl⟩) _ _ hr)⟩
  · rcases src i bi hi with ⟨h3, _⟩ | ⟨id, b0, h3, h4, _, h5⟩
    · rw [hi'] at h3; cases h3
    · rcases src j bj hj with ⟨h6, _⟩ | ⟨id', b0', h6, h7, _, h8⟩
      · rw [hj'] at h6; cases h6
      · rw [hi'] at h5; rw [hj'] at h8
        injection h5 with h5; injection h8 with h8
        have e1 : φ[id]? = some (some (b, z)) := by
          cases hφ : φ[id]? with
          | none => rw [hφ] at h5; cases h5
          | some x => rw [hφ] at h5; simp at h5; rw [h5]
        have e2 : φ[id']? = some (some (b, z')) := by
          cases hφ : φ[id']? with
          | none => rw [hφ] at h8; cases h8
          | some x => rw [hφ] at h8; simp at h8; rw [h8]
        have := sim.heap.inj id id' b0 b0' b z z' h4 h7 e1 e2
        subst this
        exact hnd.inj i j id h3 h6
theorem results_slots {S S' : Nat → Prop} {h : List (Option Blk)} (hS : ∀ b, S b → S' b) : ∀ (vs : List SV) (rs : List RV) (us : List Value) (g : List (Option Blk)) (ψ : List (Option (Nat × Nat))), ψ.length = g.length →
    fitsL h vs rs → RdSs w S φ vs us → RdSs w S' (ψ ++ places φ (srcs vs rs)) (bring rs g).1 us
  | [], [], us, _, _, _, _, hr => by cases us with | nil => trivial | cons _ _ => exact hr.elim
  | [], _ :: _, _, _, _, _, hf, _ => hf.elim
  | _ :: _, [], _, _, _, _, hf, _ => hf.elim
  | _ :: _, _ :: _, [], _, _, _, _, hr => hr.elim
  | v :: vs, r :: rs, u :: us, g, ψ, hl, hf, hr => by
    have hs : ∀ b, S b → b < w.heap.size → S' b ∧ w.heap[b]? = w.heap[b]? := fun b h _ => ⟨hS b h, rfl⟩
    obtain ⟨f1, f2⟩ := hf
    obtain ⟨r1, r2⟩ := hr
    cases r with
    | pv v' =>
      cases v with
      | pv v0 => exact ⟨VE.rd v0 v' u f1 (Rd.mono hs _ _ r1), results_slots hS vs rs us g ψ hl f2 r2⟩
      | own _ _ _ _ => exact f1.elim
      | ptr _ _ => exact f1.elim
      | pin _ _ => exact f1.elim
      | mp _ _ => exact f1.elim
      | it _ _ _ => exact f1.elim
    | fr sz' len' b' =>
      have key : ∀ x : Option (Nat × Nat), RdS w S' (ψ ++ (x :: places φ (srcs vs rs))) (.own g.length sz' 0 len') u → RdSs w S' (ψ ++ (x :: places φ (srcs vs rs))) (bring (.fr sz' len' b' :: rs) g).1 (u :: us) := fun x hx => by
        refine ⟨hx, ?_⟩
        have := results_slots hS vs rs us (g ++ [some b']) (ψ ++ [x]) (by simp [hl]) f2 r2
        rw [List.append_assoc] at this
        exact this
      cases v with
      | own id sz off len =>
        obtain ⟨rfl, rfl, rfl, b, hb, he⟩ := f1
        refine key _ ?_
        have e : (ψ ++ (((some id).bind fun id => (φ[id]?).join) :: places φ (srcs vs rs)))[g.length]? = some (φ[id]?).join := by
          rw [← hl, List.getElem?_append_right (Nat.le_refl _)]; simp
        rcases r1 with ⟨h1, h2⟩ | ⟨b1, c, z, h1, h2⟩
        · exact .inl ⟨by rw [e, h1]; rfl, h2⟩
        · exact .inr ⟨b1, c, z, by rw [e, h1]; rfl, h2⟩
      | pv v0 =>
        refine key none ?_
        have e : (ψ ++ (none :: places φ (srcs vs rs)))[g.length]? = some none := by
          rw [← hl, List.getElem?_append_right (Nat.le_refl _)]; simp
        obtain ⟨rfl, rfl, _⟩ := fits_nil f1
        exact .inl ⟨e, rfl, rfl, r1⟩
      | ptr _ _ => exact f1.elim
      | pin _ _ => exact f1.elim
      | mp _ _ => exact f1.elim
      | it _ _ _ => exact f1.elim
end
set_option linter.unusedSimpArgs false
set_option linter.unusedVariables false
open Go.RowKit
def slotsOf : Nat → List V → List (Nat × Slot)
  | _, [] => []
  | k, v :: vs => (k, .one (.pv v)) :: slotsOf (k + 1) vs
def getL (σ : List (Nat × Slot)) : List Nat → Option (List SV)
  | [] => some []
  | t :: ts =>
    match lookup σ t with
    | some (.one v) => (getL σ ts).map (v :: ·)
    | _ => none
def retOk (ts : List Nat) (r : Res) (s : ASt) : Prop :=
  match getL s.σ ts with
  | some vs => fitsL s.h vs r.list ∧ ND (srcs vs r.list)
  | none => False
def retQ (ts : List Nat) (r : Res) : Exit → ASt → Prop
  | .normal, s => retOk ts r s
  | .ret, s => retOk ts r s
  | _, _ => False
def Res.shape : Res → Nat → Bool
  | .one _, n => n == 1
  | .many _, n => n != 1
theorem run_results {P : Program} {fn : Func} {ts : List Nat} (h : fn.results = (ts.map ResultVar.tmp).toArray) (tmps : Array Value) (w : World) :
    (results fn tmps).run P w = .ok (if ts.length = 1 then tmps.getD (ts.getD 0 0) undef else .tuple (ts.map fun t => tmps.getD t undef).toArray) w := by
  have key : ∀ (g : ResultVar → Sem Value), (∀ t, g (.tmp t) = pure (tmps.getD t undef)) → ∀ (ts : List Nat), Sem.run P (List.mapM g (ts.map ResultVar.tmp)) w = .ok (ts.map fun t => tmps.getD t undef) w := by
    intro g hg ts
    induction ts with
    | nil => rfl
    | cons t ts ih => simp only [List.map_cons, List.mapM_cons, Sem.run_bind, hg, Sem.run_pure, Result.andThen_ok, ih]
  unfold results
  rw [h, Array.mapM_eq_mapM_toList, Sem.run_bind, Sem.run_map]
  rw [show (List.map ResultVar.tmp ts).toArray.toList = ts.map ResultVar.tmp from rfl, key _ (fun _ => rfl) ts]
  simp only [Result.andThen_ok, Sem.run_pure]
  by_cases h1 : ts.length = 1
  · match ts, h1 with
    | [t], _ => simp
  · rw [dif_neg (by simpa using h1), if_neg h1]
theorem slotsOf_get : ∀ (vs : List V) (k t : Nat) {x : Slot}, lookup (slotsOf k vs) t = some x → ∃ v, x = .one (.pv v) ∧ k ≤ t ∧ vs[t - k]? = some v
  | [], _, _, _, h => by cases h
  | v :: vs, k, t, x, h => by
    simp only [slotsOf, lookup] at h
    split at h
    · rename_i e; subst e; injection h with h; subst h; exact ⟨v, rfl, Nat.le_refl _, by simp⟩
    · rename_i e
      obtain ⟨v', h1, h2, h3⟩ := slotsOf_get vs (k + 1) t h
      refine ⟨v', h1, by omega, ?_⟩
      rw [show t - k = (t - (k + 1)) + 1 by omega]
      simpa using h3
theorem getL_rd {w0 : World} {S0 : Nat → Prop} {s : ASt} {φ : List (Option (Nat × Nat))} {a : Act} {w : World} (sim : SimAt w0 S0 s φ a w) : ∀ (ts : List Nat) (vs : List SV), getL s.σ ts = some vs →
    RdSs w (Stab w0 S0 s.h φ) φ vs (ts.map fun t => a.tmps.getD t undef)
  | [], vs, h => by simp [getL] at h; subst h; trivial
  | t :: ts, vs, h => by
    unfold getL at h
    split at h
    · rename_i v hv
      obtain ⟨vs', h1, rfl⟩ := Option.map_eq_some_iff.1 h
      obtain ⟨u, hu, hr⟩ := sim.slots t _ hv
      refine ⟨?_, getL_rd sim ts vs' h1⟩
      have : a.tmps.getD t undef = u := by simp [hu]
      show RdS _ _ _ v (a.tmps.getD t undef)
      rw [this]; exact hr
    · cases h
theorem Fn.of_body {P : Program} {f : FuncId} {fn : Func} {c : Code} {nt : Nat} {ts : List Nat} {vs : List V} {r : Res}
    (hcall : ∀ (args : Array Value) (w : World), (callFunc f args).run P w = .ok (.enter f args) w) (hf : P.funcs[f]? = some fn) (hb : fn.body = some c) (hnt : fn.ntmps = nt)
    (hres : fn.results = (ts.map ResultVar.tmp).toArray) (hlen : vs.length ≤ nt) (hshape : r.shape ts.length = true) (h : ∀ N, AWP N P c (retQ ts r) ⟨slotsOf 0 vs, [], nt⟩) : Fn P f vs r := by
  refine ⟨hcall, fun w S0 us hus => calls_of_wp hf hb ?_⟩
  have hul := hus.len
  have sim : SimAt w S0 ⟨slotsOf 0 vs, [], nt⟩ [] { tmps := us.toArray ++ Array.replicate (fn.ntmps - us.toArray.size) undef, defers := [] } w := by
    refine ⟨⟨rfl, Below.refl _ _, fun id blk hi => by simp at hi, fun i j bi bj b z z' hi => by simp at hi⟩, fun t x ht => ?_, ⟨rfl, hus.gl⟩, by simp [hnt]; omega⟩
    obtain ⟨v, rfl, _, hv⟩ := slotsOf_get vs 0 t ht
    obtain ⟨u, hu, hr⟩ := RdL.get vs us t hus (by simpa using hv)
    refine ⟨u, ?_, ?_⟩
    · have : t < us.length := (List.getElem?_eq_some_iff.1 hu).1
      rw [Array.getElem?_append_left (by simpa using this)]; simpa using hu
    · refine Rd.mono (fun b hb hlt => ⟨⟨.inl hb, ?_⟩, rfl⟩) _ _ hr
      rintro ⟨id, blk, z, hi, _⟩; simp at hi
  refine wp_mono (h _ w S0 _ w rfl ⟨w, Reb.refl _, [], sim⟩) fun e a' w' ⟨s', hq, w1, hR, φ, sim'⟩ => ?_
  obtain rfl := hR.none
  have fin : retOk ts r s' → a'.defers = [] ∧ ∃ v, (results fn a'.tmps).run P w' = .ok v w' ∧
      ∃ u φ, Ending.returned v = .returned u ∧ Heap w S0 (bring r.list []).2 φ w' ∧ RdSlot w' (Stab w S0 (bring r.list []).2 φ) φ (r.slot (bring r.list []).1) u := fun hq => by
    unfold retOk at hq
    split at hq
    · rename_i vs' hvs
      obtain ⟨hfit, hnd⟩ := hq
      have hrd := getL_rd sim' ts vs' hvs
      obtain ⟨hh, hst⟩ := sim'.results_heap hfit hnd
      have hsl := results_slots hst vs' r.list _ [] [] rfl hfit hrd
      have eb : (bring r.list []).2 = (blksOf r.list).map some := by rw [bring_blks]; rfl
      refine ⟨sim'.defers.1, _, run_results hres _ _, _, _, rfl, by rw [eb]; exact hh, ?_⟩
      rw [eb]
      simp only [List.nil_append] at hsl
      cases r with
      | one r =>
        have h1 : ts.length = 1 := by simpa [Res.shape] using hshape
        rw [if_pos h1]
        match ts, h1 with
        | [t], _ => cases r <;> exact hsl.1
      | many l =>
        have h1 : ts.length ≠ 1 := by simpa [Res.shape] using hshape
        rw [if_neg h1]
        exact ⟨_, rfl, hsl⟩
    · exact hq.elim
  cases e with
  | normal => exact fin hq
  | ret => exact fin hq
  | _ => exact hq.elim
def SlE : Slot → Slot → Prop
  | .one (.pv a), .one (.pv b) => VE a b
  | a, b => a = b
def EntS (σ : List (Nat × Slot)) : List (Nat × Slot) → Prop
  | [] => True
  | (t, v) :: r => (match lookup σ t with | some v0 => SlE v0 v | none => False) ∧ EntS σ r
def EntH : List (Option Blk) → List (Option Blk) → Prop
  | [], [] => True
  | _ :: h, none :: h' => EntH h h'
  | some b :: h, some b' :: h' => BE b b' ∧ EntH h h'
  | _, _ => False
def Ent (s s' : ASt) : Prop := s'.nt = s.nt ∧ EntS s.σ s'.σ ∧ EntH s.h s'.h
theorem SlE.rd {w : World} {S : Nat → Prop} {φ : List (Option (Nat × Nat))} {x y : Slot} {u : Value} (h : SlE x y) (hr : RdSlot w S φ x u) : RdSlot w S φ y u := by
  unfold SlE at h
  split at h
  · exact VE.rd _ _ _ h hr
  · subst h; exact hr
theorem EntS.get {σ : List (Nat × Slot)} : ∀ {τ : List (Nat × Slot)} {t : Nat} {v : Slot}, EntS σ τ → lookup τ t = some v → ∃ v0, lookup σ t = some v0 ∧ SlE v0 v
  | [], _, _, _, h => by cases h
  | (k, x) :: r, t, v, he, h => by
    obtain ⟨h1, h2⟩ := he
    simp only [lookup] at h
    split at h
    · rename_i e; subst e; injection h with h; subst h
      split at h1
      · rename_i v0 hv; exact ⟨v0, hv, h1⟩
      · exact h1.elim
    · exact EntS.get h2 h
theorem EntH.len : ∀ {h h' : List (Option Blk)}, EntH h h' → h.length = h'.length
  | [], [], _ => rfl
  | [], _ :: _, h => by cases ‹Option Blk› <;> exact h.elim
  | _ :: _, [], h => by cases ‹Option Blk› <;> exact h.elim
  | x :: h, none :: h', he => by simp [EntH.len (h := h) (h' := h') (by cases x <;> exact he)]
  | none :: _, some _ :: _, he => he.elim
  | some _ :: h, some _ :: h', he => by simp [EntH.len he.2]
theorem EntH.get : ∀ {h h' : List (Option Blk)} {id : Nat} {b' : Blk}, EntH h h' → h'[id]? = some (some b') → ∃ b, h[id]? = some (some b) ∧ BE b b'
  | [], [], _, _, _, hi => by simp at hi
  | [], _ :: _, _, _, h, _ => by cases ‹Option Blk› <;> exact h.elim
  | _ :: _, [], _, _, _, hi => by simp at hi
  | x :: h, none :: h', id, b', he, hi => by
    cases id with
    | zero => simp at hi
    | succ id =>
      obtain ⟨b, h1, h2⟩ := EntH.get (h := h) (h' := h') (by cases x <;> exact he) (by simpa using hi)
      exact ⟨b, by simpa using h1, h2⟩
  | none :: _, some _ :: _, _, _, he, _ => he.elim
  | some b0 :: h, some b0' :: h', id, b', he, hi => by
    cases id with
    | zero => simp at hi; subst hi; exact ⟨b0, by simp, he.1⟩
    | succ id =>
      obtain ⟨b, h1, h2⟩ := EntH.get he.2 (by simpa using hi)
      exact ⟨b, by simpa using h1, h2⟩
theorem Ent.sim {s s' : ASt} (h : Ent s s') {w0 : World} {S0 : Nat → Prop} {a : Act} {w : World} (hs : Sim w0 S0 s a w) : Sim w0 S0 s' a w := by
  obtain ⟨φ, sim⟩ := hs
  obtain ⟨h1, h2, h3⟩ := h
  have hst : ∀ b, Stab w0 S0 s.h φ b → Stab w0 S0 s'.h φ b := fun b hb => ⟨hb.1, fun ⟨id, blk, z, hi, hp⟩ => by
    obtain ⟨b0, h4, _⟩ := h3.get hi
    exact hb.2 ⟨id, b0, z, h4, hp⟩⟩
  have hs : ∀ b, Stab w0 S0 s.h φ b → b < w.heap.size → Stab w0 S0 s'.h φ b ∧ w.heap[b]? = w.heap[b]? := fun b hb _ => ⟨hst b hb, rfl⟩
  refine ⟨φ, ⟨⟨by rw [sim.heap.len, h3.len], sim.heap.below, fun id blk hi => ?_, fun i j bi bj b z z' hi hj hi' hj' => ?_⟩, fun t v ht => ?_, sim.defers, by rw [sim.size, h1]⟩⟩
  · obtain ⟨b0, h4, h5⟩ := h3.get hi
    rcases sim.heap.blk id b0 h4 with ⟨h6, h7⟩ | ⟨b, cur, h6, h7, h8, h9, h10⟩
    · exact .inl ⟨h6, by have := h5.2.1; omega⟩
    · refine .inr ⟨b, cur, h6, h7, by rw [← h5.1]; exact h8, by have := h5.2.1; omega, fun i hi' => ?_⟩
      obtain ⟨x, hx, hr⟩ := h10 i (by have := h5.2.1; omega)
      exact ⟨x, hx, VE.rd _ _ _ (h5.2.2 i hi') (Rd.mono hs _ _ hr)⟩
  · obtain ⟨bi0, h4, _⟩ := h3.get hi
    obtain ⟨bj0, h5, _⟩ := h3.get hj
    exact sim.heap.inj i j bi0 bj0 b z z' h4 h5 hi' hj'
  · obtain ⟨v0, h4, h5⟩ := h2.get ht
    obtain ⟨u, hu, hr⟩ := sim.slots t v0 h4
    exact ⟨u, hu, h5.rd (RdSlot.mono hs (fun _ _ h => h) _ _ hr)⟩
theorem AWP.ent [Cx] {N : Nat} {P : Program} {c : Code} {Q : Exit → ASt → Prop} {s : ASt} (s' : ASt) (h : Ent s s') (h' : AWP N P c Q s') : AWP N P c Q s :=
  fun w0 S0 a w hN ⟨w1, hR, sim⟩ => h' w0 S0 a w hN ⟨w1, hR, h.sim sim⟩
theorem AWP.loop_ent [Cx] {N : Nat} {P : Program} {c : Code} {Q : Exit → ASt → Prop} {s : ASt} {ι : Type} (inv : ι → ASt) (G : ι → Prop) (μ : ι → Nat) (x : ι) (hG : G x) (h0 : Ent s (inv x))
    (h : ∀ x, G x → AWP N P c (thenQ (fun s' => ∃ y, G y ∧ μ y < μ x ∧ Ent s' (inv y)) Q) (inv x)) : AWP N P (.loop c) Q s := by
  refine AWP.ent _ h0 (AWP.loop inv μ G x hG fun x hx w0 S0 a w hN sim => wp_mono (h x hx w0 S0 a w hN sim) fun e a' w' ⟨s', hq, sim'⟩ => ?_)
  cases e with
  | normal =>
    obtain ⟨y, hy, hlt, he⟩ := hq
    exact ⟨s', ⟨y, hy, hlt, fun w0 S0 a w hs => he.sim hs⟩, sim'⟩
  | _ => exact ⟨s', hq, sim'⟩
theorem AWP.seq_cut [Cx] {N : Nat} {P : Program} {x y : Code} {Q : Exit → ASt → Prop} {s : ASt} (s1 : ASt) (h : AWP N P x (thenQ (fun s' => Ent s' s1) Q) s) (h' : AWP N P y Q s1) : AWP N P (.seq x y) Q s := by
  refine AWP.seq fun w0 S0 a w hN sim => wp_mono (h w0 S0 a w hN sim) fun e a' w' ⟨s', hq, sim'⟩ => ?_
  cases e with
  | normal => obtain ⟨w1, hR, sim'⟩ := sim'; exact ⟨s1, h', w1, hR, Ent.sim hq sim'⟩
  | _ => exact ⟨s', hq, sim'⟩
/-! ### One operation at a time, what stands behind it out of sight -/
theorem ev_nil {P : Program} {q : Bool} {l : List Oper} {K : ASt → Prop} {s : ASt} (h : K s) : evOps P q l [] K s := h
theorem ev_step {P : Program} {q : Bool} {l os : List Oper} {o : Oper} {K : ASt → Prop} {s : ASt} (hg : o.guard = none) (h : ∀ K' : ASt → Prop, (∀ s', evOps P q l os K s' → K' s') → evOp P q o K' s) : evOps P q l (o :: os) K s := by
  unfold evOps; rw [hg]; exact h _ fun _ h => h
def EvOpen (P : Program) (q : Bool) (l os : List Oper) (o : Oper) (K : ASt → Prop) (s : ASt) : Prop := ∀ K' : ASt → Prop, (∀ s', evOps P q l os K s' → K' s') → evOp P q o K' s
def SkOpen (P : Program) (q : Bool) (l os : List Oper) (o : Oper) (K : ASt → Prop) (s : ASt) : Prop := ∀ K' : ASt → Prop, (∀ s', evOps P q l os K s' → K' s') → skipOp o K' s
theorem ev_open {P : Program} {q : Bool} {l os : List Oper} {o : Oper} {K : ASt → Prop} {s : ASt} (h : ∀ K' : ASt → Prop, (∀ s', evOps P q l os K s' → K' s') → evOp P q o K' s) : EvOpen P q l os o K s := h
theorem sk_open {P : Program} {q : Bool} {l os : List Oper} {o : Oper} {K : ASt → Prop} {s : ASt} (h : ∀ K' : ASt → Prop, (∀ s', evOps P q l os K s' → K' s') → skipOp o K' s) : SkOpen P q l os o K s := h
theorem ev_guard {P : Program} {q : Bool} {l os : List Oper} {o : Oper} {K : ASt → Prop} {s : ASt} {j d : Nat} {want b : Bool} (hg : o.guard = some (j, want)) (hd : (l[j]?).bind (·.dst) = some d) (hb : lookup s.σ d = some (sc (.bool b)))
    (h1 : b = want → EvOpen P q l os o K (putS s d (sc (.bool want)))) (h2 : b = !want → SkOpen P q l os o K (putS s d (sc (.bool (!want))))) : evOps P q l (o :: os) K s := by
  unfold evOps; rw [hg]; simp only []; rw [hd]; simp only []; rw [hb]
  exact ⟨fun e => h1 e _ fun _ h => h, fun e => h2 e _ fun _ h => h⟩
theorem ev_undef {P : Program} {q : Bool} {l os : List Oper} {o : Oper} {K : ASt → Prop} {s : ASt} {j d : Nat} {want : Bool} {x : Array Value} (hg : o.guard = some (j, want)) (hd : (l[j]?).bind (·.dst) = some d) (hb : lookup s.σ d = some (sc (.tuple x)))
    (h : ∀ K' : ASt → Prop, (∀ s', evOps P q l os K s' → K' s') → skipOp o K' s) : evOps P q l (o :: os) K s := by
  unfold evOps; rw [hg]; simp only []; rw [hd]; simp only []; rw [hb]
  exact h _ fun _ h => h
theorem then_normal {next : ASt → Prop} {Q : Exit → ASt → Prop} {s : ASt} (h : next s) : thenQ next Q .normal s := h
theorem then_ret {next : ASt → Prop} {Q : Exit → ASt → Prop} {s : ASt} (h : Q .ret s) : thenQ next Q .ret s := h
theorem then_exit {next : ASt → Prop} {Q : Exit → ASt → Prop} {s : ASt} {i : Nat} (h : Q (.exit i) s) : thenQ next Q (.exit i) s := h
theorem block_normal {Q : Exit → ASt → Prop} {s : ASt} {i : Nat} (h : Q .normal s) : blockQ i Q .normal s := h
theorem block_ret {Q : Exit → ASt → Prop} {s : ASt} {i : Nat} (h : Q .ret s) : blockQ i Q .ret s := h
theorem block_exit {Q : Exit → ASt → Prop} {s : ASt} {i : Nat} (h : Q .normal s) : blockQ i Q (.exit i) s := by
  show (if i = i then Q .normal s else Q (.exit i) s)
  rw [if_pos rfl]; exact h
theorem block_exit_ne {Q : Exit → ASt → Prop} {s : ASt} {i j : Nat} (hne : (j == i) = false) (h : Q (.exit j) s) : blockQ i Q (.exit j) s := by
  show (if j = i then Q .normal s else Q (.exit j) s)
  rw [if_neg (by simpa using hne)]; exact h
theorem call_scalar {P : Program} {q : Bool} {f : FuncId} {d : Nat} {K : ASt → Prop} {s : ASt} {p : Bool} {vs : List V} {r : Res} (hf : Fn P f vs r) (hd : d < s.nt) (hs : allVal r.list = true) (h : K (bringIn s d r)) :
    callK P q f d K s p vs := ⟨hd, r, hf, .inl hs, h⟩
theorem call_pure {P : Program} {f : FuncId} {d : Nat} {K : ASt → Prop} {s : ASt} {vs : List V} {r : Res} (hf : Fn P f vs r) (hd : d < s.nt) (h : K (bringIn s d r)) :
    callK P false f d K s true vs := ⟨hd, r, hf, .inr ⟨rfl, .inl rfl⟩, h⟩
theorem call_safe {P : Program} {f : FuncId} {d : Nat} {K : ASt → Prop} {s : ASt} {p : Bool} {vs : List V} {r : Res} (hf : Fn P f vs r) (hd : d < s.nt) (hs : Safe r.list) (h : K (bringIn s d r)) :
    callK P false f d K s p vs := ⟨hd, r, hf, .inr ⟨rfl, .inr hs⟩, h⟩
abbrev vi (n : Int) : V := .val (.int .i64 n)
abbrev vb (b : Bool) : V := .val (.bool b)
abbrev ints (l : List Int) : V := .seq 1 l.length fun i => vi (l.getD i 0)
end Go.Proofs.Ytlomkebhopaliaa
namespace Go.Proofs.Ytlomkebhopaliaa
set_option linter.unusedSimpArgs false
set_option linter.unusedVariables false
def allN (n : Nat) (p : Nat → Bool) : Bool := (List.range n).all p
theorem allN_true {n : Nat} {p : Nat → Bool} (h : ∀ j, j < n → p j = true) : allN n p = true := by
  simp only [allN, List.all_eq_true, List.mem_range]; exact h
theorem allN_iff {n : Nat} {p : Nat → Bool} : allN n p = true ↔ ∀ j, j < n → p j = true := by simp [allN]
theorem allN_false {n k : Nat} {p : Nat → Bool} (hk : k < n) (h : p k = false) : allN n p = false := by
  cases e : allN n p with
  | false => rfl
  | true => rw [allN_iff] at e; rw [e k hk] at h; cases h
theorem allN_congr {n : Nat} {p q : Nat → Bool} (h : ∀ j, j < n → p j = q j) : allN n p = allN n q := by
  cases e : allN n q with
  | true => rw [allN_iff] at e; exact allN_true fun j hj => by rw [h j hj, e j hj]
  | false =>
    cases e' : allN n p with
    | false => rfl
    | true => rw [allN_iff] at e'; rw [← e]; exact (allN_true fun j hj => by rw [← h j hj, e' j hj]).symm
def finB (n : Int) : Bool := decide (-1000000 ≤ n) && decide (n ≤ 1000000)
def numB (n : Int) : Bool := finB n || n == 1000000000
def inB (n lo hi : Int) : Bool := decide (lo ≤ n) && decide (n ≤ hi)
def numsB (l : List Int) : Bool := allN l.length fun j => numB (l.getD j 0)
def polyB (l : List Int) : Bool := inB l.length 1 13 && numsB l && (l.getD (l.length - 1) 0 != 1000000000)
theorem polyB_no {l : List Int} (h : numsB l = false) : polyB l = false := by simp [polyB, h]
def okP (x y : Int) : Bool := !(decide (x > y) || ((x == 1000000000) != (y == 1000000000)))
def okO (x y : Int) : Bool := !(decide (x > y) || ((x != y) && (y == 1000000000)))
def both (p : Int → Int → Bool) (a b : List Int) : Bool := a.length == b.length && allN a.length fun j => p (a.getD j 0) (b.getD j 0)
def eqB (a b : List Int) : Bool := both (fun x y => x == y) a b
def pairB (a b : List Int) : Bool := both okP a b
def ordB (a b : List Int) : Bool := both okO a b
theorem both_len {p : Int → Int → Bool} {a b : List Int} (h : ¬ (a.length : Int) = (b.length : Int)) : both p a b = false := by
  unfold both
  have : (a.length == b.length) = false := by simp; omega
  rw [this]; rfl
theorem both_no {p : Int → Int → Bool} {a b : List Int} {k : Nat} (hk : k < a.length) (h : p (a.getD k 0) (b.getD k 0) = false) : both p a b = false := by
  unfold both; rw [allN_false hk h, Bool.and_false]
theorem both_yes {p : Int → Int → Bool} {a b : List Int} (hl : (a.length : Int) = (b.length : Int)) (h : ∀ j, j < a.length → p (a.getD j 0) (b.getD j 0) = true) : both p a b = true := by
  unfold both; rw [allN_true h]; simp; omega
def boundsB (a b : List Int) : Bool := polyB a && polyB b && pairB a b
theorem inB_true {n lo hi : Int} : inB n lo hi = true ↔ lo ≤ n ∧ n ≤ hi := by simp [inB]
theorem inB_false {n lo hi : Int} : inB n lo hi = false ↔ ¬ (lo ≤ n ∧ n ≤ hi) := by rw [← inB_true]; simp
theorem finB_true {n : Int} : finB n = true ↔ -1000000 ≤ n ∧ n ≤ 1000000 := by simp [finB]
theorem finB_false {n : Int} : finB n = false ↔ ¬ (-1000000 ≤ n ∧ n ≤ 1000000) := by rw [← finB_true]; simp
theorem polyB_in {l : List Int} (h : ¬ (1 ≤ (l.length : Int) ∧ (l.length : Int) ≤ 13)) : polyB l = false := by unfold polyB; rw [inB_false.2 h]; rfl
theorem polyB_is {l : List Int} (h : 1 ≤ (l.length : Int) ∧ (l.length : Int) ≤ 13) (h2 : numsB l = true) : polyB l = (l.getD ((l.length : Int) - 1).toNat 0 != 1000000000) := by
  unfold polyB; rw [inB_true.2 h, h2, show ((l.length : Int) - 1).toNat = l.length - 1 by omega]; rfl
theorem polyB_len {l : List Int} (h : polyB l = true) : 1 ≤ l.length ∧ l.length ≤ 13 := by
  by_cases hh : 1 ≤ (l.length : Int) ∧ (l.length : Int) ≤ 13
  · omega
  · rw [polyB_in hh] at h; cases h
theorem polyB_nums {l : List Int} (h : polyB l = true) : numsB l = true := by
  cases e : numsB l with
  | true => rfl
  | false => rw [polyB_no e] at h; cases h
theorem upto_succ {k : Nat} {P : Nat → Prop} (h : ∀ j, j < k → P j) (hk : P k) : ∀ j, j < k + 1 → P j := fun j hj => by
  rcases Nat.lt_or_ge j k with h1 | h1
  · exact h j h1
  · rw [show j = k by omega]; exact hk
theorem numB_fin {n : Int} (h : -1000000 ≤ n ∧ n ≤ 1000000) : numB n = true := by unfold numB; rw [finB_true.2 h]; rfl
theorem numB_not {n : Int} (h : ¬ (-1000000 ≤ n ∧ n ≤ 1000000)) : numB n = (n == 1000000000) := by unfold numB; rw [finB_false.2 h]; rfl
theorem numB_inf {n : Int} (h : n = 1000000000) : numB n = true := by subst h; rfl
theorem numB_in {n : Int} (h : ¬ n = 1000000000) : numB n = inB n (-1000000) 1000000 := by unfold numB finB inB; rw [beq_eq_false_iff_ne.2 h]; simp
theorem numB_le {n : Int} (h : numB n = true) : -1000000 ≤ n ∧ n ≤ 1000000000 := by
  simp [numB, finB] at h; omega
theorem numsB_get {l : List Int} (h : numsB l = true) {j : Nat} (hj : j < l.length) : numB (l.getD j 0) = true := allN_iff.1 h j hj
theorem okP_gt {x y : Int} (h : y < x) : okP x y = false := by simp [okP, h]
theorem okP_ne {x y : Int} (h : ¬ (x == 1000000000) = (y == 1000000000)) : okP x y = false := by
  unfold okP; rw [bne_iff_ne.2 h]; simp
theorem okP_ok {x y : Int} (h : x ≤ y) (h2 : (x == 1000000000) = (y == 1000000000)) : okP x y = true := by
  unfold okP; rw [bne_eq_false_iff_eq.2 h2]; simp; omega
theorem okO_gt {x y : Int} (h : y < x) : okO x y = false := by simp [okO, h]
theorem okO_ne {x y : Int} (h : ¬ x = y) (h2 : y = 1000000000) : okO x y = false := by
  unfold okO; rw [bne_iff_ne.2 h, beq_iff_eq.2 h2]; simp
theorem okO_eq {x y : Int} (h : x ≤ y) (h2 : x = y) : okO x y = true := by subst h2; simp [okO]
theorem okO_ok {x y : Int} (h : x ≤ y) (h2 : ¬ y = 1000000000) : okO x y = true := by
  unfold okO; rw [beq_eq_false_iff_ne.2 h2]; simp; omega
theorem ordB_pairB {a b : List Int} (ha : numsB a = true) (hb : numsB b = true) : ordB a b = pairB a b := by
  unfold ordB pairB both
  by_cases hl : a.length = b.length
  · congr 1
    refine allN_congr fun j hj => ?_
    have h1 := numB_le (numsB_get ha hj)
    have h2 := numB_le (numsB_get hb (j := j) (by omega))
    generalize a.getD j 0 = x at *
    generalize b.getD j 0 = y at *
    clear ha hb hl hj
    unfold okO okP
    cases h1 : decide (x > y) <;> cases h2 : x == 1000000000 <;> cases h3 : y == 1000000000 <;> cases h4 : x != y <;> first | rfl | (exfalso; simp at h1 h2 h3 h4; omega)
  · have : (a.length == b.length) = false := by simpa using hl
    rw [this]; rfl
theorem boundsB_parts {a b : List Int} (h : boundsB a b = true) : polyB a = true ∧ polyB b = true ∧ a.length = b.length := by
  unfold boundsB at h
  simp only [Bool.and_eq_true] at h
  refine ⟨h.1.1, h.1.2, ?_⟩
  have h2 := h.2
  unfold pairB both at h2
  simp only [Bool.and_eq_true, beq_iff_eq] at h2
  exact h2.1
theorem boundsB_len {a b : List Int} (h : boundsB a b = true) : a.length = b.length ∧ 1 ≤ a.length ∧ a.length ≤ 13 :=
  ⟨(boundsB_parts h).2.2, polyB_len (boundsB_parts h).1⟩
def withinB (l h p : List Int) : Bool := boundsB l h && polyB p && (p.length == l.length) && allN p.length fun j => inB (p.getD j 0) (l.getD j 0) (h.getD j 0)
theorem withinB_no {l h p : List Int} {k : Nat} (hk : k < p.length) (e : inB (p.getD k 0) (l.getD k 0) (h.getD k 0) = false) : withinB l h p = false := by
  unfold withinB; rw [allN_false hk e, Bool.and_false]
theorem withinB_len {l h p : List Int} (e : ¬ (p.length : Int) = (l.length : Int)) : withinB l h p = false := by
  have : (p.length == l.length) = false := by simp; omega
  unfold withinB; rw [this]; simp
theorem withinB_yes {l h p : List Int} (h1 : boundsB l h = true) (h2 : polyB p = true) (h3 : (p.length : Int) = (l.length : Int)) (e : ∀ j, j < p.length → inB (p.getD j 0) (l.getD j 0) (h.getD j 0) = true) : withinB l h p = true := by
  have : (p.length == l.length) = true := by simp; omega
  unfold withinB; rw [h1, h2, this, allN_true e]; rfl
set_option linter.unusedSimpArgs false
set_option linter.unusedVariables false
def leastN (g : Nat → Int) : Nat → Int
  | 0 => 1000000000
  | k + 1 => if leastN g k < g k then leastN g k else g k
def toldR (n : Int) : Int × Bool := if numB n then (n, true) else (0, false)
theorem leastN_le (g : Nat → Int) : ∀ (n i : Nat), i < n → leastN g n ≤ g i
  | 0, _, h => by omega
  | n + 1, i, h => by
    show (if leastN g n < g n then leastN g n else g n) ≤ g i
    rcases Nat.lt_or_ge i n with h1 | h1
    · have := leastN_le g n i h1
      split <;> omega
    · rw [show i = n by omega]; split <;> omega
set_option linter.unusedSimpArgs false
set_option linter.unusedVariables false
def tab (n : Nat) (g : Nat → Int) : List Int := (List.range n).map g
@[simp] theorem tab_len (n : Nat) (g : Nat → Int) : (tab n g).length = n := by simp [tab]
theorem tab_get {n : Nat} {g : Nat → Int} {i : Nat} (h : i < n) : (tab n g).getD i 0 = g i := by simp [tab, h]
def minL (l p : List Int) : List Int := tab l.length fun i => min (l.getD i 0) (p.getD i 0)
def maxL (h p : List Int) : List Int := tab h.length fun i => max (h.getD i 0) (p.getD i 0)
@[simp] theorem minL_len (l p : List Int) : (minL l p).length = l.length := tab_len _ _
@[simp] theorem maxL_len (h p : List Int) : (maxL h p).length = h.length := tab_len _ _
set_option linter.unusedSimpArgs false
set_option linter.unusedVariables false
set_option linter.unusedSimpArgs false
set_option linter.unusedVariables false
def pt (l : List Int) (i : Nat) : Int := if i < l.length then l.getD i 0 else 1000000000
theorem pt_in {l : List Int} {i : Nat} (h : i < l.length) : pt l i = l.getD i 0 := by unfold pt; rw [if_pos h]
theorem pt_out {l : List Int} {i : Nat} (h : l.length ≤ i) : pt l i = 1000000000 := by unfold pt; rw [if_neg (by omega)]
def plusI (a b : Int) : Int := if a = 1000000000 ∨ b = 1000000000 then 1000000000 else a + b
theorem plusI_a {a b : Int} (h : a = 1000000000) : plusI a b = 1000000000 := by unfold plusI; rw [if_pos (Or.inl h)]
theorem plusI_b {a b : Int} (h : b = 1000000000) : plusI a b = 1000000000 := by unfold plusI; rw [if_pos (Or.inr h)]
theorem plusI_ab {a b : Int} (h : ¬ a = 1000000000) (h2 : ¬ b = 1000000000) : plusI a b = a + b := by unfold plusI; rw [if_neg (by omega)]
def cv (p q : List Int) (m j : Nat) : Int := if j ≤ m then plusI (pt p j) (pt q (m - j)) else 1000000000
def prodL (p q : List Int) : List Int := tab (p.length + q.length - 1) fun m => leastN (cv p q m) (m + 1)
@[simp] theorem prodL_len (p q : List Int) : (prodL p q).length = p.length + q.length - 1 := tab_len _ _
theorem prodL_get {p q : List Int} {m : Nat} (h : m < p.length + q.length - 1) : (prodL p q).getD m 0 = leastN (cv p q m) (m + 1) := tab_get h
def cell (p q : List Int) (m i k : Nat) : Int := leastN (cv p q m) (if i ≤ m ∧ m < i + k then i + 1 else i)
theorem leastN_inf (g : Nat → Int) : ∀ n, leastN g n ≤ 1000000000
  | 0 => by simp [leastN]
  | n + 1 => by
    have := leastN_inf g n
    show (if leastN g n < g n then leastN g n else g n) ≤ 1000000000
    split <;> omega
theorem leastN_more (g : Nat → Int) (n : Nat) : ∀ d, (∀ j, n ≤ j → j < n + d → g j = 1000000000) → leastN g (n + d) = leastN g n
  | 0, _ => rfl
  | d + 1, h => by
    have ih := leastN_more g n d fun j h1 h2 => h j h1 (by omega)
    have h1 := h (n + d) (by omega) (by omega)
    have h2 := leastN_inf g n
    show (if leastN g (n + d) < g (n + d) then leastN g (n + d) else g (n + d)) = _
    rw [ih, h1]
    split <;> omega
theorem leastN_to (g : Nat → Int) {n n' : Nat} (hn : n ≤ n') (h : ∀ j, n ≤ j → j < n' → g j = 1000000000) : leastN g n' = leastN g n := by
  obtain ⟨d, rfl⟩ := Nat.le.dest hn
  exact leastN_more g n d h
theorem leastN_min (g : Nat → Int) (n : Nat) : leastN g (n + 1) = min (leastN g n) (g n) := by
  show (if leastN g n < g n then leastN g n else g n) = _
  rw [Int.min_def]; split <;> split <;> omega
theorem cell_first (p q : List Int) (m : Nat) : cell p q m 0 0 = 1000000000 := by unfold cell; rw [if_neg (by omega)]; rfl
theorem cell_step (p q : List Int) (i k : Nat) (hi : i < p.length) (hk : k < q.length) : cell p q (i + k) i (k + 1) = min (cell p q (i + k) i k) (plusI (p.getD i 0) (q.getD k 0)) := by
  unfold cell
  rw [if_pos (by omega), if_neg (by omega), leastN_min]
  unfold cv
  rw [if_pos (by omega), pt_in hi, show i + k - i = k by omega, pt_in hk]
theorem cell_else (p q : List Int) (m i k : Nat) (h : ¬ m = i + k) : cell p q m i (k + 1) = cell p q m i k := by
  unfold cell
  by_cases h1 : i ≤ m ∧ m < i + k
  · rw [if_pos h1, if_pos (by omega)]
  · rw [if_neg h1, if_neg (by omega)]
theorem cell_row (p q : List Int) (m i : Nat) : cell p q m i q.length = cell p q m (i + 1) 0 := by
  unfold cell
  rw [if_neg (show ¬ (i + 1 ≤ m ∧ m < i + 1 + 0) by omega)]
  by_cases h1 : i ≤ m ∧ m < i + q.length
  · rw [if_pos h1]
  · rw [if_neg h1]
    refine (leastN_to _ (by omega) fun j h2 h3 => ?_).symm
    obtain rfl : j = i := by omega
    unfold cv
    by_cases h4 : j ≤ m
    · rw [if_pos h4]; exact plusI_b (pt_out (by omega))
    · rw [if_neg h4]
theorem cell_done (p q : List Int) (m : Nat) : cell p q m p.length 0 = leastN (cv p q m) (m + 1) := by
  unfold cell
  rw [if_neg (by omega)]
  rcases Nat.le_total p.length (m + 1) with h | h
  · refine (leastN_to _ h fun j h2 h3 => ?_).symm
    unfold cv; rw [if_pos (by omega)]; exact plusI_a (pt_out h2)
  · refine leastN_to _ h fun j h2 h3 => ?_
    unfold cv; rw [if_neg (by omega)]
def prodR (p q : List Int) : List Int × Bool := if polyB (prodL p q) then (prodL p q, true) else ([], false)
theorem prodR_yes {p q : List Int} (h : polyB (prodL p q) = true) : prodR p q = (prodL p q, true) := by unfold prodR; rw [if_pos h]
theorem prodR_no {p q : List Int} (h : polyB (prodL p q) = false) : prodR p q = ([], false) := by unfold prodR; rw [if_neg (by rw [h]; simp)]
theorem prodR_len (p q : List Int) : (prodR p q).1.length ≤ p.length + q.length := by unfold prodR; split <;> simp <;> omega
def pbR (a b c d : List Int) : List Int × List Int × Bool := if boundsB a b && boundsB c d && (prodR a c).2 && (prodR b d).2 then ((prodR a c).1, (prodR b d).1, true) else ([], [], false)
theorem pbR_no1 {a b c d : List Int} (h : boundsB a b = false) : pbR a b c d = ([], [], false) := by unfold pbR; rw [h]; rfl
theorem pbR_no2 {a b c d : List Int} (h : boundsB c d = false) : pbR a b c d = ([], [], false) := by unfold pbR; rw [h, Bool.and_false]; rfl
theorem pbR_no3 {a b c d : List Int} (h : (prodR a c).2 = false) : pbR a b c d = ([], [], false) := by unfold pbR; rw [h, Bool.and_false]; rfl
theorem pbR_no4 {a b c d : List Int} (h : (prodR b d).2 = false) : pbR a b c d = ([], [], false) := by unfold pbR; rw [h, Bool.and_false]; rfl
theorem pbR_yes {a b c d : List Int} (h1 : boundsB a b = true) (h2 : boundsB c d = true) (h3 : (prodR a c).2 = true) (h4 : (prodR b d).2 = true) : pbR a b c d = ((prodR a c).1, (prodR b d).1, true) := by unfold pbR; rw [h1, h2, h3, h4]; rfl
end Go.Proofs.Ytlomkebhopaliaa
namespace Go.Proofs.Ytlomkebhopaliaa
set_option linter.unusedSimpArgs false
set_option linter.unusedVariables false
abbrev rowAt (m : List (List Int)) (i : Nat) : List Int := m.getD i []
abbrev rows (m : List (List Int)) : V := .seq 1 m.length fun i => ints (rowAt m i)
def firstN (p : Nat → Bool) : Nat → Int
  | 0 => -1
  | n + 1 => if 0 ≤ firstN p n then firstN p n else if p n = true then (n : Int) else -1
theorem firstN_none {p : Nat → Bool} : ∀ {n : Nat}, (∀ j, j < n → p j = false) → firstN p n = -1
  | 0, _ => rfl
  | n + 1, h => by
    show (if 0 ≤ firstN p n then firstN p n else if p n = true then (n : Int) else -1) = -1
    rw [firstN_none fun j hj => h j (by omega), h n (by omega)]; simp
theorem firstN_at {p : Nat → Bool} {k : Nat} (h : ∀ j, j < k → p j = false) (hk : p k = true) : ∀ {n : Nat}, k < n → firstN p n = k
  | 0, h0 => by omega
  | n + 1, h0 => by
    show (if 0 ≤ firstN p n then firstN p n else if p n = true then (n : Int) else -1) = k
    rcases Nat.lt_or_ge k n with h1 | h1
    · rw [firstN_at h hk h1, if_pos (by omega)]
    · obtain rfl : k = n := by omega
      rw [firstN_none h, if_neg (by omega), if_pos hk]
def anyN (n : Nat) (p : Nat → Bool) : Bool := !allN n fun i => !p i
theorem anyN_first (p : Nat → Bool) (n : Nat) : decide (firstN p n ≥ 0) = anyN n p := by
  unfold anyN
  cases e : allN n fun i => !p i with
  | true =>
    rw [allN_iff] at e
    rw [firstN_none fun j hj => by simpa using e j hj]; rfl
  | false =>
    have : ∃ k, k < n ∧ p k = true ∧ ∀ j, j < k → p j = false := by
      induction n with
      | zero => simp [allN] at e
      | succ n ih =>
        cases e2 : allN n fun i => !p i with
        | false =>
          obtain ⟨k, h1, h2, h3⟩ := ih e2
          exact ⟨k, by omega, h2, h3⟩
        | true =>
          rw [allN_iff] at e2
          refine ⟨n, by omega, ?_, fun j hj => by simpa using e2 j hj⟩
          cases h : p n with
          | true => rfl
          | false =>
            have : (allN (n + 1) fun i => !p i) = true := allN_true fun j hj => by
              rcases Nat.lt_or_ge j n with h1 | h1
              · exact e2 j h1
              · rw [show j = n by omega, h]; rfl
            rw [this] at e; cases e
    obtain ⟨k, h1, h2, h3⟩ := this
    rw [firstN_at h3 h2 h1]
    simp
def vecB (l : List Int) : Bool := inB l.length 1 6 && numsB l
theorem vecB_in {l : List Int} (h : ¬ (1 ≤ (l.length : Int) ∧ (l.length : Int) ≤ 6)) : vecB l = false := by unfold vecB; rw [inB_false.2 h]; rfl
theorem vecB_is {l : List Int} (h : 1 ≤ (l.length : Int) ∧ (l.length : Int) ≤ 6) : vecB l = numsB l := by unfold vecB; rw [inB_true.2 h]; rfl
theorem vecB_no {l : List Int} (h : numsB l = false) : vecB l = false := by unfold vecB; rw [h, Bool.and_false]
theorem vecB_yes {l : List Int} (h : numsB l = true) : vecB l = inB l.length 1 6 := by unfold vecB; rw [h, Bool.and_true]
def mrowB (w : Nat) (l : List Int) : Bool := vecB l && (l.length == w)
theorem mrowB_vec {w : Nat} {l : List Int} (h : vecB l = false) : mrowB w l = false := by unfold mrowB; rw [h]; rfl
theorem mrowB_len {w : Nat} {l : List Int} (h : ¬ (l.length : Int) = w) : mrowB w l = false := by
  have : (l.length == w) = false := by simp; omega
  unfold mrowB; rw [this, Bool.and_false]
theorem mrowB_is {w : Nat} {l : List Int} (h : vecB l = true) : mrowB w l = ((l.length : Int) == (w : Int)) := by
  unfold mrowB; rw [h, Bool.true_and]
  by_cases e : l.length = w
  · rw [e]; simp
  · rw [beq_eq_false_iff_ne.2 e, beq_eq_false_iff_ne.2 (by omega)]
theorem mrowB_yes {w : Nat} {l : List Int} (h : vecB l = true) (h2 : (l.length : Int) = w) : mrowB w l = true := by
  have : (l.length == w) = true := by simp; omega
  unfold mrowB; rw [h, this]; rfl
def matB (m : List (List Int)) : Bool := inB m.length 1 6 && allN m.length fun i => mrowB (rowAt m 0).length (rowAt m i)
theorem matB_in {m : List (List Int)} (h : ¬ (1 ≤ (m.length : Int) ∧ (m.length : Int) ≤ 6)) : matB m = false := by unfold matB; rw [inB_false.2 h]; rfl
theorem matB_is {m : List (List Int)} (h : 1 ≤ (m.length : Int) ∧ (m.length : Int) ≤ 6) : matB m = allN m.length fun i => mrowB (rowAt m 0).length (rowAt m i) := by unfold matB; rw [inB_true.2 h]; rfl
theorem matB_row {m : List (List Int)} {k : Nat} (hk : k < m.length) (h : mrowB (rowAt m 0).length (rowAt m k) = false) : matB m = false := by unfold matB; rw [allN_false hk h, Bool.and_false]
theorem matB_len {m : List (List Int)} (h : matB m = true) : (1 ≤ m.length ∧ m.length ≤ 6) ∧ (1 ≤ (rowAt m 0).length ∧ (rowAt m 0).length ≤ 6) := by
  unfold matB at h
  simp only [Bool.and_eq_true] at h
  have h1 := inB_true.1 h.1
  refine ⟨by omega, ?_⟩
  have h2 := allN_iff.1 h.2 0 (by omega)
  unfold mrowB vecB at h2
  simp only [Bool.and_eq_true] at h2
  have := inB_true.1 h2.1.1
  omega
theorem matB_row0 {m : List (List Int)} (h : ¬ (1 ≤ ((rowAt m 0).length : Int) ∧ ((rowAt m 0).length : Int) ≤ 6)) : matB m = false := by
  cases e : matB m with
  | false => rfl
  | true => have := (matB_len e).2; omega
def squB (m : List (List Int)) : Bool := matB m && (m.length == (rowAt m 0).length)
theorem squB_no {m : List (List Int)} (h : matB m = false) : squB m = false := by unfold squB; rw [h]; rfl
theorem squB_is {m : List (List Int)} (h : matB m = true) : squB m = ((m.length : Int) == ((rowAt m 0).length : Int)) := by
  unfold squB; rw [h, Bool.true_and]
  by_cases e : m.length = (rowAt m 0).length
  · rw [e]; simp
  · rw [beq_eq_false_iff_ne.2 e, beq_eq_false_iff_ne.2 (by omega)]
def bothM (p : List Int → List Int → Bool) (a b : List (List Int)) : Bool := a.length == b.length && allN a.length fun j => p (rowAt a j) (rowAt b j)
theorem bothM_len {p : List Int → List Int → Bool} {a b : List (List Int)} (h : ¬ (a.length : Int) = (b.length : Int)) : bothM p a b = false := by
  have : (a.length == b.length) = false := by simp; omega
  unfold bothM; rw [this]; rfl
theorem bothM_no {p : List Int → List Int → Bool} {a b : List (List Int)} {k : Nat} (hk : k < a.length) (h : p (rowAt a k) (rowAt b k) = false) : bothM p a b = false := by
  unfold bothM; rw [allN_false hk h, Bool.and_false]
theorem bothM_yes {p : List Int → List Int → Bool} {a b : List (List Int)} (hl : (a.length : Int) = (b.length : Int)) (h : ∀ j, j < a.length → p (rowAt a j) (rowAt b j) = true) : bothM p a b = true := by
  unfold bothM; rw [allN_true h]; simp; omega
def eqM (a b : List (List Int)) : Bool := bothM eqB a b
def wayB (a b : List (List Int)) : Bool := squB a && squB b && bothM pairB a b
theorem matB_nums {m : List (List Int)} (h : matB m = true) {k : Nat} (hk : k < m.length) : numsB (rowAt m k) = true := by
  unfold matB at h
  simp only [Bool.and_eq_true] at h
  have := allN_iff.1 h.2 k hk
  unfold mrowB vecB at this
  simp only [Bool.and_eq_true] at this
  exact this.1.2
theorem squB_mat {m : List (List Int)} (h : squB m = true) : matB m = true := by
  unfold squB at h; simp only [Bool.and_eq_true] at h; exact h.1
theorem way_ord {a b : List (List Int)} (ha : squB a = true) (hb : squB b = true) : bothM ordB a b = bothM pairB a b := by
  unfold bothM
  by_cases hl : a.length = b.length
  · congr 1
    exact allN_congr fun j hj => ordB_pairB (matB_nums (squB_mat ha) hj) (matB_nums (squB_mat hb) (by omega))
  · have : (a.length == b.length) = false := by simpa using hl
    rw [this]; rfl
theorem wayB_no1 {a b : List (List Int)} (h : squB a = false) : wayB a b = false := by unfold wayB; rw [h]; rfl
theorem wayB_no2 {a b : List (List Int)} (h : squB b = false) : wayB a b = false := by unfold wayB; rw [h, Bool.and_false]; rfl
theorem wayB_is {a b : List (List Int)} (ha : squB a = true) (hb : squB b = true) : wayB a b = bothM pairB a b := by unfold wayB; rw [ha, hb]; rfl
set_option linter.unusedSimpArgs false
set_option linter.unusedVariables false
abbrev vs (b : ByteArray) : V := .val (.string b)
set_option linter.unusedSimpArgs false
set_option linter.unusedVariables false
abbrev T3 := Int × Int × Int
abbrev tAt (l : List T3) (k : Nat) : T3 := l.getD k (0, 0, 0)
def t3 (t : T3) (j : Nat) : Int := if j = 0 then t.1 else if j = 1 then t.2.1 else t.2.2
def lowN (g : Nat → Int) (b : Int) : Nat → Int
  | 0 => b
  | k + 1 => min (lowN g b k) (g k)
def lowI (l : List T3) (b : Int) (k : Nat) : Int := lowN (fun j => (tAt l j).1) b k
def lowJ (l : List T3) (b : Int) (k : Nat) : Int := lowN (fun j => (tAt l j).2.1) b k
def normT (l : List T3) (i j : Int) (t : T3) : T3 := (t.1 - i, t.2.1 - j, t.2.2 - (tAt l 0).2.2)
def normL (l : List T3) : List T3 := l.map (normT l (lowI l 6 l.length) (lowJ l 6 l.length))
@[simp] theorem normL_len (l : List T3) : (normL l).length = l.length := by simp [normL]
set_option linter.unusedSimpArgs false
set_option linter.unusedVariables false
open Go.Proofs
set_option linter.unusedSimpArgs false
set_option linter.unusedVariables false
abbrev matAt (s : List (List (List Int))) (i : Nat) : List (List Int) := s.getD i []
abbrev mats (s : List (List (List Int))) : V := .seq 1 s.length fun i => rows (matAt s i)
def autF (a e : List Int) (s : List (List (List Int))) : Nat → V
  | 0 => ints a
  | 1 => ints e
  | _ => mats s
abbrev autV (a e : List Int) (s : List (List (List Int))) : V := .agg 3 (autF a e s)
set_option linter.unusedSimpArgs false
set_option linter.unusedVariables false
def dotV (a b : List Int) : Int := leastN (fun i => plusI (a.getD i 0) (b.getD i 0)) a.length
def stepV (m : List (List Int)) (v : List Int) : List Int := tab m.length fun i => dotV (rowAt m i) v
@[simp] theorem stepV_len (m : List (List Int)) (v : List Int) : (stepV m v).length = m.length := tab_len _ _
end Go.Proofs.Ytlomkebhopaliaa
namespace Go.Proofs.Ytlomkebhopaliaa
set_option linter.unusedSimpArgs false
set_option linter.unusedVariables false
open Go.ChangeShapes Go.WideShapes Go.ChangeAt Go.RowKit
theorem own : ownKnob Try.prog.godebug = none := by kernel_rfl
theorem laidOut : laidOutB Try.prog = true := by kernel_rfl
def IsRow (k : IntKind) (w : World) (a : Option Addr) (len cap : Nat) (zs : List Int) : Prop :=
  (a = none ∧ len = 0 ∧ cap = 0 ∧ zs = []) ∨
  ∃ x, a = some x ∧ len ≤ cap ∧ cap ≤ maxLen ∧ zs.length = cap ∧ (∀ i, i < zs.length → w.cell? (x.add i) = some (.int k (zs.getD i 0))) ∧ ∀ n ∈ zs, (Lit.int k n).wf = true
theorem IsRow.rd {w : World} {a : Option Addr} {len cap : Nat} {zs : List Int} (h : IsRow .i64 w a len cap zs) : ∃ l : List Int, Rd w (fun _ => True) (ints l) (.slice a len cap) := by
  rcases h with ⟨rfl, rfl, rfl, rfl⟩ | ⟨x, rfl, h1, _, h3, h4, _⟩
  · exact ⟨[], none, 0, rfl, Nat.le_refl _, fun h => by simp at h⟩
  · refine ⟨zs.take len, some x, cap, ?_, ?_, fun hp => ?_⟩
    · simp [h3, h1]
    · simp [h3, h1]
    · have hl : (zs.take len).length = len := by simp [h3, h1]
      rw [hl, Nat.mul_one] at hp ⊢
      have hx := h4 0 (by omega)
      have hs : x.spot = none := by
        have e : x.add 0 = x := rfl
        rw [e] at hx
        unfold World.cell? at hx
        split at hx
        · split at hx
          · cases hx
          · simpa using ‹¬ x.spot.isSome = true›
        · cases hx
      obtain ⟨b, off, spot⟩ := x
      simp only at hs; subst hs
      refine ⟨b, off, rfl, trivial, fun i hi => ⟨_, by rw [← add_none]; exact h4 i (by omega), ?_⟩⟩
      show Value.int .i64 _ = Value.int .i64 _
      congr 1
      simp [List.getD, hi]
theorem Fn.holds_true {P : Program} {f : FuncId} {vs : List V} (h : Fn P f vs (.one (.pv (vb true)))) {w : World} {us : List Value} (hr : RdL w (fun _ => True) vs us) :
    Calls P f us.toArray w fun e w' => e = .returned (.bool true) ∧ Below w.heap.size w w' :=
  (h.runs w (fun _ => True) us hr).mono fun e w' ⟨u, φ, he, hh, hs⟩ => ⟨by rw [he]; exact congrArg _ hs, hh.below⟩
open Go.ChangeShapes Go.WideShapes Go.ChangeAt Go.RowKit
set_option linter.unusedSimpArgs false
set_option linter.unusedVariables false
theorem spot_of_cell {w : World} {x : Addr} {v : Value} (h : w.cell? x = some v) : x.spot = none := by
  unfold World.cell? at h
  split at h
  · split at h
    · cases h
    · simpa using ‹¬ x.spot.isSome = true›
  · cases h
theorem add_zero_addr (x : Addr) : x.add 0 = x := rfl
section
variable {H : Type} {enc : TypeId × Value → H} {P : Program} {w : World} {base : Nat} {held : Bool}
end
open Go.ChangeShapes Go.WideShapes Go.ChangeAt Go.RowKit Go.Deep
set_option linter.unusedSimpArgs false
set_option linter.unusedVariables false
section
variable {H : Type} {enc : TypeId × Value → H} {P : Program} {w : World} {base : Nat} {held : Bool}
end
open Go.ChangeShapes Go.WideShapes Go.ChangeAt Go.RowKit Go.Deep Go.Joins
set_option linter.unusedSimpArgs false
set_option linter.unusedVariables false
section
variable {H : Type} {enc : TypeId × Value → H} {P : Program} {w : World} {base : Nat} {held : Bool}
end
end Go.Proofs.Ytlomkebhopaliaa
namespace Go.Proofs.Ytlomkebhopaliaa
set_option linter.unusedSimpArgs false
set_option linter.unusedVariables false
open Go.RowKit
def SlR (m : List Nat) : Slot → Slot → Prop
  | .one (.own id sz off len), .one (.own id' sz' off' len') => m[id']? = some id ∧ sz = sz' ∧ off = off' ∧ len = len'
  | .one (.ptr id off), .one (.ptr id' off') => m[id']? = some id ∧ off = off'
  | .one (.pv a), .one (.pv b) => VE a b
  | .one (.pin n f), .one (.pin n' g) => n' ≤ n ∧ ∀ i, i < n' → VE (f i) (g i)
  | .one (.mp b L), .one (.mp b' L') => b = b' ∧ L = L'
  | .one (.it b s p), .one (.it b' s' p') => b = b' ∧ s = s' ∧ p = p'
  | _, _ => False
def EntSR (m : List Nat) (σ : List (Nat × Slot)) : List (Nat × Slot) → Prop
  | [] => True
  | (t, v) :: r => (match lookup σ t with | some v0 => SlR m v0 v | none => False) ∧ EntSR m σ r
def EntHR (h : List (Option Blk)) : List Nat → List (Option Blk) → Prop
  | [], [] => True
  | _ :: m, none :: h' => EntHR h m h'
  | j :: m, some b' :: h' => (match h[j]? with | some (some b) => BE b b' | _ => False) ∧ EntHR h m h'
  | _, _ => False
def EntR (m : List Nat) (s s' : ASt) : Prop := s'.nt = s.nt ∧ m.Nodup ∧ EntSR m s.σ s'.σ ∧ EntHR s.h m s'.h
def ren (φ : List (Option (Nat × Nat))) (m : List Nat) : List (Option (Nat × Nat)) := m.map fun j => (φ[j]?).join
theorem ren_get {φ : List (Option (Nat × Nat))} {m : List Nat} {i j : Nat} {x : Option (Nat × Nat)} (h : m[i]? = some j) (hx : φ[j]? = some x) : (ren φ m)[i]? = some x := by
  simp [ren, h, hx]
theorem EntSR.get {m : List Nat} {σ : List (Nat × Slot)} : ∀ {τ : List (Nat × Slot)} {t : Nat} {v : Slot}, EntSR m σ τ → lookup τ t = some v → ∃ v0, lookup σ t = some v0 ∧ SlR m v0 v
  | [], _, _, _, h => by cases h
  | (k, x) :: r, t, v, he, h => by
    obtain ⟨h1, h2⟩ := he
    simp only [lookup] at h
    split at h
    · rename_i e; subst e; injection h with h; subst h
      split at h1
      · rename_i v0 hv; exact ⟨v0, hv, h1⟩
      · exact h1.elim
    · exact EntSR.get h2 h
theorem EntHR.len {h : List (Option Blk)} : ∀ {m : List Nat} {h' : List (Option Blk)}, EntHR h m h' → m.length = h'.length
  | [], [], _ => rfl
  | [], _ :: _, he => by cases ‹Option Blk› <;> exact he.elim
  | _ :: _, [], he => he.elim
  | _ :: m, none :: h', he => by simp [EntHR.len (m := m) (h' := h') he]
  | _ :: m, some _ :: h', he => by simp [EntHR.len (m := m) (h' := h') he.2]
theorem EntHR.get {h : List (Option Blk)} : ∀ {m : List Nat} {h' : List (Option Blk)} {i : Nat} {b' : Blk}, EntHR h m h' → h'[i]? = some (some b') → ∃ j b, m[i]? = some j ∧ h[j]? = some (some b) ∧ BE b b'
  | [], [], _, _, _, hi => by simp at hi
  | [], _ :: _, _, _, he, _ => by cases ‹Option Blk› <;> exact he.elim
  | _ :: _, [], _, _, he, _ => he.elim
  | j :: m, none :: h', i, b', he, hi => by
    cases i with
    | zero => simp at hi
    | succ i =>
      obtain ⟨j', b, h1, h2, h3⟩ := EntHR.get (m := m) (h' := h') he (by simpa using hi)
      exact ⟨j', b, by simpa using h1, h2, h3⟩
  | j :: m, some b0 :: h', i, b', he, hi => by
    obtain ⟨h0, he⟩ := he
    cases i with
    | zero =>
      simp at hi; subst hi
      split at h0
      · rename_i b hb; exact ⟨j, b, by simp, hb, h0⟩
      · exact h0.elim
    | succ i =>
      obtain ⟨j', b, h1, h2, h3⟩ := EntHR.get (m := m) (h' := h') he (by simpa using hi)
      exact ⟨j', b, by simpa using h1, h2, h3⟩
theorem SlR.rd {w : World} {S S' : Nat → Prop} {φ : List (Option (Nat × Nat))} {m : List Nat} {x y : Slot} {u : Value} (hs : ∀ b, S b → S' b) (h : SlR m x y) (hr : RdSlot w S φ x u) : RdSlot w S' (ren φ m) y u := by
  have hs' : ∀ b, S b → b < w.heap.size → S' b ∧ w.heap[b]? = w.heap[b]? := fun b hb _ => ⟨hs b hb, rfl⟩
  unfold SlR at h
  split at h
  · obtain ⟨hm, rfl, rfl, rfl⟩ := h
    rcases hr with ⟨h1, h2⟩ | ⟨b, c, z, h1, h2⟩
    · exact .inl ⟨ren_get hm h1, h2⟩
    · exact .inr ⟨b, c, z, ren_get hm h1, h2⟩
  · obtain ⟨hm, rfl⟩ := h
    obtain ⟨b, z, h1, h2⟩ := hr
    exact ⟨b, z, ren_get hm h1, h2⟩
  · exact VE.rd _ _ _ h (Rd.mono hs' _ _ hr)
  · obtain ⟨hn, he⟩ := h
    obtain ⟨b, off, rfl, hr⟩ := hr
    refine ⟨b, off, rfl, fun i hi => ?_⟩
    obtain ⟨hb, x, hx, hx'⟩ := hr i (by omega)
    exact ⟨hs b hb, x, hx, VE.rd _ _ _ (he i hi) (Rd.mono hs' _ _ hx')⟩
  · obtain ⟨rfl, rfl⟩ := h
    exact ⟨hr.1, hs _ hr.2.1, hr.2.2⟩
  · obtain ⟨rfl, rfl, rfl⟩ := h
    exact ⟨hr.1, hs _ hr.2.1, hr.2.2⟩
  · exact h.elim
theorem EntR.sim {m : List Nat} {s s' : ASt} (h : EntR m s s') {w0 : World} {S0 : Nat → Prop} {a : Act} {w : World} (hs : Sim w0 S0 s a w) : Sim w0 S0 s' a w := by
  obtain ⟨φ, sim⟩ := hs
  obtain ⟨h1, hnd, h2, h3⟩ := h
  have old : ∀ (i b z : Nat) (blk' : Blk), s'.h[i]? = some (some blk') → (ren φ m)[i]? = some (some (b, z)) → ∃ j blk, m[i]? = some j ∧ s.h[j]? = some (some blk) ∧ φ[j]? = some (some (b, z)) := fun i b z blk' hi hp => by
    obtain ⟨j, b0, h4, h5, _⟩ := h3.get hi
    refine ⟨j, b0, h4, h5, ?_⟩
    have : j < φ.length := by rw [sim.heap.len]; exact (List.getElem?_eq_some_iff.1 h5).1
    obtain ⟨x, hx⟩ : ∃ x, φ[j]? = some x := ⟨_, List.getElem?_eq_getElem this⟩
    rw [ren_get h4 hx] at hp
    rw [hx, Option.some.inj hp]
  have hst : ∀ b, Stab w0 S0 s.h φ b → Stab w0 S0 s'.h (ren φ m) b := fun b hb => ⟨hb.1, fun ⟨id, blk, z, hi, hp⟩ => by
    obtain ⟨j, b0, _, h5, h6⟩ := old id b z blk hi hp
    exact hb.2 ⟨j, b0, z, h5, h6⟩⟩
  have hs : ∀ b, Stab w0 S0 s.h φ b → b < w.heap.size → Stab w0 S0 s'.h (ren φ m) b ∧ w.heap[b]? = w.heap[b]? := fun b hb _ => ⟨hst b hb, rfl⟩
  refine ⟨ren φ m, ⟨⟨by simp [ren, h3.len], sim.heap.below, fun id blk hi => ?_, fun i j bi bj b z z' hi hj hi' hj' => ?_⟩, fun t v ht => ?_, sim.defers, by rw [sim.size, h1]⟩⟩
  · obtain ⟨j, b0, h4, h5, h6⟩ := h3.get hi
    rcases sim.heap.blk j b0 h5 with ⟨h7, h8⟩ | ⟨b, cur, h7, h8, h9, h10, h11⟩
    · exact .inl ⟨ren_get h4 h7, by have := h6.2.1; omega⟩
    · refine .inr ⟨b, cur, ren_get h4 h7, h8, by rw [← h6.1]; exact h9, by have := h6.2.1; omega, fun i hi' => ?_⟩
      obtain ⟨x, hx, hr⟩ := h11 i (by have := h6.2.1; omega)
      exact ⟨x, hx, VE.rd _ _ _ (h6.2.2 i hi') (Rd.mono hs _ _ hr)⟩
  · obtain ⟨j1, b1, h4, h5, h6⟩ := old i b z bi hi hi'
    obtain ⟨j2, b2, h7, h8, h9⟩ := old j b z' bj hj hj'
    have e := sim.heap.inj j1 j2 b1 b2 b z z' h5 h8 h6 h9
    subst e
    exact (List.getElem?_inj (List.getElem?_eq_some_iff.1 h4).1 hnd).1 (h4.trans h7.symm)
  · obtain ⟨v0, h4, h5⟩ := h2.get ht
    obtain ⟨u, hu, hr⟩ := sim.slots t v0 h4
    exact ⟨u, hu, h5.rd hst hr⟩
theorem AWP.entR [Cx] {N : Nat} {P : Program} {c : Code} {Q : Exit → ASt → Prop} {s : ASt} (m : List Nat) (s' : ASt) (h : EntR m s s') (h' : AWP N P c Q s') : AWP N P c Q s :=
  fun w0 S0 a w hN ⟨w1, hR, sim⟩ => h' w0 S0 a w hN ⟨w1, hR, h.sim sim⟩
theorem AWP.loop_entR [Cx] {N : Nat} {P : Program} {c : Code} {Q : Exit → ASt → Prop} {s : ASt} {ι : Type} (m0 : List Nat) (inv : ι → ASt) (G : ι → Prop) (μ : ι → Nat) (x : ι) (hG : G x) (h0 : EntR m0 s (inv x))
    (h : ∀ x, G x → AWP N P c (thenQ (fun s' => ∃ y, G y ∧ μ y < μ x ∧ ∃ m, EntR m s' (inv y)) Q) (inv x)) : AWP N P (.loop c) Q s := by
  refine AWP.entR m0 _ h0 (AWP.loop inv μ G x hG fun x hx w0 S0 a w hN sim => wp_mono (h x hx w0 S0 a w hN sim) fun e a' w' ⟨s', hq, sim'⟩ => ?_)
  cases e with
  | normal =>
    obtain ⟨y, hy, hlt, m, he⟩ := hq
    exact ⟨s', ⟨y, hy, hlt, fun w0 S0 a w hs => he.sim hs⟩, sim'⟩
  | _ => exact ⟨s', hq, sim'⟩
theorem AWP.virtual [Cx] {N : Nat} {P : Program} {c : Code} {Q : Exit → ASt → Prop} {s : ASt} (t : Nat) (e : TypeId) (sz : Nat) (h : lookup s.σ t = some (sc (.slice none 0 0)))
    (h' : AWP N P c Q ⟨upd s.σ t (.one (.own s.h.length sz 0 0)), s.h ++ [some ⟨e, 0, fun _ => .val undef⟩], s.nt⟩) : AWP N P c Q s := by
  refine AWP.of_step fun w0 S0 φ a w hN sim => ⟨_, φ ++ [none], h', ?_⟩
  have sv := sim.virtual e
  refine ⟨sv.heap, fun t' v ht => ?_, sv.defers, sv.size⟩
  rw [lookup_upd] at ht
  split at ht
  · rename_i et; subst et; injection ht with ht; subst ht
    obtain ⟨u, hu, hr⟩ := sv.slots t' _ h
    refine ⟨u, hu, .inl ⟨?_, rfl, rfl, hr⟩⟩
    rw [List.getElem?_append_right (by rw [sim.heap.len]; exact Nat.le_refl _), sim.heap.len]; simp
  · exact sv.slots t' v ht
theorem AWP.freeze [Cx] {N : Nat} {P : Program} {c : Code} {Q : Exit → ASt → Prop} {s : ASt} (t id : Nat) {b : Blk} (ht : lookup s.σ t = some (.one (.ptr id 0))) (hb : s.h[id]? = some (some b))
    (h' : AWP N P c Q ⟨upd s.σ t (.one (.pv (.pin b.n b.f))), s.h.set id none, s.nt⟩) : AWP N P c Q s := by
  refine AWP.of_step fun w0 S0 φ a w hN sim => ⟨_, φ, h', ?_⟩
  obtain ⟨sv, hst⟩ := sim.letgo id
  refine ⟨sv.heap, fun t' v hv => ?_, sv.defers, sv.size⟩
  rw [lookup_upd] at hv
  split at hv
  · rename_i et; subst et; injection hv with hv; subst hv
    obtain ⟨u, hu, b', z, hφ, rfl⟩ := sim.slots t' _ ht
    obtain ⟨cur, _, hB, hcur, hn, hx⟩ := sim.blkAt hb hφ
    refine ⟨_, hu, b', 0, rfl, fun i hi => ⟨⟨.inr hB, ?_⟩, ?_⟩⟩
    · rintro ⟨i, x, z', h1, h2⟩
      by_cases ei : id = i
      · subst ei
        have := (List.getElem?_eq_some_iff.1 hb).1
        simp [this] at h1
      · simp only [] at h1
        rw [List.getElem?_set_ne ei] at h1
        exact ei (sim.heap.inj id i b x b' _ _ hb h1 hφ h2)
    · obtain ⟨x, hx1, hx2⟩ := hx i hi
      exact ⟨x, by rw [Nat.zero_add]; exact cell_of_blk hcur hx1, Rd.mono (fun b hb _ => ⟨hst b hb, rfl⟩) _ _ hx2⟩
  · exact sv.slots t' v hv
theorem grow_ve {k i : Nat} {g : Nat → V} {v z : V} (hi : i < k + 1) (h : VE v (g k)) : VE (if i < k then g i else if i - k = 0 then v else z) (g i) := by
  by_cases h1 : i < k
  · rw [if_pos h1]; exact VE.rfl' _
  · rw [if_neg h1, if_pos (by omega), show i = k by omega]; exact h
theorem grow_be {e : TypeId} {k : Nat} {g : Nat → V} {v z : V} (h : VE v (g k)) : BE ⟨e, k + 1, fun i => if i < k then g i else if i - k = 0 then v else z⟩ ⟨e, k + 1, g⟩ :=
  ⟨rfl, Nat.le_refl _, fun _ hi => grow_ve hi h⟩
set_option linter.unusedSimpArgs false
set_option linter.unusedVariables false
open Go.RowKit
section
variable {P : Program} {w0 : World} {S0 : Nat → Prop}
theorem evOps_then {l tl : List Oper} : ∀ (os : List Oper) {K : ASt → Prop} {s : ASt} {φ : List (Option (Nat × Nat))} {a : Act} {w : World}, SimAt w0 S0 s φ a w → evOps P false l os K s → ∀ {Q : Exit → Act → World → Prop},
    (∀ s' a' w', K s' → Sim w0 S0 s' a' w' → wpList P l.toArray Q tl a' w') → wpList P l.toArray Q (os ++ tl) a w
  | [], K, s, φ, a, w, sim, h, Q, hn => hn _ _ _ h ⟨φ, sim⟩
  | o :: os, K, s, φ, a, w, sim, h, Q, hn => by
    have hrest : ∀ s' a' w', evOps P false l os K s' → Sim w0 S0 s' a' w' → wpList P l.toArray Q (os ++ tl) a' w' := fun s' a' w' h' ⟨φ', sim'⟩ => evOps_then os sim' h' hn
    have hskip : ∀ s', SimAt w0 S0 s' φ a w → skipOp o (evOps P false l os K) s' → wpList P l.toArray Q (os ++ tl) (a.put o.dst undef) w := fun s' sim' h' => by
      unfold skipOp at h'
      split at h'
      · rename_i d hd
        rw [hd]
        exact hrest _ _ _ h'.2 ⟨φ, sim'.put h'.1 rfl⟩
      · rename_i hd
        rw [hd]
        exact hrest _ _ _ h' ⟨φ, sim'⟩
    unfold evOps at h
    show wpList P l.toArray Q (o :: (os ++ tl)) a w
    split at h
    · rename_i hg
      unfold wpList
      rw [if_pos (by simp [Region.wanted, hg])]
      exact .inl (evOp_plain sim h hrest)
    · rename_i j want hg
      split at h
      · rename_i d hd
        split at h
        · rename_i b hb
          have hy := yielded_bool sim hd hb
          have say : ∀ c, b = c → SimAt w0 S0 (putS s d (sc (.bool c))) φ a w := fun c e => sim.say (by rw [hb, e])
          unfold wpList
          by_cases hbw : b = want
          · rw [if_pos (by simp [Region.wanted, hg, hy, hbw])]
            exact .inl (evOp_plain (say _ hbw) (h.1 hbw) hrest)
          · rw [if_neg (by simp [Region.wanted, hg, hy, hbw])]
            have hb' : b = !want := by cases b <;> cases want <;> simp_all
            exact hskip _ (say _ hb') (h.2 hb')
        · rename_i x hb
          have hy := yielded_bool sim hd hb
          unfold wpList
          rw [if_neg (by simp [Region.wanted, hg, hy])]
          exact hskip _ sim h
        · exact h.elim
      · exact h.elim
def OpRule (N : Nat) (P : Program) (o : Oper) (X : ASt → (ASt → Prop) → Prop) : Prop :=
  o.guard = none ∧ ∀ (w0 : World) (S0 : Nat → Prop) (s : ASt) (φ : List (Option (Nat × Nat))) (a : Act) (w : World) (K : ASt → Prop) (next : Act → World → Prop) (Q : Exit → Act → World → Prop), w0.heap.size = N → SimAt w0 S0 s φ a w → X s K →
    (∀ s' a' w', K s' → Sim w0 S0 s' a' w' → next a' w') → o.wp P a w next Q
theorem AWP.region_rule [Cx] {N : Nat} {id : Nat} {o : Oper} {os1 os2 : List Oper} {X : ASt → (ASt → Prop) → Prop} {Q : Exit → ASt → Prop} {s : ASt} (hX : OpRule N P o X)
    (h : evOps P false (os1 ++ o :: os2) os1 (fun s' => X s' (evOps P false (os1 ++ o :: os2) os2 (Q .normal))) s) : AWP N P (.region id (os1 ++ o :: os2).toArray false) Q s := by
  refine AWP.of0 ?_
  rintro w0 S0 a w hN ⟨φ, sim⟩
  refine wp_region_lit (evOps_then os1 sim h fun s' a' w' hK ⟨φ', sim'⟩ => ?_)
  unfold wpList
  rw [if_pos (by simp [Region.wanted, hX.1])]
  refine .inl (hX.2 w0 S0 s' φ' a' w' _ _ _ hN sim' hK fun s'' a'' w'' hK' ⟨φ'', sim''⟩ => ?_)
  exact evOps_plain os2 sim'' hK' fun s3 a3 w3 hK3 sim3 => ⟨s3, hK3, sim3⟩
def eqNilK (s : ASt) (x : Operand) (d : Nat) (K : ASt → Prop) : Prop :=
  match opd s x with
  | some (.one (.pv (.seq sz n _))) => d < s.nt ∧ ∀ b : Bool, (b = true → n * sz = 0) → K (putS s d (sc (.bool b)))
  | _ => False
theorem eqNil_rule {N : Nat} {x : Operand} {d t t' ty : Nat} {pos : String} {after : Array Edge} {e : TypeId} (ht : P.underlying t = some (.slice e)) :
    OpRule N P ⟨some d, .binOp .eql t x (.const (.slice none 0 0)) t', ty, pos, after, none⟩ (fun s K => eqNilK s x d K) := by
  refine ⟨rfl, fun w0 S0 s φ a w K next Q hN sim h hn => ?_⟩
  replace h : eqNilK s x d K := h
  unfold eqNilK at h
  split at h
  · rename_i sz n f hx
    obtain ⟨hd, h⟩ := h
    obtain ⟨A, c, ev, _, hp⟩ := sim.opd hx
    have hrun : (execOp a.eval ⟨some d, .binOp .eql t x (.const (.slice none 0 0)) t', ty, pos, after, none⟩).run P w = .ok (.value (.bool A.isNone)) w := by
      have hg : eqGuard .eql t x (.const (.slice none 0 0)) (.slice A n c) (.slice none 0 0) = pure () := rfl
      have hq := Lib.run_eql_slice_nil (P := P) w t e A n c 0 0 ht
      unfold execOp
      simp only [ev, show a.eval (.const (.slice none 0 0)) = .slice none 0 0 from rfl, hg, Sem.run_bind, Sem.run_pure, Result.andThen_ok, hq]
    unfold Oper.wp
    rw [hrun, Oper.upon_value]
    refine hn _ _ _ (h A.isNone fun hb => ?_) ⟨φ, sim.put hd rfl⟩
    rcases Nat.eq_zero_or_pos (n * sz) with h0 | h0
    · exact h0
    · obtain ⟨b, off, rfl, _⟩ := hp h0; cases hb
  · exact h.elim
def noCall (o : Oper) : Bool := match o.op with | .call ⟨.value _, _, _⟩ => false | _ => true
structure AllBut (b : Nat) (w w' : World) : Prop where
  os : w'.os = w.os
  tape : w'.tape = w.tape
  output : w'.output = w.output
  size : w.heap.size ≤ w'.heap.size
  oth : ∀ k, k < w.heap.size → k ≠ b → w'.heap[k]? = w.heap[k]?
structure FnMk (P : Program) (f : FuncId) (n : Nat) (blk blk' : Blk) (u v : Value) : Prop where
  entry : ∀ (args : Array Value) (w : World), (callFunc f args).run P w = .ok (.enter f args) w
  elem : blk'.elem = blk.elem
  le : blk'.n ≤ blk.n
  runsNil : n = 0 → ∀ w, Calls P f #[.slice none 0 0, u] w fun e w' => e = .returned v ∧ Below w.heap.size w w'
  runsAt : ∀ (w : World) (b c : Nat) (cur : Array Value), w.heap[b]? = some (.cells cur blk.elem (0, 0)) → blk.n ≤ cur.size → Calls P f #[.slice (some ⟨b, 0, none⟩) n c, u] w fun e w' =>
    e = .returned v ∧ AllBut b w w' ∧ ∃ cur' : Array Value, w'.heap[b]? = some (.cells cur' blk.elem (0, 0)) ∧ cur'.size = cur.size ∧ ∀ i, i < blk'.n → ∃ x, cur'[i]? = some x ∧ blk'.f i = .val x
theorem eqNil_go {x : Operand} {d : Nat} {s : ASt} {K : ASt → Prop} {sz n : Nat} {f : Nat → V} (hx : opd s x = some (.one (.pv (.seq sz n f)))) (hd : d < s.nt) (h : ∀ b : Bool, (b = true → n * sz = 0) → K (putS s d (sc (.bool b)))) : eqNilK s x d K := by
  unfold eqNilK; rw [hx]; exact ⟨hd, h⟩
theorem AWP.region_eqNil [Cx] {N : Nat} {id : Nat} {o1 : Oper} {x : Operand} {d t t' ty : Nat} {pos : String} {after : Array Edge} {e : TypeId} {Q : Exit → ASt → Prop} {s : ASt} (ht : P.underlying t = some (.slice e))
    (h : evOps P false [o1, ⟨some d, .binOp .eql t x (.const (.slice none 0 0)) t', ty, pos, after, none⟩] [o1] (fun s' => eqNilK s' x d (evOps P false [o1, ⟨some d, .binOp .eql t x (.const (.slice none 0 0)) t', ty, pos, after, none⟩] [] (Q .normal))) s) :
    AWP N P (.region id #[o1, ⟨some d, .binOp .eql t x (.const (.slice none 0 0)) t', ty, pos, after, none⟩] false) Q s :=
  AWP.region_rule (os1 := [o1]) (os2 := []) (eqNil_rule ht) h
def VEL : List V → List V → Prop
  | [], [] => True
  | v :: vs, v' :: vs' => VE v v' ∧ VEL vs vs'
  | _, _ => False
theorem VEL.rd {w : World} {S : Nat → Prop} : ∀ (vs vs' : List V) (us : List Value), VEL vs vs' → RdL w S vs us → RdL w S vs' us
  | [], [], _, _, h => h
  | [], _ :: _, _, e, _ => e.elim
  | _ :: _, [], _, e, _ => e.elim
  | _ :: _, _ :: _, [], _, h => h.elim
  | v :: vs, v' :: vs', u :: us, e, h => ⟨VE.rd v v' u e.1 h.1, VEL.rd vs vs' us e.2 h.2⟩
theorem Fn.of_ve {f : FuncId} {vs vs' : List V} {r : Res} (h : Fn P f vs r) (e : VEL vs' vs) : Fn P f vs' r := ⟨h.entry, fun w S us hr => h.runs w S us (VEL.rd vs' vs us e hr)⟩
end
end Go.Proofs.Ytlomkebhopaliaa
