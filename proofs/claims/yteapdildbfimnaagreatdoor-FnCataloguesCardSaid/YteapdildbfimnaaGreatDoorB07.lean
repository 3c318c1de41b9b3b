/- Parts of the proof of LawFnCatalogues: contracts of functions, laws of an abstract state, plain facts. No conditions. -/
import Derived.Test.YteapdildbfimnaaGreatDoorB06
import Derived.Shelf.Spec.SlicesGrow
namespace Go.Proofs.YteapdildbfimnaaGreatDoor
open Go.RowKit Go.Proofs Go.Sort
set_option linter.unusedSimpArgs false
set_option linter.unusedVariables false

/-- A function that leaves some of the cells of its first argument, a slice of n elements from the block's head, at the head, and hands the slice of these back. -/
structure FnCut (P : Program) (f : FuncId) (n : Nat) (F : Nat → V) (u : Value) (good : (Nat → Nat) → Nat → Prop) : Prop where
  entry : ∀ (args : Array Value) (w : World), (callFunc f args).run P w = .ok (.enter f args) w
  nil : n = 0 → good id 0 ∧ ∀ w, Gl w → Calls P f #[.slice none 0 0, u] w fun e w' => e = .returned (.slice none 0 0) ∧ RowKit.Below w.heap.size w w'
  runs : ∀ (w0 w : World) (b c : Nat) (cur : Array Value) (e : TypeId), Gl w0 → RowKit.Below w0.heap.size w0 w → w0.heap.size ≤ b → w.heap[b]? = some (.cells cur e (0, 0)) → n ≤ cur.size → n ≤ c → (∀ i, i < n → ∃ x, cur[i]? = some x ∧ Rd w (fun j => j ≠ b) (F i) x) →
    Calls P f #[.slice (some ⟨b, 0, none⟩) n c, u] w fun e' w' => ∃ (π : Nat → Nat) (n' : Nat), e' = .returned (.slice (some ⟨b, 0, none⟩) n' c) ∧ n' ≤ n ∧ AllBut b w w' ∧ good π n' ∧ (∀ i, i < n' → π i < n) ∧ ∃ cur' : Array Value, w'.heap[b]? = some (.cells cur' e (0, 0)) ∧ cur'.size = cur.size ∧ ∀ i, i < n' → cur'[i]? = cur[π i]?

section
variable {P : Program} {N : Nat}
def cutFK (P : Program) (f : FuncId) (x y : Operand) (d : Nat) (s : ASt) (K : ASt → Prop) : Prop :=
  ∃ (id n : Nat) (blk : Blk) (u : Value) (good : (Nat → Nat) → Nat → Prop), opd s x = some (.one (.own id 1 0 n)) ∧ s.h[id]? = some (some blk) ∧ n ≤ blk.n ∧ opd s y = some (sc u) ∧ d < s.nt ∧ FnCut P f n (fun i => blk.f i) u good ∧
    ∀ π n', good π n' → n' ≤ n → (∀ i, i < n' → π i < n) → K ⟨upd s.σ d (.one (.own id 1 0 n')), s.h.set id (some ⟨blk.elem, n', fun i => blk.f (π i)⟩), s.nt⟩

theorem cutF_rule {f : FuncId} {x y : Operand} {d ty : Nat} {ts : Array TypeId} {pos : String} {after : Array Edge} :
    OpRule N P ⟨some d, .call ⟨.value (.func f), #[x, y], ts⟩, ty, pos, after, none⟩ (fun s K => cutFK P f x y d s K) := by
  refine ⟨rfl, fun w0 S0 s φ a w K next Q hN sim h hn => ?_⟩
  obtain ⟨id, n, blk, u, good, hx, hb, hle, hy, hd, hf, hK⟩ := h
  have ey : a.eval y = u := sim.opd hy
  have hrun : (execOp a.eval ⟨some d, .call ⟨.value (.func f), #[x, y], ts⟩, ty, pos, after, none⟩).run P w = .ok (.enter f #[a.eval x, u]) w := by
    have e : execOp a.eval ⟨some d, .call ⟨.value (.func f), #[x, y], ts⟩, ty, pos, after, none⟩ = callFunc f (#[] ++ #[x, y].map a.eval ++ #[]) := rfl
    rw [e, hf.entry]
    congr 2
    rw [← Array.toList_inj]
    simp [ey]
  unfold Oper.wp
  rw [hrun, Oper.upon_enter]
  rcases sim.opd hx with ⟨hφ, _, hl, ev⟩ | ⟨b, c, z, hφ, ev, hc, hc2, hc3⟩
  · rw [ev]
    subst hl
    obtain ⟨hg, hr⟩ := hf.nil rfl
    refine (hr w sim.gl).mono ?_
    rintro e w' ⟨rfl, hbel⟩
    refine hn _ _ _ (hK _root_.id 0 hg (Nat.le_refl _) fun i hi => hi) ⟨φ, ?_⟩
    refine ((sim.after hbel).unsaid hb hφ rfl).put hd ?_
    exact .inl ⟨hφ, rfl, rfl, rfl⟩
  · rw [ev]
    obtain ⟨cur, hz, hB, hcur, hbn, hcs⟩ := sim.blkAt hb hφ
    have hcs' : ∀ i, i < n → ∃ x, cur[i]? = some x ∧ Rd w (fun j => j ≠ b) (blk.f i) x := fun i hi => by
      obtain ⟨x, h1, h2⟩ := hcs i (by omega)
      exact ⟨x, h1, Rd.mono (fun j hj _ => ⟨fun e => hj.2 ⟨id, blk, z, hb, e ▸ hφ⟩, rfl⟩) _ _ h2⟩
    refine (hf.runs w0 w b c cur blk.elem sim.defers.2 sim.heap.below hB hcur (by omega) hc hcs').mono ?_
    rintro e w' ⟨π, n', rfl, hn', hall, hg, hπ, cur', hcur', hsz, hcells⟩
    refine hn _ _ _ (hK π n' hg hn' hπ) ⟨φ, ?_⟩
    refine (sim.write hb hφ (blk' := ⟨blk.elem, n', fun i => blk.f (π i)⟩) hcur' (by omega) hall.os hall.tape hall.output hall.size hall.oth rfl (by show n' ≤ _; omega) fun i hi => ?_).put hd ?_
    · have hi : i < n' := hi
      obtain ⟨x, h1, h2⟩ := hcs (π i) (by have := hπ i hi; omega)
      exact ⟨x, by rw [hcells i hi]; exact h1, h2⟩
    · exact .inr ⟨b, c, z, hφ, rfl, by omega, hc2, hc3⟩

theorem ax_cutF [Cx] {K : ASt → Prop} {f : FuncId} {x y : Operand} {d ty : Nat} {ts : Array TypeId} {pos : String} {after : Array Edge} {s : ASt} {id n : Nat} {blk : Blk} {u : Value} {good : (Nat → Nat) → Nat → Prop} (hx : opd s x = some (.one (.own id 1 0 n))) (hb : s.h[id]? = some (some blk)) (hle : n ≤ blk.n) (hy : opd s y = some (sc u)) (hd : d < s.nt)
    (hf : FnCut P f n (fun i => blk.f i) u good) (h : ∀ π n', good π n' → n' ≤ n → (∀ i, i < n' → π i < n) → K ⟨upd s.σ d (.one (.own id 1 0 n')), s.h.set id (some ⟨blk.elem, n', fun i => blk.f (π i)⟩), s.nt⟩) : Ax N P K ⟨some d, .call ⟨.value (.func f), #[x, y], ts⟩, ty, pos, after, none⟩ s :=
  ax_rule cutF_rule ⟨id, n, blk, u, good, hx, hb, hle, hy, hd, hf, h⟩
end

set_option maxHeartbeats 1000000 in
set_option maxRecDepth 100000 in
theorem compact_nil (u : Value) (w : World) : Calls Tryz.prog 49 #[.slice none 0 0, u] w fun e w' => e = .returned (.slice none 0 0) ∧ w' = w := by
  go_enter Tryz.func49, Tryz.ntmps49
  go_wp2
  go_ret
  exact ⟨rfl, rfl⟩

theorem kL_mono (M : List (List T3)) : ∀ m, (kL M m).Pairwise (· < ·)
  | 0 => List.Pairwise.nil
  | m + 1 => by
    unfold kL
    split
    · refine List.pairwise_append.2 ⟨kL_mono M m, List.pairwise_singleton _ _, fun a ha b hb => ?_⟩
      rw [List.mem_singleton] at hb
      subst hb
      exact kL_lt M _ a ha
    · exact kL_mono M m

theorem compact_cut (M : List (List T3)) (F : Nat → V) (hF : ∀ i, i < M.length → isT (tsAt M i) (F i)) (hL : ∀ i, i < M.length → 1 ≤ (tsAt M i).length ∧ (tsAt M i).length ≤ 12 ∧ Sml (tsAt M i)) (hl : M.length ≤ 1099511627776) :
    FnCut Tryz.prog 49 M.length F (.func (.func 50) #[] #[]) (fun π n' => n' = (kL M M.length).length ∧ ∀ j, j < n' → π j = (kL M M.length).getD j 0) := by
  refine ⟨Tryz.call49, fun h0 => ⟨?_, fun w hg => ?_⟩, fun w0 w b c cur e hg hbel hB hcur hn hc hcs => ?_⟩
  · have : M = [] := List.length_eq_zero_iff.1 h0
    subst this
    exact ⟨rfl, fun j hj => by omega⟩
  · refine (compact_nil _ w).mono ?_
    rintro e w' ⟨rfl, rfl⟩
    exact ⟨rfl, RowKit.Below.refl _ _⟩
  · have hcj : ∀ j, j < M.length → cur[j]? = some (cur[j]!) := fun j hj => by
      rw [getElem!_pos cur j (by omega), Array.getElem?_eq_getElem (by omega)]
    have hrow : ∀ x, x < M.length → ∀ (W : World), (∀ k, k ≠ b → k < w.heap.size → W.heap[k]? = w.heap[k]?) → w.heap.size ≤ W.heap.size → TRow W (cur[x]!) (tsAt M x) := fun x hx W hW hs => by
      obtain ⟨v, h1, h2⟩ := hcs x hx
      rw [hcj x hx] at h1
      injection h1 with h1
      have := (trow_of (hF x hx) (hL x hx).1 h2 hW hs).1
      rw [← h1] at this
      exact this
    have hone : ∀ j, j < M.length → ∃ A m c', cur[j]! = .slice A m c' := fun j hj => by
      obtain ⟨b', off, c', e, _⟩ := (hrow j hj w (fun _ _ _ => rfl) (Nat.le_refl _)).at'
      exact ⟨_, _, _, e⟩
    have hcat : ∀ wr, AllBut b w wr → ∀ i j, i < M.length → j < M.length → Calls Tryz.prog 50 #[cur[i]!, cur[j]!] wr fun e w' => e = .returned (.bool (decide (tsAt M i = tsAt M j))) ∧ ∃ q os, w' = grow (wr.drewN q) os := fun wr hab i j hi hj => by
      have hg' : Gl wr := hg.keep ⟨hab.os.trans hbel.os, hab.tape.trans hbel.tape, hab.output.trans hbel.output, Nat.le_trans hbel.size hab.size, fun k hk => by rw [hab.oth k (by have := hbel.size; omega) (by omega)]; exact hbel.block k hk⟩
      exact cat1_walk (hrow i hi wr (fun k hne hk => hab.oth k hk hne) hab.size) (hrow j hj wr (fun k hne hk => hab.oth k hk hne) hab.size) (hL i hi).2.2 (hL j hj).2.2 (hL i hi).2.1 (hL j hj).2.1 hg'
    refine (compact_walk M w b c cur e hcur hn hc hl hcat hone).mono ?_
    rintro e' w' ⟨rfl, hab, cur', h1, h2, h3⟩
    refine ⟨fun j => (kL M M.length).getD j 0, _, rfl, kL_len M _, hab, ⟨rfl, fun j hj => rfl⟩, fun i hi => ?_, cur', h1, h2, fun i hi => ?_⟩
    · show (kL M M.length).getD i 0 < M.length
      rw [List.getD, List.getElem?_eq_getElem hi]
      exact kL_lt M _ _ (List.getElem_mem hi)
    · have hlt : (kL M M.length).getD i 0 < M.length := by
        rw [List.getD, List.getElem?_eq_getElem hi]
        exact kL_lt M _ _ (List.getElem_mem hi)
      rw [h3 i hi]
      exact (hcj _ hlt).symm

/-! ### catalogued -/
theorem cloneR_fn (l : List T3) (hl : l.length ≤ 1099511627776) : Fn Tryz.prog 46 [terms l] (.one (.fr 3 l.length (bterms l))) := by
  refine Fn.of_body Tryz.call46 Tryz.func46 rfl Tryz.ntmps46 (ts := [2]) rfl (by simp) rfl (fun N => ?_)
  repeat' (first | ((with_reducible show eqNilK _ _ _ _); refine eqNil_go rfl (Nat.le_of_ble_eq_true rfl) ?_; intro nb hnb; simp only [putS, upd, bterms, Nat.reduceEqDiff, ↓reduceIte]) | (with_reducible first | refine then_normal ?_ | refine then_ret ?_ | refine then_exit ?_ | refine block_normal ?_ | refine block_ret ?_) | ((with_reducible show blockQ _ _ _ _); first | refine block_exit ?_ | refine block_exit_ne rfl ?_) | ((with_reducible show AWP _ _ _ _ _); first | (refine AWP.region_eqNil  Tryz.underlying32 ?_) | (with_reducible first | refine AWP.seq ?_ | refine AWP.block ?_ | refine AWP.region ?_ | refine AWP.ret ?_ | refine AWP.exit ?_ | refine AWP.skip ?_) | refine AWP.drawn rfl (by kernel_rfl) ?_ | refine AWP.cond rfl ?_ ?_) | with_reducible refine ev_nil ?_ | ((first | ((with_reducible show evOps _ _ _ _ _ _); (first | refine ev_step rfl ?_ | refine ev_undef rfl rfl rfl ?_); intro K hK) | ((with_reducible show EvOpen _ _ _ _ _ _ _); refine ev_open ?_; intro K hK) | ((with_reducible show SkOpen _ _ _ _ _ _ _); refine sk_open ?_; intro K hK) | ((with_reducible show callK _ _ _ _ _ _ _ _); first  | fail)); simp only [evOp, evQ, withS, opd, kput, putS, upd, lookup, slotsOf, appendK, srcK, growK, newBlk, partsK, buildSliceK, V.one, Value.oneCell', List.set_cons_zero, ei_terms, ea_terms, Nat.zero_le, List.getElem?_cons_zero, List.nil_append, List.cons_append, List.length_cons, List.length_nil, Nat.reduceEqDiff, Nat.reduceAdd, Nat.reduceLT, Nat.reduceLeDiff, Nat.zero_mul, Nat.zero_add, Nat.sub_zero, Nat.not_lt_zero, ↓reduceIte, eq_self, true_and, false_implies, forall_const, implies_true]) | refine ev_guard rfl rfl rfl ?_ ?_ | ((with_reducible show retQ _ _ _ _); simp only [retQ, retOk, getL, lookup, Option.map_some, fitsL, fits, ND, srcs, Res.list, List.getElem?_cons_zero, List.getElem?_cons_succ, Nat.reduceEqDiff, ↓reduceIte, and_true, true_and]) | (with_reducible refine hK _ ?_; clear hK K) | (with_reducible refine And.intro ?_ ?_) | (with_reducible intro hc; try simp only [eq_self] at hc) | omega)
  all_goals first
    | (have := hnb ‹_›; omega)
    | exact ⟨_, rfl, BE.rfl' _⟩
    | (simp [bterms]; done)
    | trace_state
/-- What waits for the next stage of a walk. -/
def HoldC (p : Prop) : Prop := p
theorem AWP.holdC [Cx] {P : Program} {N : Nat} {id : Nat} {ops : Array Oper} {d : Bool} {Q : Exit → ASt → Prop} {s : ASt} (h : HoldC (AWP N P (.region id ops d) Q s)) : AWP N P (.region id ops d) Q s := h
theorem ctd_yes {L : List (List T3)} (h : (catX L L.length).length ≤ 10) : ctdR L = (catX L L.length, true) := by unfold ctdR; rw [if_pos h]
theorem ctd_no {L : List (List T3)} (h : ¬ (catX L L.length).length ≤ 10) : ctdR L = ([], false) := by unfold ctdR; rw [if_neg h]

set_option maxHeartbeats 4000000 in
set_option maxRecDepth 20000 in
theorem catalogued_E (L : List (List T3)) (hl : L.length ≤ 1099511627776) (hL : ∀ i, i < L.length → 1 ≤ (tsAt L i).length ∧ (tsAt L i).length ≤ 12 ∧ Sml (tsAt L i)) : FnE Tryz.prog 23 [termss L] (tfE (ctdR L).1.length (tsAt (ctdR L).1) (ctdR L).2) := by
  refine FnE.of_body (fun N => [.old (fun b => b < N) (termss L)]) (fun _ us h => oldL_rd _ us h) Tryz.call23 Tryz.func23 rfl Tryz.ntmps23 (ts := [2, 3]) rfl (fun _ => by simp) (tfE.shape) (fun N => ?_)
  repeat' (first | (with_reducible first | refine then_normal ?_ | refine then_ret ?_ | refine then_exit ?_ | refine block_normal ?_ | refine block_ret ?_) | ((with_reducible show blockQ _ _ _ _); first | refine block_exit ?_ | refine block_exit_ne rfl ?_) | ((with_reducible show AWP _ _ _ _ _); first | (with_reducible first | refine AWP.seq ?_ | refine AWP.block ?_ | refine AWP.region ?_ | refine AWP.ret ?_ | refine AWP.exit ?_ | refine AWP.skip ?_) | refine AWP.drawn rfl (by kernel_rfl) ?_ | refine AWP.cond rfl ?_ ?_) | with_reducible refine ev_nil ?_ | ((first | ((with_reducible show evOps _ _ _ _ _ _); (first | refine ev_step rfl ?_ | refine ev_undef rfl rfl rfl ?_); intro K hK) | ((with_reducible show EvOpen _ _ _ _ _ _ _); refine ev_open ?_; intro K hK) | ((with_reducible show SkOpen _ _ _ _ _ _ _); refine sk_open ?_; intro K hK) | ((with_reducible show callK _ _ _ _ _ _ _ _); first | fail)); simp only [evOp, evQ, evB, withS, opd, kput, putS, upd, lookup, slotsOf, newBlk, partsK, buildSliceK, Nat.zero_le, sz_termss, ei_termss, ea_termss, List.nil_append, List.length_cons, List.length_nil, Nat.reduceEqDiff, Nat.reduceLT, Nat.reduceLeDiff, Nat.mul_one, Nat.zero_add, Nat.mod_one, List.getD_cons_zero, ↓reduceIte, eq_self, true_and, Option.isSome_some]) | refine ev_guard rfl rfl rfl ?_ ?_ | ((with_reducible show retQ _ _ _ _); simp only [eq_self]) | (with_reducible refine hK _ ?_; clear hK K) | (with_reducible refine And.intro ?_ ?_) | (with_reducible intro hc; try simp only [eq_self] at hc) | omega)
  refine AWP.loop_entR [0] (fun x : Nat × (Nat → V) => ⟨[(4, .one (.own 0 1 0 x.1)), (8, .one (.pv (.old (fun b => b < N) (termss L)))), (9, sc (.int .i64 L.length)), (10, sc (.int .i64 x.1))], [some ⟨32, x.1, x.2⟩], 28⟩)
    (fun x => partL N L.length x.1 (fun i => isT (tsAt L i)) x.2) (fun x => L.length - x.1) (0, fun _ => .val undef) ⟨by omega, fun i hi => by omega⟩ (by simp [EntR, EntSR, EntHR, SlR, VE, lookup, BE, upd, sc, VE.rfl']) ?_
  rintro ⟨k, F⟩ hG
  have hk := hG.1
  by_cases hkm : k < L.length
  · have hcl := (cloneR_fn (tsAt L k) (by have := hL k hkm; omega)).bare (vs' := [.old (fun b => b < N) (terms (tsAt L k))]) ⟨VE.rfl' (terms (tsAt L k)), trivial⟩
    repeat' (first | ((with_reducible show evNx _ _ _ _ _ _); first | (with_reducible refine nx_done ?_) | (refine nx_one rfl ?_) | (refine nx_alt rfl ?_ ?_) | (with_reducible refine nx_st ?_)) | ((with_reducible show evSx _ _ _ _ _ _); first | (with_reducible refine sx_done ?_) | (with_reducible refine sx_st ?_) | (with_reducible refine sx_op ?_)) | ((with_reducible show evTake _ _ _ _ _); with_reducible refine take_nil ?_) | ((with_reducible show evSy _ _ _ _ _ _ _); first | (with_reducible refine sy_done ?_) | (refine sy_last rfl ?_) | (refine sy_one (by decide) rfl ?_) | (refine sy_alt (by decide) rfl ?_ ?_) | (with_reducible refine sy_st ?_)) | ((with_reducible show StK _ _ _); first | (refine stk_letRow (letRow_go (t := 16) rfl rfl (by simp [bterms]) ?_) ; intro u1 Z1 hZ1 hD1 ; simp only [upd, List.set_cons_zero, List.set_cons_succ, Nat.reduceEqDiff, ↓reduceIte, eq_self]) | fail) | (with_reducible first | refine then_normal ?_ | refine then_ret ?_ | refine then_exit ?_ | refine block_normal ?_ | refine block_ret ?_) | ((with_reducible show blockQ _ _ _ _); first | refine block_exit ?_ | refine block_exit_ne rfl ?_) | ((with_reducible show AWP _ _ _ _ _); first | (refine AWP.region_sx (id := 5) [.op, .op, .op, .st, .op, .op, .op] ?_) | (with_reducible first | refine AWP.seq ?_ | refine AWP.block ?_ | refine AWP.region ?_ | refine AWP.ret ?_ | refine AWP.exit ?_ | refine AWP.skip ?_) | refine AWP.drawn rfl (by kernel_rfl) ?_ | refine AWP.cond rfl ?_ ?_) | with_reducible refine ev_nil ?_ | ((first | ((with_reducible show evNx _ _ _ _ _ _); refine nx_take rfl ?_; intro K hK) | ((with_reducible show Ax _ _ _ _ _); first | (refine ax_op rfl ?_; intro K hK)) | ((with_reducible show evTake _ _ _ _ _); refine take_step rfl ?_; intro K hK) | ((with_reducible show evSy _ _ _ _ _ _ _); refine sy_take rfl ?_; intro K hK) | ((with_reducible show AxB _ _ _ _ _); first | (refine axb_op rfl rfl ?_; intro K hK)) | ((with_reducible show evOps _ _ _ _ _ _); (first | refine ev_step rfl ?_ | refine ev_undef rfl rfl rfl ?_); intro K hK) | ((with_reducible show EvOpen _ _ _ _ _ _ _); refine ev_open ?_; intro K hK) | ((with_reducible show SkOpen _ _ _ _ _ _ _); refine sk_open ?_; intro K hK) | ((with_reducible show callK _ _ _ _ _ _ _ _); first  | (refine call_safe ( hcl) (Nat.le_of_ble_eq_true rfl) (by repeat' (first | ((with_reducible show evNx _ _ _ _ _ _); first | (with_reducible refine nx_done ?_) | (refine nx_one rfl ?_) | (refine nx_alt rfl ?_ ?_) | (with_reducible refine nx_st ?_)) | ((with_reducible show evSx _ _ _ _ _ _); first | (with_reducible refine sx_done ?_) | (with_reducible refine sx_st ?_) | (with_reducible refine sx_op ?_)) | ((with_reducible show evTake _ _ _ _ _); with_reducible refine take_nil ?_) | ((with_reducible show evSy _ _ _ _ _ _ _); first | (with_reducible refine sy_done ?_) | (refine sy_last rfl ?_) | (refine sy_one (by decide) rfl ?_) | (refine sy_alt (by decide) rfl ?_ ?_) | (with_reducible refine sy_st ?_)) | ((with_reducible show StK _ _ _); first | (refine stk_letRow (letRow_go (t := 16) rfl rfl (by simp [bterms]) ?_) ; intro u1 Z1 hZ1 hD1 ; simp only [eq_self]) | fail) | exact trivial | refine ⟨fun _ _ => ⟨_, rfl⟩, ?_⟩)) ?_))); simp only [evOp, oldZ, evQ, binK, withS, opd, kput, putS, upd, lookup, argsK, bringIn, bring, Res.list, Res.slot, InK_i64, appendK, srcK, growK, frz, newBlk, partsK, buildSliceK, plSlice, V.one, List.set_cons_zero, bterms, sz_termss, c_terms, ei_termss, ea_termss, List.getElem?_cons_zero, List.getElem?_cons_succ, List.reverse_cons, List.reverse_nil, List.nil_append, List.cons_append, List.length_cons, List.length_nil, Nat.reduceEqDiff, Nat.reduceAdd, Nat.reduceLT, Nat.reduceLeDiff, Nat.mul_one, Nat.add_zero, Nat.zero_add, Nat.mod_one, List.getD_cons_zero, ↓reduceIte, eq_self, true_and, Bool.false_eq_true, Int.toNat_natCast]) | refine ev_guard rfl rfl rfl ?_ ?_ | ((with_reducible show retQ _ _ _ _); simp only [eq_self]) | (with_reducible refine hK _ ?_; clear hK K) | (with_reducible refine And.intro ?_ ?_) | (with_reducible intro hc; try simp only [decide_eq_true_eq, decide_eq_false_iff_not, Int.not_lt] at hc) | omega)
    all_goals first
      | (exfalso; omega)
      | exact isT.one (hG.2 _ (by assumption)).1
      | (rename_i q; obtain rfl : q = 0 := (by omega); rfl)
      | skip
    exact ⟨(k + 1, _), hG.grow hkm (v := .row u1 Z1 3 (tsAt L k).length fun i => vi (tf (tsAt L k) i)) ⟨u1, Z1, rfl⟩ (fun b hb => hZ1 b (zofT.1 hb)) (fun q hq b ⟨Z', h1, h2⟩ hb' => hD1 Z' (zst_blk (id := 0) (i := q) rfl hq rfl h1) b h2 (zofT.1 hb')), by show L.length - (k + 1) < L.length - k; omega, [3], rfl, by decide, by simp [EntSR, SlR, VE, lookup, sc, VE.rfl'], grow_if (VE.rfl' _), trivial⟩
  · obtain rfl : k = L.length := by omega
    have hs := sortRow_pm L F (fun i hi => (hG.2 i hi).1) hL hl
    repeat' (first | ((with_reducible show Ax _ _ _ _ _); ((with_reducible show Ax _ _ _ (Oper.mk _ (Op.call _) _ _ _ _) _) ; refine ax_perm rfl rfl (Nat.le_refl _) rfl (Nat.le_of_ble_eq_true rfl) hs ?_ ; intro π hπ hπn ; simp only [upd, List.set_cons_zero, Nat.reduceEqDiff, ↓reduceIte])) | ((with_reducible show evNx _ _ _ _ _ _); first | (with_reducible refine nx_done ?_) | (refine nx_one rfl ?_) | (refine nx_alt rfl ?_ ?_) | (with_reducible refine nx_st ?_)) | ((with_reducible show evSx _ _ _ _ _ _); first | (with_reducible refine sx_done ?_) | (with_reducible refine sx_st ?_) | (with_reducible refine sx_op ?_)) | ((with_reducible show evTake _ _ _ _ _); with_reducible refine take_nil ?_) | ((with_reducible show evSy _ _ _ _ _ _ _); first | (with_reducible refine sy_done ?_) | (refine sy_last rfl ?_) | (refine sy_one (by decide) rfl ?_) | (refine sy_alt (by decide) rfl ?_ ?_) | (with_reducible refine sy_st ?_)) | ((with_reducible show StK _ _ _); first | fail) | (with_reducible first | refine then_normal ?_ | refine then_ret ?_ | refine then_exit ?_ | refine block_normal ?_ | refine block_ret ?_) | ((with_reducible show blockQ _ _ _ _); first | refine block_exit ?_ | refine block_exit_ne rfl ?_) | ((with_reducible show AWP _ _ _ _ _); first | (refine AWP.holdC (id := 8) ?_) | (refine AWP.region_sx (id := 7) [.op, .op] ?_) | (with_reducible first | refine AWP.seq ?_ | refine AWP.block ?_ | refine AWP.region ?_ | refine AWP.ret ?_ | refine AWP.exit ?_ | refine AWP.skip ?_) | refine AWP.drawn rfl (by kernel_rfl) ?_ | refine AWP.cond rfl ?_ ?_) | with_reducible refine ev_nil ?_ | ((first | ((with_reducible show evNx _ _ _ _ _ _); refine nx_take rfl ?_; intro K hK) | ((with_reducible show Ax _ _ _ _ _); first | (refine ax_op rfl ?_; intro K hK)) | ((with_reducible show evTake _ _ _ _ _); refine take_step rfl ?_; intro K hK) | ((with_reducible show evSy _ _ _ _ _ _ _); refine sy_take rfl ?_; intro K hK) | ((with_reducible show AxB _ _ _ _ _); first | (refine axb_op rfl rfl ?_; intro K hK)) | ((with_reducible show evOps _ _ _ _ _ _); (first | refine ev_step rfl ?_ | refine ev_undef rfl rfl rfl ?_); intro K hK) | ((with_reducible show EvOpen _ _ _ _ _ _ _); refine ev_open ?_; intro K hK) | ((with_reducible show SkOpen _ _ _ _ _ _ _); refine sk_open ?_; intro K hK) | ((with_reducible show callK _ _ _ _ _ _ _ _); first  | fail)); simp only [evOp, oldZ, evQ, binK, withS, opd, kput, putS, upd, lookup, argsK, sz_termss, c_terms, List.reverse_cons, List.reverse_nil, List.nil_append, Nat.reduceEqDiff, Nat.reduceLT, Nat.mul_one, Nat.add_zero, ↓reduceIte, eq_self, true_and, Int.toNat_natCast]) | refine ev_guard rfl rfl rfl ?_ ?_ | ((with_reducible show retQ _ _ _ _); simp only [eq_self]) | (with_reducible refine hK _ ?_; clear hK K) | (with_reducible refine And.intro ?_ ?_) | (with_reducible intro hc; try simp only [decide_eq_true_eq, decide_eq_false_iff_not, Int.not_lt] at hc) | omega)
    all_goals try (exfalso; omega; done)
    unfold HoldC
    obtain ⟨hsrt, hmem, hinj⟩ := hπ
    have hcc := compact_cut (prm L π) (fun i => F (π i)) (fun i hi => by rw [prm_len] at hi; rw [prm_at hi]; exact (hG.2 _ (hπn i hi)).1) (fun i hi => by rw [prm_len] at hi; rw [prm_at hi]; exact hL _ (hπn i hi)) (by simpa using hl)
    rw [prm_len] at hcc
    have hcat : cmpX (prm L π) L.length = catX L L.length := by have := cmpX_cat hsrt hmem; rwa [prm_len] at this
    rw [← kL_cmp] at hcat
    have hlen : (kL (prm L π) L.length).length = (catX L L.length).length := by rw [← hcat, List.length_map]
    have hat : ∀ j, j < (catX L L.length).length → ∃ q, q < L.length ∧ (kL (prm L π) L.length).getD j 0 = q ∧ tsAt (catX L L.length) j = tsAt L (π q) := fun j hj => by
      have hj' : j < (kL (prm L π) L.length).length := by omega
      have hlt : (kL (prm L π) L.length)[j] < L.length := kL_lt _ _ _ (List.getElem_mem hj')
      refine ⟨_, hlt, by simp [List.getD, hj'], ?_⟩
      rw [← prm_at hlt, ← hcat]
      simp [tsAt, List.getD, hj']
    have hdis : ∀ i j, i < (catX L L.length).length → j < (catX L L.length).length → (kL (prm L π) L.length).getD i 0 = (kL (prm L π) L.length).getD j 0 → i = j := fun i j hi hj e => by
      have hp := List.pairwise_iff_getElem.1 (kL_mono (prm L π) L.length)
      have e2 : (kL (prm L π) L.length)[i]'(by omega) = (kL (prm L π) L.length)[j]'(by omega) := by simpa [List.getD, show i < (kL (prm L π) L.length).length by omega, show j < (kL (prm L π) L.length).length by omega] using e
      rcases Nat.lt_trichotomy i j with h | h | h
      · have := hp i j (by omega) (by omega) h; omega
      · exact h
      · have := hp j i (by omega) (by omega) h; omega
    repeat' (first | ((with_reducible show Ax _ _ _ _ _); ((with_reducible show Ax _ _ _ (Oper.mk _ (Op.call _) _ _ _ _) _) ; refine ax_cutF rfl rfl (Nat.le_refl _) rfl (Nat.le_of_ble_eq_true rfl) hcc ?_ ; intro κ n' hκ hn' hκn ; simp only [upd, List.set_cons_zero, Nat.reduceEqDiff, ↓reduceIte])) | ((with_reducible show evNx _ _ _ _ _ _); first | (with_reducible refine nx_done ?_) | (refine nx_one rfl ?_) | (refine nx_alt rfl ?_ ?_) | (with_reducible refine nx_st ?_)) | ((with_reducible show evSx _ _ _ _ _ _); first | (with_reducible refine sx_done ?_) | (with_reducible refine sx_st ?_) | (with_reducible refine sx_op ?_)) | ((with_reducible show evTake _ _ _ _ _); with_reducible refine take_nil ?_) | ((with_reducible show evSy _ _ _ _ _ _ _); first | (with_reducible refine sy_done ?_) | (refine sy_last rfl ?_) | (refine sy_one (by decide) rfl ?_) | (refine sy_alt (by decide) rfl ?_ ?_) | (with_reducible refine sy_st ?_)) | ((with_reducible show StK _ _ _); first | fail) | (with_reducible first | refine then_normal ?_ | refine then_ret ?_ | refine then_exit ?_ | refine block_normal ?_ | refine block_ret ?_) | ((with_reducible show blockQ _ _ _ _); first | refine block_exit ?_ | refine block_exit_ne rfl ?_) | ((with_reducible show AWP _ _ _ _ _); first | (refine AWP.holdC (id := 9) ?_) | (refine AWP.region_sx (id := 8) [.op, .op, .op] ?_) | (with_reducible first | refine AWP.seq ?_ | refine AWP.block ?_ | refine AWP.region ?_ | refine AWP.ret ?_ | refine AWP.exit ?_ | refine AWP.skip ?_) | refine AWP.drawn rfl (by kernel_rfl) ?_ | refine AWP.cond rfl ?_ ?_) | with_reducible refine ev_nil ?_ | ((first | ((with_reducible show evNx _ _ _ _ _ _); refine nx_take rfl ?_; intro K hK) | ((with_reducible show Ax _ _ _ _ _); first | (refine ax_op rfl ?_; intro K hK)) | ((with_reducible show evTake _ _ _ _ _); refine take_step rfl ?_; intro K hK) | ((with_reducible show evSy _ _ _ _ _ _ _); refine sy_take rfl ?_; intro K hK) | ((with_reducible show AxB _ _ _ _ _); first | (refine axb_op rfl rfl ?_; intro K hK)) | ((with_reducible show evOps _ _ _ _ _ _); (first | refine ev_step rfl ?_ | refine ev_undef rfl rfl rfl ?_); intro K hK) | ((with_reducible show EvOpen _ _ _ _ _ _ _); refine ev_open ?_; intro K hK) | ((with_reducible show SkOpen _ _ _ _ _ _ _); refine sk_open ?_; intro K hK) | ((with_reducible show callK _ _ _ _ _ _ _ _); first  | fail)); simp only [evOp, evQ, withS, opd, kput, putS, upd, lookup, Nat.reduceEqDiff, Nat.reduceLT, ↓reduceIte, eq_self, true_and]) | refine ev_guard rfl rfl rfl ?_ ?_ | ((with_reducible show retQ _ _ _ _); simp only [eq_self]) | (with_reducible refine hK _ ?_; clear hK K) | (with_reducible refine And.intro ?_ ?_) | (with_reducible intro hc; try simp only [eq_self] at hc) | omega)
    all_goals try (exfalso; omega; done)
    unfold HoldC
    obtain ⟨rfl, hκ⟩ := hκ
    rw [hlen] at *
    by_cases h10 : (catX L L.length).length ≤ 10
    · rw [ctd_yes h10]
      repeat' (first | (with_reducible first | refine then_normal ?_ | refine then_ret ?_ | refine then_exit ?_ | refine block_normal ?_ | refine block_ret ?_) | ((with_reducible show blockQ _ _ _ _); first | refine block_exit ?_ | refine block_exit_ne rfl ?_) | ((with_reducible show AWP _ _ _ _ _); first | (with_reducible first | refine AWP.seq ?_ | refine AWP.block ?_ | refine AWP.region ?_ | refine AWP.ret ?_ | refine AWP.exit ?_ | refine AWP.skip ?_) | refine AWP.drawn rfl (by kernel_rfl) ?_ | refine AWP.cond rfl ?_ ?_) | with_reducible refine ev_nil ?_ | ((first | ((with_reducible show evOps _ _ _ _ _ _); (first | refine ev_step rfl ?_ | refine ev_undef rfl rfl rfl ?_); intro K hK) | ((with_reducible show EvOpen _ _ _ _ _ _ _); refine ev_open ?_; intro K hK) | ((with_reducible show SkOpen _ _ _ _ _ _ _); refine sk_open ?_; intro K hK) | ((with_reducible show callK _ _ _ _ _ _ _ _); first | fail)); simp only [evOp, evQ, evB, binK, withS, opd, kput, putS, upd, lookup, sz_termss, Nat.reduceEqDiff, Nat.reduceLT, ↓reduceIte, eq_self, true_and, Option.isSome_some]) | refine ev_guard rfl rfl rfl ?_ ?_ | ((with_reducible show retQ _ _ _ _); simp only [eq_self]) | (with_reducible refine hK _ ?_; clear hK K) | (with_reducible refine And.intro ?_ ?_) | (with_reducible intro hc; try simp only [decide_eq_true_eq, decide_eq_false_iff_not, Int.not_lt, gt_iff_lt] at hc) | omega)
      all_goals try (exfalso; omega; done)
      refine ⟨_, ⟨fun j => F (π (κ j)), fun i hi => ⟨?_, fun j hj hne => ?_⟩, rfl⟩, ⟨fun i hi => ?_, trivial, trivial⟩, ?_⟩
      · obtain ⟨q, h1, h2, h3⟩ := hat i hi
        show isT (tsAt (catX L L.length) i) (F (π (κ i)))
        rw [hκ i hi, h2, h3]; exact (hG.2 _ (hπn q h1)).1
      · obtain ⟨q, h1, h2, h3⟩ := hat i hi
        obtain ⟨q', h1', h2', h3'⟩ := hat j hj
        show Apart (F (π (κ i))) (F (π (κ j)))
        rw [hκ i hi, hκ j hj, h2, h2']
        refine (hG.2 _ (hπn q h1)).2.2 _ (hπn q' h1') fun e => ?_
        have := hinj _ _ h1' h1 e
        exact hne (hdis j i hj hi (by rw [h2, h2', this]))
      · obtain ⟨q, h1, h2, h3⟩ := hat i hi
        show NewV _ (F (π (κ i)))
        rw [hκ i hi, h2]
        exact NewV.of_zof (isT.new (hG.2 _ (hπn q h1)).1) (hG.2 _ (hπn q h1)).2.1
      · simp only [retOk, getL, lookup, Option.map_some, fitsL, fits, ND, srcs, Res.list, VE, List.getElem?_cons_zero, Nat.reduceEqDiff, ↓reduceIte, and_true, true_and]
        exact ⟨⟨_, rfl, BE.rfl' _⟩, by simp⟩
    · rw [ctd_no h10]
      repeat' (first | (with_reducible first | refine then_normal ?_ | refine then_ret ?_ | refine then_exit ?_ | refine block_normal ?_ | refine block_ret ?_) | ((with_reducible show blockQ _ _ _ _); first | refine block_exit ?_ | refine block_exit_ne rfl ?_) | ((with_reducible show AWP _ _ _ _ _); first | (with_reducible first | refine AWP.seq ?_ | refine AWP.block ?_ | refine AWP.region ?_ | refine AWP.ret ?_ | refine AWP.exit ?_ | refine AWP.skip ?_) | refine AWP.drawn rfl (by kernel_rfl) ?_ | refine AWP.cond rfl ?_ ?_) | with_reducible refine ev_nil ?_ | ((first | ((with_reducible show evOps _ _ _ _ _ _); (first | refine ev_step rfl ?_ | refine ev_undef rfl rfl rfl ?_); intro K hK) | ((with_reducible show EvOpen _ _ _ _ _ _ _); refine ev_open ?_; intro K hK) | ((with_reducible show SkOpen _ _ _ _ _ _ _); refine sk_open ?_; intro K hK) | ((with_reducible show callK _ _ _ _ _ _ _ _); first | fail)); simp only [evOp, evQ, evB, binK, withS, opd, kput, putS, upd, lookup, sz_termss, Nat.reduceEqDiff, Nat.reduceLT, ↓reduceIte, eq_self, true_and, Option.isSome_some]) | refine ev_guard rfl rfl rfl ?_ ?_ | ((with_reducible show retQ _ _ _ _); simp only [eq_self]) | (with_reducible refine hK _ ?_; clear hK K) | (with_reducible refine And.intro ?_ ?_) | (with_reducible intro hc; try simp only [decide_eq_true_eq, decide_eq_false_iff_not, Int.not_lt, gt_iff_lt] at hc) | omega)
      all_goals try (exfalso; omega; done)
      refine ⟨_, ⟨fun _ => .val undef, fun i hi => by simp at hi, rfl⟩, ⟨fun i hi => by simp at hi, trivial, trivial⟩, ?_⟩
      simp only [retOk, getL, lookup, Option.map_some, fitsL, fits, ND, srcs, Res.list, VE, Nat.reduceEqDiff, ↓reduceIte, and_true]
      simp
end Go.Proofs.YteapdildbfimnaaGreatDoor
namespace Go.Proofs.YteapdildbfimnaaGreatDoor
set_option linter.unusedSimpArgs false
set_option linter.unusedVariables false

/-- The least number below n with a property. -/
def findL (p : Nat → Bool) : Nat → Option Nat
  | 0 => none
  | n + 1 => match findL p n with
    | some k => some k
    | none => if p n then some n else none
theorem findL_none {p : Nat → Bool} {n : Nat} (h : ∀ k, k < n → p k = false) : findL p n = none := by
  induction n with
  | zero => rfl
  | succ n ih => unfold findL; rw [ih fun k hk => h k (by omega)]; simp [h n (by omega)]
theorem findL_some {p : Nat → Bool} {n k : Nat} (hk : k < n) (hp : p k = true) (h : ∀ j, j < k → p j = false) : findL p n = some k := by
  induction n with
  | zero => omega
  | succ n ih =>
    unfold findL
    by_cases e : k = n
    · subst e; rw [findL_none h]; simp [hp]
    · rw [ih (by omega)]
/-- The first number of a class. -/
def repI (out : List (List Int)) (k : Nat) : Nat := ((rowAt out k).getD 0 0).toNat
/-- One thing more is put into its class. -/
def clsP (L : List (List T3)) (out : List (List Int)) (i : Nat) : Nat → Bool := fun k => eqTL (nfAt L (repI out k)) (nfAt L i)
def clsStep (L : List (List T3)) (out : List (List Int)) (i : Nat) : List (List Int) := match findL (clsP L out i) out.length with
  | some k => out.set k (rowAt out k ++ [(i : Int)])
  | none => out ++ [[(i : Int)]]
def clsK (L : List (List T3)) : Nat → List (List Int)
  | 0 => []
  | i + 1 => clsStep L (clsK L i) i
def pcR (L : List (List T3)) : List (List Int) × Bool := if nfB L then (clsK L L.length, true) else ([], false)

theorem eqT_iff {a b : T3} : eqT a b = true ↔ a = b := by
  unfold eqT
  simp only [Bool.and_eq_true, beq_iff_eq]
  constructor
  · rintro ⟨⟨h1, h2⟩, h3⟩
    obtain ⟨a1, a2, a3⟩ := a
    obtain ⟨b1, b2, b3⟩ := b
    simp only at h1 h2 h3
    rw [h1, h2, h3]
  · rintro rfl; exact ⟨⟨rfl, rfl⟩, rfl⟩
theorem eqTL_iff {a b : List T3} : eqTL a b = true ↔ a = b := by
  constructor
  · intro h
    unfold eqTL at h
    simp only [Bool.and_eq_true, beq_iff_eq] at h
    obtain ⟨h1, h2⟩ := h
    apply List.ext_getElem h1
    intro i hi hj
    have h3 : eqT (tAt a i) (tAt b i) = true := by
      by_cases e : eqT (tAt a i) (tAt b i) = true
      · exact e
      · rw [allN_false hi (by simpa using e)] at h2; cases h2
    have h4 := eqT_iff.1 h3
    simpa [tAt, List.getD, hi, hj] using h4
  · rintro rfl; exact eqTL_refl _

/-- What holds of the classes of the first i things. -/
structure ClsOk (L : List (List T3)) (i : Nat) (out : List (List Int)) : Prop where
  len : out.length ≤ i
  row : ∀ k, k < out.length → 1 ≤ (rowAt out k).length ∧ (rowAt out k).length ≤ i ∧ 0 ≤ (rowAt out k).getD 0 0 ∧ (rowAt out k).getD 0 0 < i
  apart : ∀ k j, k < out.length → j < out.length → nfAt L (repI out k) = nfAt L (repI out j) → k = j
theorem ClsOk.nil (L : List (List T3)) : ClsOk L 0 [] := ⟨Nat.le_refl _, fun k hk => by simp at hk, fun k j hk => by simp at hk⟩
theorem row_set_eq {out : List (List Int)} {k : Nat} {r : List Int} (hk : k < out.length) : rowAt (out.set k r) k = r := by simp [rowAt, List.getD, hk]
theorem row_set_ne {out : List (List Int)} {k j : Nat} {r : List Int} (h : j ≠ k) : rowAt (out.set k r) j = rowAt out j := by
  simp only [rowAt, List.getD]; rw [List.getElem?_set_ne (fun e => h e.symm)]
theorem row_app_lt {out : List (List Int)} {j : Nat} {r : List Int} (h : j < out.length) : rowAt (out ++ [r]) j = rowAt out j := by simp [rowAt, List.getD, List.getElem?_append_left h]
theorem row_app_eq {out : List (List Int)} {r : List Int} : rowAt (out ++ [r]) out.length = r := by simp [rowAt, List.getD]
theorem head_app {r : List Int} {x : Int} (h : 1 ≤ r.length) : (r ++ [x]).getD 0 0 = r.getD 0 0 := by
  cases r with
  | nil => simp at h
  | cons a r => rfl
theorem ClsOk.hit {L : List (List T3)} {i k : Nat} {out : List (List Int)} (h : ClsOk L i out) (hk : k < out.length) : ClsOk L (i + 1) (out.set k (rowAt out k ++ [(i : Int)])) := by
  have hrep : ∀ j, repI (out.set k (rowAt out k ++ [(i : Int)])) j = repI out j := fun j => by
    unfold repI
    by_cases e : j = k
    · subst e; rw [row_set_eq hk, head_app (h.row j hk).1]
    · rw [row_set_ne e]
  refine ⟨by simp; have := h.len; omega, fun j hj => ?_, fun a b ha hb => ?_⟩
  · rw [List.length_set] at hj
    have hj2 := h.row j hj
    by_cases e : j = k
    · subst e
      rw [row_set_eq hk, head_app hj2.1, List.length_append]
      exact ⟨by omega, by rw [List.length_singleton]; omega, hj2.2.2.1, by omega⟩
    · rw [row_set_ne e]; exact ⟨hj2.1, by omega, hj2.2.2.1, by omega⟩
  · rw [List.length_set] at ha hb
    rw [hrep, hrep]; exact h.apart a b ha hb
theorem ClsOk.miss {L : List (List T3)} {i : Nat} {out : List (List Int)} (h : ClsOk L i out) (hn : ∀ k, k < out.length → nfAt L (repI out k) ≠ nfAt L i) : ClsOk L (i + 1) (out ++ [[(i : Int)]]) := by
  have hlt : ∀ j, j < out.length → repI (out ++ [[(i : Int)]]) j = repI out j := fun j hj => by unfold repI; rw [row_app_lt hj]
  have heq : repI (out ++ [[(i : Int)]]) out.length = i := by unfold repI; rw [row_app_eq]; simp
  refine ⟨by simp; have := h.len; omega, fun j hj => ?_, fun a b ha hb e => ?_⟩
  · rw [List.length_append, List.length_singleton] at hj
    by_cases e : j < out.length
    · have hj2 := h.row j e
      rw [row_app_lt e]; exact ⟨hj2.1, by omega, hj2.2.2.1, by omega⟩
    · obtain rfl : j = out.length := by omega
      rw [row_app_eq]; simp; omega
  · rw [List.length_append, List.length_singleton] at ha hb
    by_cases e1 : a < out.length <;> by_cases e2 : b < out.length
    · rw [hlt a e1, hlt b e2] at e; exact h.apart a b e1 e2 e
    · obtain rfl : b = out.length := by omega
      rw [hlt a e1, heq] at e; exact absurd e (hn a e1)
    · obtain rfl : a = out.length := by omega
      rw [hlt b e2, heq] at e; exact absurd e.symm (hn b e2)
    · omega
theorem clsStep_hit {L : List (List T3)} {out : List (List Int)} {i k : Nat} (hk : k < out.length) (hp : clsP L out i k = true) (h : ∀ j, j < k → clsP L out i j = false) : clsStep L out i = out.set k (rowAt out k ++ [(i : Int)]) := by
  unfold clsStep; rw [findL_some hk hp h]
theorem clsStep_miss {L : List (List T3)} {out : List (List Int)} {i : Nat} (h : ∀ k, k < out.length → clsP L out i k = false) : clsStep L out i = out ++ [[(i : Int)]] := by
  unfold clsStep; rw [findL_none h]
theorem clsP_iff {L : List (List T3)} {out : List (List Int)} {i k : Nat} : clsP L out i k = true ↔ nfAt L (repI out k) = nfAt L i := eqTL_iff
/-- Where one class takes a thing, no other one does. -/
theorem ClsOk.one {L : List (List T3)} {i k j : Nat} {out : List (List Int)} (h : ClsOk L i out) (hk : k < out.length) (hj : j < out.length) (hp : clsP L out i k = true) (hne : j ≠ k) : clsP L out i j = false := by
  cases e : clsP L out i j with
  | false => rfl
  | true => exact absurd (h.apart j k hj hk ((clsP_iff.1 e).trans (clsP_iff.1 hp).symm)) hne
theorem clsK_ok (L : List (List T3)) : ∀ i, ClsOk L i (clsK L i)
  | 0 => ClsOk.nil L
  | i + 1 => by
    have h := clsK_ok L i
    show ClsOk L (i + 1) (clsStep L (clsK L i) i)
    by_cases hx : ∃ k, k < (clsK L i).length ∧ clsP L (clsK L i) i k = true
    · obtain ⟨k, hk, hp⟩ := hx
      rw [clsStep_hit hk hp fun j hj => h.one hk (by omega) hp (by omega)]
      exact h.hit hk
    · have hn : ∀ k, k < (clsK L i).length → clsP L (clsK L i) i k = false := fun k hk => by
        cases e : clsP L (clsK L i) i k with
        | false => rfl
        | true => exact absurd ⟨k, hk, e⟩ hx
      rw [clsStep_miss hn]
      exact h.miss fun k hk e => by have := hn k hk; rw [clsP_iff.2 e] at this; cases this
end Go.Proofs.YteapdildbfimnaaGreatDoor
namespace Go.Proofs.YteapdildbfimnaaGreatDoor
set_option linter.unusedSimpArgs false
set_option linter.unusedVariables false

theorem lowN_hit (g : Nat → Int) (b : Int) : ∀ k, 1 ≤ k → (∀ j, j < k → g j ≤ b) → ∃ j, j < k ∧ g j = lowN g b k
  | 0, h, _ => absurd h (by omega)
  | k + 1, _, hb => by
    show ∃ j, j < k + 1 ∧ g j = min (lowN g b k) (g k)
    by_cases h : g k ≤ lowN g b k
    · exact ⟨k, by omega, (Int.min_eq_right h).symm⟩
    · rcases Nat.eq_zero_or_pos k with h0 | h0
      · subst h0; exact absurd (hb 0 (by omega)) h
      · obtain ⟨j, hj, e⟩ := lowN_hit g b k h0 fun j hj => hb j (by omega)
        exact ⟨j, by omega, by rw [Int.min_eq_left (by omega)]; exact e⟩
theorem lowN_zero {g : Nat → Int} {b : Int} {k : Nat} (hb : 0 ≤ b) (h : ∀ j, j < k → 0 ≤ g j) (hx : ∃ j, j < k ∧ g j = 0) : lowN g b k = 0 := by
  obtain ⟨j, hj, e⟩ := hx
  have h1 := lowN_ge g b 0 hb k h
  have h2 := lowN_get g b k j hj
  omega

theorem normL_idem {l : List T3} (h : planeB l = true) : normL (normL l) = normL l := by
  have hp := planeB_parts h
  have ht := fun k hk => termB_iff.1 (hp.2 k hk)
  have hI : lowI (normL l) 6 (normL l).length = 0 := by
    rw [normL_len]
    refine lowN_zero (by omega) (fun j hj => ?_) ?_
    · rw [normL_get hj]
      have := lowN_get (fun j => (tAt l j).1) 6 l.length j hj
      show 0 ≤ (tAt l j).1 - lowI l 6 l.length
      unfold lowI
      omega
    · obtain ⟨j, hj, e⟩ := lowN_hit (fun j => (tAt l j).1) 6 l.length hp.1.1 fun j hj => by have := ht j hj; omega
      refine ⟨j, hj, ?_⟩
      rw [normL_get hj]
      show (tAt l j).1 - lowI l 6 l.length = 0
      unfold lowI
      omega
  have hJ : lowJ (normL l) 6 (normL l).length = 0 := by
    rw [normL_len]
    refine lowN_zero (by omega) (fun j hj => ?_) ?_
    · rw [normL_get hj]
      have := lowN_get (fun j => (tAt l j).2.1) 6 l.length j hj
      show 0 ≤ (tAt l j).2.1 - lowJ l 6 l.length
      unfold lowJ
      omega
    · obtain ⟨j, hj, e⟩ := lowN_hit (fun j => (tAt l j).2.1) 6 l.length hp.1.1 fun j hj => by have := ht j hj; omega
      refine ⟨j, hj, ?_⟩
      rw [normL_get hj]
      show (tAt l j).2.1 - lowJ l 6 l.length = 0
      unfold lowJ
      omega
  have h0 : (tAt (normL l) 0).2.2 = 0 := by
    rw [normL_get hp.1.1]
    show (tAt l 0).2.2 - (tAt l 0).2.2 = 0
    omega
  have e : normT (normL l) (lowI (normL l) 6 (normL l).length) (lowJ (normL l) 6 (normL l).length) = id := by
    funext t
    rw [hI, hJ]
    unfold normT
    rw [h0]
    simp
  show (normL l).map (normT (normL l) (lowI (normL l) 6 (normL l).length) (lowJ (normL l) 6 (normL l).length)) = normL l
  rw [e, List.map_id]
theorem normR_get {l : List T3} (h : (normR l).2 = true) : planeB l = true ∧ planeB (normL l) = true ∧ normR l = (normL l, true) := by
  cases h1 : planeB l with
  | false => rw [normR_no h1] at h; cases h
  | true =>
    cases h2 : planeB (normL l) with
    | false => rw [normR_no2 h2] at h; cases h
    | true => exact ⟨rfl, rfl, normR_yes h1 h2⟩
theorem normR_idem {l : List T3} (h : (normR l).2 = true) : normR (normR l).1 = normR l := by
  obtain ⟨h1, h2, e⟩ := normR_get h
  rw [e]
  show normR (normL l) = _
  rw [normR_yes h2 (by rw [normL_idem h1]; exact h2), normL_idem h1]
/-- All members of the classes. -/
structure ClsMem (L : List (List T3)) (i : Nat) (out : List (List Int)) : Prop where
  sum : sumM out out.length = i
  mem : ∀ k, k < out.length → ∀ j, j < (rowAt out k).length → ∃ y : Nat, (rowAt out k).getD j 0 = y ∧ y < i ∧ nfAt L y = nfAt L (repI out k)
theorem sumM_congr {a b : List (List Int)} {k : Nat} (h : ∀ j, j < k → (rowAt a j).length = (rowAt b j).length) : sumM a k = sumM b k := by
  induction k with
  | zero => rfl
  | succ k ih => show sumM a k + _ = sumM b k + _; rw [ih fun j hj => h j (by omega), h k (by omega)]
theorem sumM_set {out : List (List Int)} {k : Nat} {x : Int} : ∀ n, k < out.length → sumM (out.set k (rowAt out k ++ [x])) n = sumM out n + if k < n then 1 else 0
  | 0, _ => rfl
  | n + 1, hk => by
    show sumM (out.set k _) n + _ = sumM out n + _ + _
    rw [sumM_set n hk]
    by_cases e : n = k
    · subst e
      rw [row_set_eq hk, List.length_append, List.length_singleton, if_neg (Nat.lt_irrefl _), if_pos (by omega)]
      omega
    · rw [row_set_ne e]
      by_cases h : k < n
      · rw [if_pos h, if_pos (by omega)]; omega
      · rw [if_neg h, if_neg (by omega)]; omega
theorem getD_app_lt {r : List Int} {x : Int} {j : Nat} (h : j < r.length) : (r ++ [x]).getD j 0 = r.getD j 0 := by rw [List.getD, List.getElem?_append_left h]; rfl
theorem getD_app_eq {r : List Int} {x : Int} : (r ++ [x]).getD r.length 0 = x := by simp [List.getD]
theorem ClsMem.hit {L : List (List T3)} {i k : Nat} {out : List (List Int)} (h : ClsMem L i out) (hok : ClsOk L i out) (hk : k < out.length) (hp : nfAt L (repI out k) = nfAt L i) : ClsMem L (i + 1) (out.set k (rowAt out k ++ [(i : Int)])) := by
  have hrep : ∀ j, repI (out.set k (rowAt out k ++ [(i : Int)])) j = repI out j := fun j => by
    unfold repI
    by_cases e : j = k
    · subst e; rw [row_set_eq hk, head_app (hok.row j hk).1]
    · rw [row_set_ne e]
  refine ⟨?_, fun q hq j hj => ?_⟩
  · rw [List.length_set, sumM_set _ hk, h.sum, if_pos hk]
  · rw [List.length_set] at hq
    rw [hrep]
    by_cases e : q = k
    · subst e
      rw [row_set_eq hk] at hj ⊢
      rw [List.length_append, List.length_singleton] at hj
      by_cases e2 : j < (rowAt out q).length
      · obtain ⟨y, h1, h2, h3⟩ := h.mem q hk j e2
        exact ⟨y, by rw [getD_app_lt e2]; exact h1, by omega, h3⟩
      · obtain rfl : j = (rowAt out q).length := by omega
        exact ⟨i, getD_app_eq, by omega, hp.symm⟩
    · rw [row_set_ne e] at hj ⊢
      obtain ⟨y, h1, h2, h3⟩ := h.mem q hq j hj
      exact ⟨y, h1, by omega, h3⟩
theorem ClsMem.miss {L : List (List T3)} {i : Nat} {out : List (List Int)} (h : ClsMem L i out) : ClsMem L (i + 1) (out ++ [[(i : Int)]]) := by
  have hlt : ∀ j, j < out.length → repI (out ++ [[(i : Int)]]) j = repI out j := fun j hj => by unfold repI; rw [row_app_lt hj]
  have heq : repI (out ++ [[(i : Int)]]) out.length = i := by unfold repI; rw [row_app_eq]; simp
  refine ⟨?_, fun q hq j hj => ?_⟩
  · rw [List.length_append, List.length_singleton]
    show sumM (out ++ [[(i : Int)]]) out.length + (rowAt (out ++ [[(i : Int)]]) out.length).length = i + 1
    rw [row_app_eq, sumM_congr (b := out) fun j hj => by rw [row_app_lt hj], h.sum]; rfl
  · rw [List.length_append, List.length_singleton] at hq
    by_cases e : q < out.length
    · rw [row_app_lt e] at hj ⊢
      obtain ⟨y, h1, h2, h3⟩ := h.mem q e j hj
      exact ⟨y, h1, by omega, by rw [hlt q e]; exact h3⟩
    · obtain rfl : q = out.length := by omega
      rw [row_app_eq] at hj ⊢
      have hj : j < 1 := hj
      obtain rfl : j = 0 := by omega
      exact ⟨i, rfl, by omega, by rw [heq]⟩
theorem nfB_get {L : List (List T3)} (h : nfB L = true) : L.length ≤ 10 ∧ ∀ i, i < L.length → okAt L i = true := by
  unfold nfB at h
  simp only [Bool.and_eq_true, decide_eq_true_eq] at h
  exact ⟨h.1, allN_iff.1 h.2⟩
end Go.Proofs.YteapdildbfimnaaGreatDoor
namespace Go.Proofs
open Go.Shelf
def Tryz.growT_ren : Go.Shelf.Ren := ⟨fun | 4 => 55 | n => n, fun | 22 => 23 | 25 => 32 | 3 => 3 | 4 => 4 | 9 => 9 | 20 => 20 | 0 => 0 | n => n, fun | n => n⟩
theorem Tryz.growT : Lays8.n4 Tryz.prog Tryz.growT_ren := {
  mixed := by kernel_rfl
  f4 := ⟨Tryz.f55.name, by decide, Tryz.func55.trans (congrArg some (by kernel_rfl))⟩
  t0 := Tryz.underlying0
  a0 := Tryz.isAgg0
  z0 := Tryz.sizeOf0
  v0 := Tryz.zeroValue0
  t3 := Tryz.underlying3
  a3 := Tryz.isAgg3
  z3 := Tryz.sizeOf3
  v3 := Tryz.zeroValue3
  t4 := Tryz.underlying4
  a4 := Tryz.isAgg4
  z4 := Tryz.sizeOf4
  v4 := Tryz.zeroValue4
  t9 := Tryz.underlying9
  a9 := Tryz.isAgg9
  z9 := Tryz.sizeOf9
  v9 := Tryz.zeroValue9
  t20 := Tryz.underlying20
  a20 := Tryz.isAgg20
  z20 := Tryz.sizeOf20
  v20 := Tryz.zeroValue20
  t22 := Tryz.underlying23
  a22 := Tryz.isAgg23
  z22 := Tryz.sizeOf23
  v22 := Tryz.zeroValue23 }
end Go.Proofs
namespace Go.Proofs.YteapdildbfimnaaGreatDoor
open Go.RowKit Go.Proofs
set_option linter.unusedSimpArgs false
set_option linter.unusedVariables false
theorem sz_tss : elemSz Tryz.prog 59 = some 1 := by kernel_rfl
theorem ei_tss : elemInfo Tryz.prog 59 = some (23, [.slice none 0 0]) := by kernel_rfl
theorem ea_tss : elemAgg Tryz.prog 59 = some false := by kernel_rfl

theorem info_terms : ∃ i, Tryz.prog.info? 32 = some i ∧ i.zero = some (.slice none 0 0) ∧ i.size = 1 ∧ i.bytes = 24 :=
  ⟨(Tryz.prog.info? 32).get (by kernel_rfl), (Option.some_get _).symm, by kernel_rfl, by kernel_rfl, by kernel_rfl⟩
theorem zero_cells_sizeT (k : Nat) : (Builtin.zeroCells (Value.slice none 0 0).cells k).size = k := by
  simp [Builtin.zeroCells, Value.cells]

theorem growT_fn (n : Nat) (hn : n ≤ 4294967296) : Fn Tryz.prog 55 [.val (.slice none 0 0), vi n] (.one (.fr 1 0 ⟨32, 0, fun _ => .val (.slice none 0 0)⟩)) := by
  refine ⟨Tryz.call55, fun w S0 us hus => ?_⟩
  match us, hus with
  | [u0, u1], ⟨h0, h1, _⟩ =>
    obtain rfl : u0 = .slice none 0 0 := h0
    obtain rfl : u1 = .int .i64 n := h1
    rcases Nat.eq_zero_or_pos n with h | h
    · subst h
      refine (Any8.slices_Grow_room Tryz.growT none 0 0 0 w (by omega) (by omega) (by omega) (by omega)).mono ?_
      rintro e w' ⟨rfl, rfl⟩
      refine ⟨_, [none], rfl, ⟨rfl, Below.refl _ _, fun id blk hi => ?_, fun i j bi bj b z z' hi hj hb => ?_⟩, .inl ⟨rfl, rfl, rfl, rfl⟩⟩
      · cases id with
        | zero => cases hi; exact .inl ⟨rfl, rfl⟩
        | succ id => simp [bring, Res.list] at hi
      · cases i with
        | zero => simp at hb
        | succ i => simp at hb
    · obtain ⟨i0, hi, hz, hs, hb⟩ := info_terms
      refine (Any8.slices_Grow_grow Tryz.growT i0 _ hi hz (by omega) none 0 0 n [] w (by omega) (by omega) (by rw [hb]; omega) (by omega) (by simp) (fun _ => rfl) (fun a ha => by cases ha)).mono ?_
      rintro e w' ⟨rfl, rfl⟩
      have hG := grownCap_le_maxLen w (0 + n) 0 32 (by unfold maxLen; omega)
      have hG' := grownCap_ge w (0 + n) 0 32
      change grownCap w (0 + n) 0 (Tryz.growT_ren.t 25) ≤ maxLen at hG
      change 0 + n ≤ grownCap w (0 + n) 0 (Tryz.growT_ren.t 25) at hG'
      generalize grownCap w (0 + n) 0 (Tryz.growT_ren.t 25) = G at hG hG' ⊢
      generalize hcur : ([] : List Value).toArray ++ Builtin.zeroCells (Value.slice none 0 0).cells (0 + n - 0) ++ Builtin.zeroCells (Value.slice none 0 0).cells (G - (0 + n)) = cur
      have hsz : cur.size = G := by
        rw [← hcur, Array.size_append, Array.size_append, zero_cells_sizeT, zero_cells_sizeT]
        simp; omega
      refine ⟨_, [some (w.heap.size, cur.size)], rfl, ⟨rfl, ?_, fun id blk hi => ?_, fun i j bi bj b z z' hi hj hb => ?_⟩, .inr ⟨w.heap.size, G, cur.size, rfl, rfl, Nat.zero_le _, hG, by rw [hsz]; omega⟩⟩
      · exact (Below.drew (Below.refl _ _)).alloc (Nat.le_refl _) _
      · cases id with
        | zero =>
          cases hi
          exact .inr ⟨w.heap.size, cur, rfl, Nat.le_refl _, heap_alloc_new w.drew _, Nat.zero_le _, fun i hi => by cases hi⟩
        | succ id => simp [bring, Res.list] at hi
      · cases i with
        | zero =>
          cases j with
          | zero => intro _; rfl
          | succ j => simp [bring, Res.list] at hj
        | succ i => simp [bring, Res.list] at hi


def twoT (A B : List (List T3)) (k : Nat) : List (List T3) := if k = 0 then A else B
abbrev twoV (A B : List (List T3)) : V := .seq 1 2 fun k => termss (twoT A B k)
def catT (A B : List (List T3)) : Nat → V := fun i => terms (tsAt (A ++ B) i)
def preT (A B : List (List T3)) (k : Nat) : Nat := if k = 0 then 0 else if k = 1 then A.length else A.length + B.length
theorem preT_le (A B : List (List T3)) (k : Nat) : preT A B k ≤ A.length + B.length := by unfold preT; split <;> (try split) <;> omega
theorem preT_succ (A B : List (List T3)) {k : Nat} (h : k < 2) : preT A B (k + 1) = preT A B k + (twoT A B k).length := by
  rcases (show k = 0 ∨ k = 1 by omega) with rfl | rfl <;> simp [preT, twoT]
theorem catT_at (A B : List (List T3)) {k q : Nat} (h : k < 2) (hq : q < (twoT A B k).length) : catT A B (preT A B k + q) = terms (tsAt (twoT A B k) q) := by
  rcases (show k = 0 ∨ k = 1 by omega) with rfl | rfl
  · have hq : q < A.length := hq
    show terms (tsAt (A ++ B) (0 + q)) = terms (tsAt A q)
    rw [Nat.zero_add]
    simp only [tsAt]
    rw [List.getD, List.getElem?_append_left hq]; rfl
  · show terms (tsAt (A ++ B) (A.length + q)) = terms (tsAt B q)
    simp only [tsAt]
    rw [List.getD, List.getElem?_append_right (by omega), Nat.add_sub_cancel_left]; rfl

set_option maxHeartbeats 2000000 in
set_option maxRecDepth 100000 in
theorem concatT_fn (A B : List (List T3)) (hA : A.length ≤ 1073741824) (hB : B.length ≤ 1073741824) : Fn Tryz.prog 35 [twoV A B] (.one (.fr 1 (A.length + B.length) ⟨32, A.length + B.length, catT A B⟩)) := by
  have hg := growT_fn (A.length + B.length) (by omega)
  have hR : ∀ k, (twoT A B k).length ≤ 1073741824 := fun k => by unfold twoT; split <;> assumption
  have p2 : preT A B 2 = A.length + B.length := rfl
  have hpl := fun k => preT_le A B k
  refine Fn.of_body Tryz.call35 Tryz.func35 rfl Tryz.ntmps35 (ts := [2]) rfl (by simp) rfl (fun N => ?_)
  repeat' (first | (with_reducible first | refine then_normal ?_ | refine then_ret ?_ | refine then_exit ?_ | refine block_normal ?_ | refine block_ret ?_) | ((with_reducible show blockQ _ _ _ _); first | refine block_exit ?_ | refine block_exit_ne rfl ?_) | ((with_reducible show AWP _ _ _ _ _); first | (with_reducible first | refine AWP.seq ?_ | refine AWP.block ?_ | refine AWP.region ?_ | refine AWP.ret ?_ | refine AWP.exit ?_ | refine AWP.skip ?_) | refine AWP.drawn rfl (by kernel_rfl) ?_ | refine AWP.cond rfl ?_ ?_) | with_reducible refine ev_nil ?_ | ((first | ((with_reducible show evOps _ _ _ _ _ _); (first | refine ev_step rfl ?_ | refine ev_undef rfl rfl rfl ?_); intro K hK) | ((with_reducible show EvOpen _ _ _ _ _ _ _); refine ev_open ?_; intro K hK) | ((with_reducible show SkOpen _ _ _ _ _ _ _); refine sk_open ?_; intro K hK) | ((with_reducible show callK _ _ _ _ _ _ _ _); first | fail)); simp only [evOp, evQ, evB, withS, opd, kput, putS, upd, lookup, slotsOf, sz_tss, Nat.reduceEqDiff, Nat.reduceLT, ↓reduceIte, eq_self, true_and, Option.isSome_some]) | refine ev_guard rfl rfl rfl ?_ ?_ | ((with_reducible show retQ _ _ _ _); simp only [eq_self]) | (with_reducible refine hK _ ?_; clear hK K) | (with_reducible refine And.intro ?_ ?_) | (with_reducible intro hc; try simp only [eq_self] at hc) | omega)
  refine AWP.loop_entR [] (fun k : Nat => ⟨[(0, .one (.pv (twoV A B))), (3, sc (.int .i64 (preT A B k))), (9, .one (.pv (twoV A B))), (10, sc (.int .i64 2)), (11, sc (.int .i64 k))], [], 36⟩)
    (fun k => k ≤ 2) (fun k => 2 - k) 0 (by omega) (by simp [EntR, EntSR, EntHR, SlR, VE, VE.rfl', lookup, BE, upd, sc, preT]) ?_
  intro k hk
  have hrk := hR k
  have hpk := hpl k
  by_cases hk2 : k < 2
  · have hs := preT_succ A B hk2
    repeat' (first | (with_reducible first | refine then_normal ?_ | refine then_ret ?_ | refine then_exit ?_ | refine block_normal ?_ | refine block_ret ?_) | ((with_reducible show blockQ _ _ _ _); first | refine block_exit ?_ | refine block_exit_ne rfl ?_) | ((with_reducible show AWP _ _ _ _ _); first | (with_reducible first | refine AWP.seq ?_ | refine AWP.block ?_ | refine AWP.region ?_ | refine AWP.ret ?_ | refine AWP.exit ?_ | refine AWP.skip ?_) | refine AWP.drawn rfl (by kernel_rfl) ?_ | refine AWP.cond rfl ?_ ?_) | with_reducible refine ev_nil ?_ | ((first | ((with_reducible show evOps _ _ _ _ _ _); (first | refine ev_step rfl ?_ | refine ev_undef rfl rfl rfl ?_); intro K hK) | ((with_reducible show EvOpen _ _ _ _ _ _ _); refine ev_open ?_; intro K hK) | ((with_reducible show SkOpen _ _ _ _ _ _ _); refine sk_open ?_; intro K hK) | ((with_reducible show callK _ _ _ _ _ _ _ _); first | fail)); simp only [evOp, evQ, evB, binK, withS, opd, kput, putS, upd, lookup, argsK, InK_i64, sz_termss, sz_tss, c_termss, List.reverse_cons, List.reverse_nil, List.nil_append, List.cons_append, Nat.reduceEqDiff, Nat.reduceLT, Nat.mul_one, Nat.add_zero, ↓reduceIte, eq_self, true_and, Int.toNat_natCast, Option.isSome_some]) | refine ev_guard rfl rfl rfl ?_ ?_ | ((with_reducible show retQ _ _ _ _); simp only [eq_self]) | (with_reducible refine hK _ ?_; clear hK K) | (with_reducible refine And.intro ?_ ?_) | (with_reducible intro hc; try simp only [decide_eq_true_eq, decide_eq_false_iff_not, Int.not_lt] at hc) | omega)
    all_goals first
      | (exfalso; omega)
      | omega
      | (exact ⟨k + 1, by omega, by omega, [], rfl, by decide, by simp [EntSR, SlR, VE, VE.rfl', lookup, sc, hs], trivial⟩)
      | trace_state
  · obtain rfl : k = 2 := by omega
    rw [p2] at *
    repeat' (first | (with_reducible first | refine then_normal ?_ | refine then_ret ?_ | refine then_exit ?_ | refine block_normal ?_ | refine block_ret ?_) | ((with_reducible show blockQ _ _ _ _); first | refine block_exit ?_ | refine block_exit_ne rfl ?_) | ((with_reducible show AWP _ _ _ _ _); first | (with_reducible first | refine AWP.seq ?_ | refine AWP.block ?_ | refine AWP.region ?_ | refine AWP.ret ?_ | refine AWP.exit ?_ | refine AWP.skip ?_) | refine AWP.drawn rfl (by kernel_rfl) ?_ | refine AWP.cond rfl ?_ ?_) | with_reducible refine ev_nil ?_ | ((first | ((with_reducible show evOps _ _ _ _ _ _); (first | refine ev_step rfl ?_ | refine ev_undef rfl rfl rfl ?_); intro K hK) | ((with_reducible show EvOpen _ _ _ _ _ _ _); refine ev_open ?_; intro K hK) | ((with_reducible show SkOpen _ _ _ _ _ _ _); refine sk_open ?_; intro K hK) | ((with_reducible show callK _ _ _ _ _ _ _ _); first  | (refine call_pure ( hg) (Nat.le_of_ble_eq_true rfl) ?_))); simp only [evOp, evQ, evB, binK, withS, opd, kput, putS, upd, lookup, argsK, bringIn, bring, Res.list, Res.slot, InK_i64, sz_termss, sz_tss, c_termss, List.reverse_cons, List.reverse_nil, List.nil_append, List.cons_append, List.length_nil, Nat.reduceEqDiff, Nat.reduceLT, Nat.mul_one, Nat.add_zero, ↓reduceIte, eq_self, true_and, Int.toNat_natCast, Option.isSome_some]) | refine ev_guard rfl rfl rfl ?_ ?_ | ((with_reducible show retQ _ _ _ _); simp only [eq_self]) | (with_reducible refine hK _ ?_; clear hK K) | (with_reducible refine And.intro ?_ ?_) | (with_reducible intro hc; try simp only [decide_eq_true_eq, decide_eq_false_iff_not, Int.not_lt] at hc) | omega)
    all_goals try (exfalso; omega; done)
    refine AWP.loop_entR [0] (fun k : Nat => ⟨[(6, .one (.own 0 1 0 (preT A B k))), (25, .one (.pv (twoV A B))), (26, sc (.int .i64 2)), (27, sc (.int .i64 k))], [some ⟨32, preT A B k, catT A B⟩], 36⟩)
      (fun k => k ≤ 2) (fun k => 2 - k) 0 (by omega) (by simp [EntR, EntSR, EntHR, SlR, VE, VE.rfl', lookup, BE, upd, sc, preT]) ?_
    intro k hk
    have hrk := hR k
    have hpk := hpl k
    by_cases hk2 : k < 2
    · have hs := preT_succ A B hk2
      have hat := fun q => catT_at A B (q := q) hk2
      repeat' (first | (with_reducible first | refine then_normal ?_ | refine then_ret ?_ | refine then_exit ?_ | refine block_normal ?_ | refine block_ret ?_) | ((with_reducible show blockQ _ _ _ _); first | refine block_exit ?_ | refine block_exit_ne rfl ?_) | ((with_reducible show AWP _ _ _ _ _); first | (with_reducible first | refine AWP.seq ?_ | refine AWP.block ?_ | refine AWP.region ?_ | refine AWP.ret ?_ | refine AWP.exit ?_ | refine AWP.skip ?_) | refine AWP.drawn rfl (by kernel_rfl) ?_ | refine AWP.cond rfl ?_ ?_) | with_reducible refine ev_nil ?_ | ((first | ((with_reducible show evOps _ _ _ _ _ _); (first | refine ev_step rfl ?_ | refine ev_undef rfl rfl rfl ?_); intro K hK) | ((with_reducible show EvOpen _ _ _ _ _ _ _); refine ev_open ?_; intro K hK) | ((with_reducible show SkOpen _ _ _ _ _ _ _); refine sk_open ?_; intro K hK) | ((with_reducible show callK _ _ _ _ _ _ _ _); first | fail)); simp only [evOp, evQ, binK, withS, opd, kput, putS, upd, lookup, InK_i64, appendK, srcK, growK, V.one, List.set_cons_zero, sz_tss, c_termss, ei_termss, List.getElem?_cons_zero, List.nil_append, List.cons_append, List.length_cons, List.length_nil, Nat.reduceEqDiff, Nat.reduceLT, Nat.mul_one, Nat.add_zero, Nat.zero_add, ↓reduceIte, eq_self, true_and, forall_const, implies_true, Int.toNat_natCast]) | refine ev_guard rfl rfl rfl ?_ ?_ | ((with_reducible show retQ _ _ _ _); simp only [retQ, retOk, getL, lookup, Option.map_some, fitsL, fits, ND, srcs, Res.list, List.getElem?_cons_zero, Nat.reduceEqDiff, ↓reduceIte, and_true, true_and]) | (with_reducible refine hK _ ?_; clear hK K) | (with_reducible refine And.intro ?_ ?_) | (with_reducible intro hc; try simp only [decide_eq_true_eq, decide_eq_false_iff_not, Int.not_lt] at hc) | omega)
      all_goals first
        | (exfalso; omega)
        | omega
        | rfl
        | (exact ⟨k + 1, by omega, by omega, [1], rfl, by decide, by simp [EntSR, SlR, VE, VE.rfl', lookup, sc, hs], ⟨rfl, by show preT A B (k + 1) ≤ _; rw [hs]; exact Nat.le_refl _, fun q hq => VE.of_eq (by
            have hq : q < preT A B (k + 1) := hq
            show (if q < preT A B k then catT A B q else terms (tsAt (twoT A B k) (q - preT A B k))) = catT A B q
            by_cases h : q < preT A B k
            · rw [if_pos h]
            · rw [if_neg h, ← hat (q - preT A B k) (by omega), show preT A B k + (q - preT A B k) = q by omega])⟩, trivial⟩)
        | trace_state
    · obtain rfl : k = 2 := by omega
      have p3 : preT A B 2 = A.length + B.length := rfl
      repeat' (first | (with_reducible first | refine then_normal ?_ | refine then_ret ?_ | refine then_exit ?_ | refine block_normal ?_ | refine block_ret ?_) | ((with_reducible show blockQ _ _ _ _); first | refine block_exit ?_ | refine block_exit_ne rfl ?_) | ((with_reducible show AWP _ _ _ _ _); first | (with_reducible first | refine AWP.seq ?_ | refine AWP.block ?_ | refine AWP.region ?_ | refine AWP.ret ?_ | refine AWP.exit ?_ | refine AWP.skip ?_) | refine AWP.drawn rfl (by kernel_rfl) ?_ | refine AWP.cond rfl ?_ ?_) | with_reducible refine ev_nil ?_ | ((first | ((with_reducible show evOps _ _ _ _ _ _); (first | refine ev_step rfl ?_ | refine ev_undef rfl rfl rfl ?_); intro K hK) | ((with_reducible show EvOpen _ _ _ _ _ _ _); refine ev_open ?_; intro K hK) | ((with_reducible show SkOpen _ _ _ _ _ _ _); refine sk_open ?_; intro K hK) | ((with_reducible show callK _ _ _ _ _ _ _ _); first | fail)); simp only [evOp, evQ, binK, withS, opd, kput, putS, upd, lookup, InK_i64, appendK, srcK, growK, V.one, List.set_cons_zero, sz_tss, c_termss, ei_termss, List.getElem?_cons_zero, List.nil_append, List.cons_append, List.length_cons, List.length_nil, Nat.reduceEqDiff, Nat.reduceLT, Nat.mul_one, Nat.add_zero, Nat.zero_add, ↓reduceIte, eq_self, true_and, forall_const, implies_true, Int.toNat_natCast]) | refine ev_guard rfl rfl rfl ?_ ?_ | ((with_reducible show retQ _ _ _ _); simp only [retQ, retOk, getL, lookup, Option.map_some, fitsL, fits, ND, srcs, Res.list, List.getElem?_cons_zero, Nat.reduceEqDiff, ↓reduceIte, and_true, true_and]) | (with_reducible refine hK _ ?_; clear hK K) | (with_reducible refine And.intro ?_ ?_) | (with_reducible intro hc; try simp only [decide_eq_true_eq, decide_eq_false_iff_not, Int.not_lt] at hc) | omega)
      all_goals first
        | (exfalso; omega)
        | exact p3
        | (exact ⟨_, rfl, rfl, Nat.le_of_eq p3.symm, fun q _ => VE.rfl' _⟩)
        | (simp; done)
        | trace_state

theorem co_no {L : List (List T3)} (h : nfB L = false) : coR L = ([], false) := by unfold coR; rw [h]; rfl
theorem co_yes {L : List (List T3)} (h : nfB L = true) : coR L = ctdR (fmL L) := by
  have h10 : L.length ≤ 10 := by
    by_cases h1 : L.length ≤ 10
    · exact h1
    · rw [nfB_long h1] at h; cases h
  have hc := catX_len (fmL L) (fmL L).length
  rw [fmL_len] at hc
  unfold coR
  rw [h, ctd_yes (by rw [fmL_len]; omega)]; rfl

set_option maxHeartbeats 4000000 in
set_option maxRecDepth 20000 in
theorem implCatOf_E (L : List (List T3)) (hl : L.length ≤ 1099511627776) (hr : ∀ i, i < L.length → (tsAt L i).length ≤ 1099511627776) : FnE Tryz.prog 5 [termss L] (tfE (coR L).1.length (tsAt (coR L).1) (coR L).2) := by
  refine FnE.of_body (fun N => [.old (fun b => b < N) (termss L)]) (fun _ us h => oldL_rd _ us h) Tryz.call5 Tryz.func5 rfl Tryz.ntmps5 (ts := [2, 3]) rfl (fun _ => by simp) (tfE.shape) (fun N => ?_)
  have hnf := (normalForms_E L hl hr).bare (vs' := [.old (fun b => b < N) (termss L)]) ⟨VE.rfl' (termss L), trivial⟩
  cases hb : nfB L with
  | false =>
    rw [co_no hb]
    rw [hb] at hnf
    simp only [if_false, Bool.false_eq_true] at hnf
    repeat' (first | ((with_reducible show callEK _ _ _ _ _ _ _); simp only [callEK, opd, upd, lookup, argsK, bringIn, Res.list, Res.slot, List.reverse_cons, List.reverse_nil, List.nil_append, List.cons_append, List.length_nil, Nat.reduceEqDiff, Nat.reduceLT, ↓reduceIte, eq_self, true_and]; refine ⟨_, hnf, ?_⟩; rintro _ ⟨F1, hF1, rfl⟩ hnew; simp only [Res.list, NewL, and_true, true_and] at hnew; simp only [bring, List.nil_append, List.length_nil]) | (with_reducible first | refine then_normal ?_ | refine then_ret ?_ | refine then_exit ?_ | refine block_normal ?_ | refine block_ret ?_) | ((with_reducible show blockQ _ _ _ _); first | refine block_exit ?_ | refine block_exit_ne rfl ?_) | ((with_reducible show AWP _ _ _ _ _); first | (refine AWP.region_callE (f := 22) (os1 := [_]) ?_) | (with_reducible first | refine AWP.seq ?_ | refine AWP.block ?_ | refine AWP.region ?_ | refine AWP.ret ?_ | refine AWP.exit ?_ | refine AWP.skip ?_) | refine AWP.drawn rfl (by kernel_rfl) ?_ | refine AWP.cond rfl ?_ ?_) | with_reducible refine ev_nil ?_ | ((first | ((with_reducible show evOps _ _ _ _ _ _); (first | refine ev_step rfl ?_ | refine ev_undef rfl rfl rfl ?_); intro K hK) | ((with_reducible show EvOpen _ _ _ _ _ _ _); refine ev_open ?_; intro K hK) | ((with_reducible show SkOpen _ _ _ _ _ _ _); refine sk_open ?_; intro K hK) | ((with_reducible show callK _ _ _ _ _ _ _ _); first  | fail)); simp only [evOp, evQ, withS, opd, kput, putS, upd, lookup, slotsOf, List.getElem?_cons_zero, List.getElem?_cons_succ, Nat.reduceEqDiff, Nat.reduceLT, ↓reduceIte, eq_self, true_and, Bool.not_false]) | refine ev_guard rfl rfl rfl ?_ ?_ | ((with_reducible show retQ _ _ _ _); simp only [eq_self]) | (with_reducible refine hK _ ?_; clear hK K) | (with_reducible refine And.intro ?_ ?_) | (with_reducible intro hc; try simp only [Bool.true_eq_false] at hc) | omega)
    all_goals first
      | (exfalso; omega)
      | skip
    refine ⟨_, ⟨fun _ => .val undef, fun i hi => by simp at hi, rfl⟩, ⟨fun i hi => by simp at hi, trivial, trivial⟩, ?_⟩
    simp only [retOk, getL, lookup, Option.map_some, fitsL, fits, ND, srcs, Res.list, VE, Nat.reduceEqDiff, ↓reduceIte, and_true]
    try simp
  | true =>
    rw [co_yes hb]
    have hok : ∀ i, i < L.length → okAt L i = true := fun i hi => by
      unfold nfB at hb
      simp only [Bool.and_eq_true] at hb
      exact allN_iff.1 hb.2 i hi
    rw [hb] at hnf
    simp only [if_true] at hnf
    have hcat := catalogued_E (fmL L) (by rw [fmL_len]; exact hl) (fun i hi => by
      rw [fmL_len] at hi
      rw [fmL_at hi]
      refine ⟨?_, nf_len (hok i hi), Sml.of_nf (hok i hi)⟩
      have hp := (normR_get (hok i hi)).2.1
      show 1 ≤ (normR (tsAt L i)).1.length
      rw [(normR_get (hok i hi)).2.2]
      exact (planeB_parts hp).1.1)
    repeat' (first | ((with_reducible show callEK _ _ _ _ _ _ _); simp only [callEK, opd, upd, lookup, argsK, bringIn, Res.list, Res.slot, List.reverse_cons, List.reverse_nil, List.nil_append, List.cons_append, Nat.reduceEqDiff, Nat.reduceLT, ↓reduceIte, eq_self, true_and]; refine ⟨_, hnf, ?_⟩; rintro _ ⟨F1, hF1, rfl⟩ hnew; simp only [Res.list, NewL, and_true, true_and] at hnew; simp only [bring, List.nil_append, List.length_nil]) | (with_reducible first | refine then_normal ?_ | refine then_ret ?_ | refine then_exit ?_ | refine block_normal ?_ | refine block_ret ?_) | ((with_reducible show blockQ _ _ _ _); first | refine block_exit ?_ | refine block_exit_ne rfl ?_) | ((with_reducible show AWP _ _ _ _ _); first | (refine AWP.holdC (id := 4) ?_) | (refine AWP.region_callE (f := 22) (os1 := [_]) ?_) | (with_reducible first | refine AWP.seq ?_ | refine AWP.block ?_ | refine AWP.region ?_ | refine AWP.ret ?_ | refine AWP.exit ?_ | refine AWP.skip ?_) | refine AWP.drawn rfl (by kernel_rfl) ?_ | refine AWP.cond rfl ?_ ?_) | with_reducible refine ev_nil ?_ | ((first | ((with_reducible show evOps _ _ _ _ _ _); (first | refine ev_step rfl ?_ | refine ev_undef rfl rfl rfl ?_); intro K hK) | ((with_reducible show EvOpen _ _ _ _ _ _ _); refine ev_open ?_; intro K hK) | ((with_reducible show SkOpen _ _ _ _ _ _ _); refine sk_open ?_; intro K hK) | ((with_reducible show callK _ _ _ _ _ _ _ _); first  | fail)); simp only [evOp, evQ, withS, opd, kput, putS, upd, lookup, slotsOf, List.getElem?_cons_zero, List.getElem?_cons_succ, Nat.reduceEqDiff, Nat.reduceLT, ↓reduceIte, eq_self, true_and, Bool.not_true]) | refine ev_guard rfl rfl rfl ?_ ?_ | ((with_reducible show retQ _ _ _ _); simp only [eq_self]) | (with_reducible refine hK _ ?_; clear hK K) | (with_reducible refine And.intro ?_ ?_) | (with_reducible intro hc; try simp only [reduceCtorEq] at hc) | omega)
    all_goals try (exfalso; omega; done)
    clear hnew
    unfold HoldC
    have hcat' : ∀ (u : Value) (Z : Nat → Prop), FnE Tryz.prog 23 [.row u Z 1 L.length F1] (tfE (ctdR (fmL L)).1.length (tsAt (ctdR (fmL L)).1) (ctdR (fmL L)).2) := fun u Z => hcat.bare ⟨⟨rfl, (fmL_len L).symm, fun i hi => by
      have hi : i < L.length := by omega
      show Bare (F1 i) (terms (tsAt (fmL L) i))
      rw [fmL_at hi]; exact (hF1 i hi).1.bare⟩, trivial⟩
    generalize ctdR (fmL L) = R at *
    repeat' (first | ((with_reducible show evNx _ _ _ _ _ _); first | (with_reducible refine nx_done ?_) | (refine nx_one rfl ?_) | (refine nx_alt rfl ?_ ?_) | (with_reducible refine nx_st ?_)) | ((with_reducible show evSx _ _ _ _ _ _); first | (with_reducible refine sx_done ?_) | (with_reducible refine sx_st ?_) | (with_reducible refine sx_op ?_)) | ((with_reducible show evTake _ _ _ _ _); with_reducible refine take_nil ?_) | ((with_reducible show evSy _ _ _ _ _ _ _); first | (with_reducible refine sy_done ?_) | (refine sy_last rfl ?_) | (refine sy_one (by decide) rfl ?_) | (refine sy_alt (by decide) rfl ?_ ?_) | (with_reducible refine sy_st ?_)) | ((with_reducible show StK _ _ _); first | (refine stk_letRow (letRow_go (t := 4) rfl rfl (by simp) ?_) ; intro u1 Z1 hZ1 hD1 ; simp only [upd, List.set_cons_zero, Nat.reduceEqDiff, ↓reduceIte, eq_self]) | fail) | (with_reducible first | refine then_normal ?_ | refine then_ret ?_ | refine then_exit ?_ | refine block_normal ?_ | refine block_ret ?_) | ((with_reducible show blockQ _ _ _ _); first | refine block_exit ?_ | refine block_exit_ne rfl ?_) | ((with_reducible show AWP _ _ _ _ _); first | (refine AWP.region_sx (id := 4) [.st, .op, .op, .op, .op, .op, .op] ?_) | (with_reducible first | refine AWP.seq ?_ | refine AWP.block ?_ | refine AWP.region ?_ | refine AWP.ret ?_ | refine AWP.exit ?_ | refine AWP.skip ?_) | refine AWP.drawn rfl (by kernel_rfl) ?_ | refine AWP.cond rfl ?_ ?_) | with_reducible refine ev_nil ?_ | ((first | ((with_reducible show evNx _ _ _ _ _ _); refine nx_take rfl ?_; intro K hK) | ((with_reducible show Ax _ _ _ _ _); first | (refine ax_callE (f := 23) ?_) | (refine ax_op rfl ?_; intro K hK)) | ((with_reducible show evTake _ _ _ _ _); refine take_step rfl ?_; intro K hK) | ((with_reducible show evSy _ _ _ _ _ _ _); refine sy_take rfl ?_; intro K hK) | ((with_reducible show AxB _ _ _ _ _); first | (refine axb_callE (f := 23) ?_) | (refine axb_op rfl rfl ?_; intro K hK)) | (refine ⟨_, hcat' _ _, ?_⟩; rintro _ ⟨F2, hF2, rfl⟩ hn2; simp only [Res.list, NewL, and_true, true_and] at hn2) | ((with_reducible show evOps _ _ _ _ _ _); (first | refine ev_step rfl ?_ | refine ev_undef rfl rfl rfl ?_); intro K hK) | ((with_reducible show EvOpen _ _ _ _ _ _ _); refine ev_open ?_; intro K hK) | ((with_reducible show SkOpen _ _ _ _ _ _ _); refine sk_open ?_; intro K hK) | ((with_reducible show callK _ _ _ _ _ _ _ _); first  | fail)); simp only [callEK, evOp, evQ, withS, opd, kput, putS, upd, lookup, argsK, bringIn, bring, Res.list, Res.slot, List.getElem?_cons_zero, List.getElem?_cons_succ, List.reverse_cons, List.reverse_nil, List.nil_append, List.cons_append, List.length_cons, List.length_nil, Nat.reduceEqDiff, Nat.reduceLT, Nat.zero_add, ↓reduceIte, eq_self, true_and]) | refine ev_guard rfl rfl rfl ?_ ?_ | ((with_reducible show retQ _ _ _ _); simp only [eq_self]) | (with_reducible refine hK _ ?_; clear hK K) | (with_reducible refine And.intro ?_ ?_) | (with_reducible intro hc; try simp only [eq_self] at hc) | omega)
    all_goals first
      | (exfalso; omega)
      | exact (hF1 _ (by assumption)).1.one
      | skip
    refine ⟨_, ⟨F2, hF2, rfl⟩, ⟨fun i hi => NewV.mono (fun Z hZ j hj => hZ.1 j hj) _ (hn2.1 i hi), trivial, trivial⟩, ?_⟩
    simp only [retOk, getL, lookup, Option.map_some, fitsL, fits, ND, srcs, Res.list, VE, List.getElem?_cons_zero, List.getElem?_cons_succ, Nat.reduceEqDiff, ↓reduceIte, and_true, true_and]
    exact ⟨⟨_, rfl, BE.rfl' _⟩, by simp⟩

theorem mc_no1 {A B : List (List T3)} (h : ctB A = false) : mcR A B = ([], false) := by unfold mcR; rw [h]; rfl
theorem mc_no2 {A B : List (List T3)} (h : ctB B = false) : mcR A B = ([], false) := by unfold mcR; rw [h, Bool.and_false]; rfl
theorem mc_yes {A B : List (List T3)} (h : ctB A = true) (h2 : ctB B = true) : mcR A B = ctdR (A ++ B) := by unfold mcR; rw [h, h2]; rfl
theorem ct_row {L : List (List T3)} (h : ctB L = true) {i : Nat} (hi : i < L.length) : 1 ≤ (tsAt L i).length ∧ (tsAt L i).length ≤ 12 ∧ Sml (tsAt L i) := by
  have hk := (ctB_is h).2 i hi
  obtain ⟨h1, h2⟩ := ctkB_eq hk
  have hs := ctk_sml hk
  have hp := (normR_get h1).2.1
  have e : normL (tsAt L i) = tsAt L i := by
    have := (normR_get h1).2.2
    have e2 : (normR (tsAt L i)).1 = tsAt L i := h2
    rw [this] at e2; exact e2
  rw [e] at hp
  exact ⟨(planeB_parts hp).1.1, hs.2, hs.1⟩

set_option maxHeartbeats 4000000 in
set_option maxRecDepth 20000 in
theorem implMerge_E (A B : List (List T3)) (hA : A.length ≤ 1099511627776) (hB : B.length ≤ 1099511627776) (hrA : ∀ i, i < A.length → (tsAt A i).length ≤ 1099511627776) (hrB : ∀ i, i < B.length → (tsAt B i).length ≤ 1099511627776) : FnE Tryz.prog 13 [termss A, termss B] (tfE (mcR A B).1.length (tsAt (mcR A B).1) (mcR A B).2) := by
  have hia := isCatalogue_fn A hA hrA
  have hib := isCatalogue_fn B hB hrB
  refine FnE.of_body (fun N => [.old (fun b => b < N) (termss A), .old (fun b => b < N) (termss B)]) (fun _ us h => oldL_rd _ us h) Tryz.call13 Tryz.func13 rfl Tryz.ntmps13 (ts := [4, 5]) rfl (fun _ => by simp) (tfE.shape) (fun N => ?_)
  have hia' := hia.bare (vs' := [.old (fun b => b < N) (termss A)]) ⟨VE.rfl' (termss A), trivial⟩
  have hib' := hib.bare (vs' := [.old (fun b => b < N) (termss B)]) ⟨VE.rfl' (termss B), trivial⟩
  cases ha : ctB A with
  | false =>
    rw [mc_no1 ha]
    rw [ha] at hia'
    repeat' (first | (with_reducible first | refine then_normal ?_ | refine then_ret ?_ | refine then_exit ?_ | refine block_normal ?_ | refine block_ret ?_) | ((with_reducible show blockQ _ _ _ _); first | refine block_exit ?_ | refine block_exit_ne rfl ?_) | ((with_reducible show AWP _ _ _ _ _); first | (with_reducible first | refine AWP.seq ?_ | refine AWP.block ?_ | refine AWP.region ?_ | refine AWP.ret ?_ | refine AWP.exit ?_ | refine AWP.skip ?_) | refine AWP.drawn rfl (by kernel_rfl) ?_ | refine AWP.cond rfl ?_ ?_) | with_reducible refine ev_nil ?_ | ((first | ((with_reducible show evOps _ _ _ _ _ _); (first | refine ev_step rfl ?_ | refine ev_undef rfl rfl rfl ?_); intro K hK) | ((with_reducible show EvOpen _ _ _ _ _ _ _); refine ev_open ?_; intro K hK) | ((with_reducible show SkOpen _ _ _ _ _ _ _); refine sk_open ?_; intro K hK) | ((with_reducible show callK _ _ _ _ _ _ _ _); first  | (refine call_scalar (hia') (Nat.le_of_ble_eq_true rfl) rfl ?_) | (refine call_scalar (hib') (Nat.le_of_ble_eq_true rfl) rfl ?_))); simp only [evOp, evQ, withS, opd, kput, putS, upd, lookup, skipOp, argsK, bringIn, bring, Res.list, Res.slot, slotsOf, List.reverse_cons, List.reverse_nil, List.nil_append, Nat.reduceEqDiff, Nat.reduceLT, Nat.zero_add, ↓reduceIte, eq_self, true_and, and_true, Bool.not_false, Bool.true_eq_false, false_implies, forall_const]) | refine ev_guard rfl rfl rfl ?_ ?_ | ((with_reducible show retQ _ _ _ _); simp only [eq_self]) | (with_reducible refine hK _ ?_; clear hK K) | (with_reducible refine And.intro ?_ ?_) | (with_reducible intro hc; try simp only [Bool.not_false, Bool.true_eq_false] at hc) | omega)
    all_goals first
      | (exfalso; omega)
      | skip
    all_goals
      refine ⟨_, ⟨fun _ => .val undef, fun i hi => by simp at hi, rfl⟩, ⟨fun i hi => by simp at hi, trivial, trivial⟩, ?_⟩
      simp only [retOk, getL, lookup, Option.map_some, fitsL, fits, ND, srcs, Res.list, VE, Nat.reduceEqDiff, ↓reduceIte, and_true]
      simp
  | true =>
    cases hb : ctB B with
    | false =>
      rw [mc_no2 hb]
      rw [ha] at hia'
      rw [hb] at hib'
      repeat' (first | (with_reducible first | refine then_normal ?_ | refine then_ret ?_ | refine then_exit ?_ | refine block_normal ?_ | refine block_ret ?_) | ((with_reducible show blockQ _ _ _ _); first | refine block_exit ?_ | refine block_exit_ne rfl ?_) | ((with_reducible show AWP _ _ _ _ _); first | (with_reducible first | refine AWP.seq ?_ | refine AWP.block ?_ | refine AWP.region ?_ | refine AWP.ret ?_ | refine AWP.exit ?_ | refine AWP.skip ?_) | refine AWP.drawn rfl (by kernel_rfl) ?_ | refine AWP.cond rfl ?_ ?_) | with_reducible refine ev_nil ?_ | ((first | ((with_reducible show evOps _ _ _ _ _ _); (first | refine ev_step rfl ?_ | refine ev_undef rfl rfl rfl ?_); intro K hK) | ((with_reducible show EvOpen _ _ _ _ _ _ _); refine ev_open ?_; intro K hK) | ((with_reducible show SkOpen _ _ _ _ _ _ _); refine sk_open ?_; intro K hK) | ((with_reducible show callK _ _ _ _ _ _ _ _); first  | (refine call_scalar (hia') (Nat.le_of_ble_eq_true rfl) rfl ?_) | (refine call_scalar (hib') (Nat.le_of_ble_eq_true rfl) rfl ?_))); simp only [evOp, evQ, withS, opd, kput, putS, upd, lookup, argsK, bringIn, bring, Res.list, Res.slot, slotsOf, List.reverse_cons, List.reverse_nil, List.nil_append, Nat.reduceEqDiff, Nat.reduceLT, Nat.zero_add, ↓reduceIte, eq_self, true_and, Bool.not_true, Bool.not_false, Bool.false_eq_true, false_implies, forall_const]) | refine ev_guard rfl rfl rfl ?_ ?_ | ((with_reducible show retQ _ _ _ _); simp only [eq_self]) | (with_reducible refine hK _ ?_; clear hK K) | (with_reducible refine And.intro ?_ ?_) | (with_reducible intro hc; try simp only [Bool.not_false, reduceCtorEq, Bool.true_eq_false] at hc) | omega)
      all_goals first
        | (exfalso; omega)
        | skip
      all_goals
        refine ⟨_, ⟨fun _ => .val undef, fun i hi => by simp at hi, rfl⟩, ⟨fun i hi => by simp at hi, trivial, trivial⟩, ?_⟩
        simp only [retOk, getL, lookup, Option.map_some, fitsL, fits, ND, srcs, Res.list, VE, Nat.reduceEqDiff, ↓reduceIte, and_true]
        simp
    | true =>
      rw [mc_yes ha hb]
      rw [ha] at hia'
      rw [hb] at hib'
      have hA10 := (ctB_is ha).1
      have hB10 := (ctB_is hb).1
      have hcat := catalogued_E (A ++ B) (by rw [List.length_append]; omega) (fun i hi => by
        rw [List.length_append] at hi
        by_cases h : i < A.length
        · have e : tsAt (A ++ B) i = tsAt A i := by simp only [tsAt]; rw [List.getD, List.getElem?_append_left h]; rfl
          rw [e]; exact ct_row ha h
        · have e : tsAt (A ++ B) i = tsAt B (i - A.length) := by simp only [tsAt]; rw [List.getD, List.getElem?_append_right (by omega)]; rfl
          rw [e]; exact ct_row hb (by omega))
      have hcat' : FnE Tryz.prog 23 [.seq 1 (A.length + B.length) fun i => catT A B i] (tfE (ctdR (A ++ B)).1.length (tsAt (ctdR (A ++ B)).1) (ctdR (A ++ B)).2) := hcat.bare ⟨⟨rfl, by rw [List.length_append], fun i hi => VE.rfl' _⟩, trivial⟩
      have hco : ∀ (u : Value) (Z : Nat → Prop) (f : Nat → V), f 0 = .old (fun b => b < N) (termss A) → f 1 = .old (fun b => b < N) (termss B) → Fn Tryz.prog 35 [.row u Z 1 2 f] (.one (.fr 1 (A.length + B.length) ⟨32, A.length + B.length, catT A B⟩)) := fun u Z f h0 h1 => (concatT_fn A B (by omega) (by omega)).bare ⟨⟨rfl, rfl, fun i hi => by
        rcases (show i = 0 ∨ i = 1 by omega) with rfl | rfl
        · rw [h0]; exact VE.rfl' (termss A)
        · rw [h1]; exact VE.rfl' (termss B)⟩, trivial⟩
      generalize ctdR (A ++ B) = R at *
      repeat' (first | ((with_reducible show evNx _ _ _ _ _ _); first | (with_reducible refine nx_done ?_) | (refine nx_one rfl ?_) | (refine nx_alt rfl ?_ ?_) | (with_reducible refine nx_st ?_)) | ((with_reducible show evSx _ _ _ _ _ _); first | (with_reducible refine sx_done ?_) | (with_reducible refine sx_st ?_) | (with_reducible refine sx_op ?_)) | ((with_reducible show evTake _ _ _ _ _); with_reducible refine take_nil ?_) | ((with_reducible show evSy _ _ _ _ _ _ _); first | (with_reducible refine sy_done ?_) | (refine sy_last rfl ?_) | (refine sy_one (by decide) rfl ?_) | (refine sy_alt (by decide) rfl ?_ ?_) | (with_reducible refine sy_st ?_)) | ((with_reducible show StK _ _ _); first | (refine stk_letRow (letRow_go (t := 16) rfl rfl (by simp) ?_) ; intro u1 Z1 hZ1 hD1 ; simp only [upd, List.set_cons_zero, Nat.reduceEqDiff, ↓reduceIte, eq_self]) | fail) | (with_reducible first | refine then_normal ?_ | refine then_ret ?_ | refine then_exit ?_ | refine block_normal ?_ | refine block_ret ?_) | ((with_reducible show blockQ _ _ _ _); first | refine block_exit ?_ | refine block_exit_ne rfl ?_) | ((with_reducible show AWP _ _ _ _ _); first | (refine AWP.region_sx (id := 3) [.op, .op, .op, .st, .op, .op, .op, .op, .op, .op] ?_) | (with_reducible first | refine AWP.seq ?_ | refine AWP.block ?_ | refine AWP.region ?_ | refine AWP.ret ?_ | refine AWP.exit ?_ | refine AWP.skip ?_) | refine AWP.drawn rfl (by kernel_rfl) ?_ | refine AWP.cond rfl ?_ ?_) | with_reducible refine ev_nil ?_ | ((first | ((with_reducible show evNx _ _ _ _ _ _); refine nx_take rfl ?_; intro K hK) | ((with_reducible show Ax _ _ _ _ _); first | (refine ax_callE (f := 23) ?_) | (refine ax_op rfl ?_; intro K hK)) | ((with_reducible show evTake _ _ _ _ _); refine take_step rfl ?_; intro K hK) | ((with_reducible show evSy _ _ _ _ _ _ _); refine sy_take rfl ?_; intro K hK) | ((with_reducible show AxB _ _ _ _ _); first | (refine axb_callE (f := 23) ?_) | (refine axb_op rfl rfl ?_; intro K hK)) | (refine ⟨_, hcat', ?_⟩; rintro _ ⟨F2, hF2, rfl⟩ hn2; simp only [Res.list, NewL, and_true, true_and] at hn2) | ((with_reducible show evOps _ _ _ _ _ _); (first | refine ev_step rfl ?_ | refine ev_undef rfl rfl rfl ?_); intro K hK) | ((with_reducible show EvOpen _ _ _ _ _ _ _); refine ev_open ?_; intro K hK) | ((with_reducible show SkOpen _ _ _ _ _ _ _); refine sk_open ?_; intro K hK) | ((with_reducible show callK _ _ _ _ _ _ _ _); first  | (refine call_scalar (hia') (Nat.le_of_ble_eq_true rfl) rfl ?_) | (refine call_scalar (hib') (Nat.le_of_ble_eq_true rfl) rfl ?_) | (refine call_pure ( hco _ _ _ rfl rfl) (Nat.le_of_ble_eq_true rfl) ?_))); simp only [callEK, evOp, evQ, withS, opd, kput, putS, upd, lookup, argsK, bringIn, bring, Res.list, Res.slot, slotsOf, frz, newBlk, partsK, buildSliceK, plSlice, V.one, ei_tss, ea_tss, List.getElem?_cons_zero, List.getElem?_cons_succ, List.reverse_cons, List.reverse_nil, List.nil_append, List.cons_append, List.length_cons, List.length_nil, Nat.reduceEqDiff, Nat.reduceAdd, Nat.reduceLT, Nat.reduceLeDiff, Nat.mul_one, Nat.zero_add, Nat.mod_one, List.getD_cons_zero, ↓reduceIte, eq_self, true_and, Bool.not_true, Bool.false_eq_true, false_implies, forall_const]) | refine ev_guard rfl rfl rfl ?_ ?_ | ((with_reducible show retQ _ _ _ _); simp only [eq_self]) | (with_reducible refine hK _ ?_; clear hK K) | (with_reducible refine And.intro ?_ ?_) | (with_reducible intro hc; try simp only [Bool.not_false, reduceCtorEq] at hc) | omega)
      all_goals first
        | (exfalso; omega)
        | skip
      refine ⟨_, ⟨F2, hF2, rfl⟩, ⟨fun i hi => NewV.mono (fun Z hZ j hj => hZ.1 j hj) _ (hn2.1 i hi), trivial, trivial⟩, ?_⟩
      simp only [retOk, getL, lookup, Option.map_some, fitsL, fits, ND, srcs, Res.list, VE, List.getElem?_cons_zero, List.getElem?_cons_succ, Nat.reduceEqDiff, ↓reduceIte, and_true, true_and]
      exact ⟨⟨_, rfl, BE.rfl' _⟩, by simp⟩
end Go.Proofs.YteapdildbfimnaaGreatDoor
namespace Go.Proofs.YteapdildbfimnaaGreatDoor
open Go.RowKit Go.Proofs
set_option linter.unusedSimpArgs false
set_option linter.unusedVariables false

/-- A value is told with less said. -/
theorem stk_bare {N t : Nat} {s : ASt} {K : ASt → Prop} {v v' : V} (ht : lookup s.σ t = some (.one (.pv v))) (hb : Bare v v') (h : K ⟨upd s.σ t (.one (.pv v')), s.h, s.nt⟩) : StK N s K := fun w0 S0 φ a w hN sim => by
  refine ⟨_, φ, h, ⟨sim.heap, fun t' x hx => ?_, sim.defers, sim.size⟩⟩
  rw [lookup_upd] at hx
  split at hx
  · rename_i e; subst e; injection hx with hx; subst hx
    obtain ⟨u, hu, hr⟩ := sim.slots _ _ ht
    exact ⟨u, hu, Bare.rd v v' u hb hr⟩
  · exact sim.slots t' x hx
/-- A nil slice is a slice of no cells. -/
theorem AWP.nilSeq [Cx] {P : Program} {N : Nat} {c : Code} {Q : Exit → ASt → Prop} {s : ASt} (t sz : Nat) (f : Nat → V) (ht : lookup s.σ t = some (sc (.slice none 0 0))) (h : AWP N P c Q ⟨upd s.σ t (.one (.pv (.seq sz 0 f))), s.h, s.nt⟩) : AWP N P c Q s := by
  refine AWP.of_step fun w0 S0 φ a w hN sim => ⟨_, φ, h, ⟨sim.heap, fun t' x hx => ?_, sim.defers, sim.size⟩⟩
  rw [lookup_upd] at hx
  split at hx
  · rename_i e; subst e; injection hx with hx; subst hx
    obtain ⟨u, hu, hr⟩ := sim.slots _ _ ht
    have hr : u = .slice none 0 0 := hr
    exact ⟨u, hu, none, 0, hr, Nat.le_refl _, fun h => by simp at h⟩
  · exact sim.slots t' x hx

theorem ts_put {M : List (List T3)} {l : List T3} {k j : Nat} (hk : k ≤ M.length) : tsAt (M.take k ++ l :: M.drop k) j = if j < k then tsAt M j else if j = k then l else tsAt M (j - 1) := by
  simp only [tsAt, List.getD]
  by_cases h : j < k
  · rw [if_pos h, List.getElem?_append_left (by simp; omega), List.getElem?_take_of_lt h]
  · rw [if_neg h, List.getElem?_append_right (by simp; omega), List.length_take, Nat.min_eq_left hk]
    by_cases e : j = k
    · subst e; rw [if_pos rfl, Nat.sub_self]; rfl
    · rw [if_neg e]
      obtain ⟨d, hd⟩ : ∃ d, j - k = d + 1 := ⟨j - k - 1, by omega⟩
      rw [hd, List.getElem?_cons_succ, List.getElem?_drop, show k + d = j - 1 by omega]
theorem put_same {M : List (List T3)} {l : List T3} {k : Nat} (hc : cntX l M = k) (hk : k < M.length) (h : tsAt M k = l) : putX M l = M := by
  unfold putX; rw [hc, if_pos ⟨hk, h⟩]
theorem put_new {M : List (List T3)} {l : List T3} {k : Nat} (hc : cntX l M = k) (h : k < M.length → tsAt M k ≠ l) : putX M l = M.take k ++ l :: M.drop k := by
  unfold putX; rw [hc, if_neg (fun e => h e.1 e.2)]

theorem put_bare {M : List (List T3)} {l : List T3} {k n : Nat} {u v : Value} {Z Z' : Nat → Prop} {F : Nat → V} {z : V} (hk : k ≤ M.length) (hn : n = M.length + 1)
    (hF : ∀ j, j < n → F j = if j < k + 1 then (if j < k then terms (tsAt M j) else if j - k = 0 then .row v Z' 3 l.length (fun i => vi (tf l i)) else z) else terms (tsAt M (k + (j - (k + 1))))) : Bare (.row u Z 1 n F) (termss (M.take k ++ l :: M.drop k)) := by
  refine ⟨rfl, by rw [hn]; simp; omega, fun j hj => ?_⟩
  have hj : j < n := by omega
  show Bare (F j) (terms (tsAt (M.take k ++ l :: M.drop k) j))
  rw [hF j hj, ts_put hk]
  by_cases h1 : j < k
  · rw [if_pos (by omega), if_pos h1, if_pos h1]; exact VE.rfl' (terms _)
  · by_cases h2 : j = k
    · subst h2
      rw [if_pos (by omega), if_neg h1, if_pos (by omega), if_neg h1, if_pos rfl]
      exact ⟨rfl, rfl, fun i hi => rfl⟩
    · rw [if_neg (by omega), if_neg h1, if_neg h2, show k + (j - (k + 1)) = j - 1 by omega]; exact VE.rfl' (terms _)

/-- An own slice is let go and told with less said. -/
theorem stk_letSeq {N t id sz n : Nat} {s : ASt} {K : ASt → Prop} {blk : Blk} {v' : V} (ht : lookup s.σ t = some (.one (.own id sz 0 n))) (hb : s.h[id]? = some (some blk)) (hn : n * sz ≤ blk.n) (hv : ∀ (u : Value) (Z : Nat → Prop), Bare (.row u Z sz n blk.f) v')
    (h : K ⟨upd s.σ t (.one (.pv v')), s.h.set id none, s.nt⟩) : StK N s K := by
  intro w0 S0 φ a w hN sim
  obtain ⟨s1, hK, sim1⟩ := letRow_ok (K := fun s' => ∃ u Z, s' = ⟨upd s.σ t (.one (.pv (.row u Z sz n blk.f))), s.h.set id none, s.nt⟩) hN sim ⟨id, sz, n, blk, ht, hb, hn, fun u Z _ _ => ⟨u, Z, rfl⟩⟩
  obtain ⟨u, Z, rfl⟩ := hK
  refine ⟨_, φ, h, ⟨sim1.heap, fun t' x hx => ?_, sim1.defers, sim1.size⟩⟩
  rw [lookup_upd] at hx
  split at hx
  · rename_i e; subst e; injection hx with hx; subst hx
    obtain ⟨u', hu, hr⟩ := sim1.slots t' (.one (.pv (.row u Z sz n blk.f))) (by rw [lookup_upd, if_pos rfl])
    exact ⟨u', hu, Bare.rd _ v' u' (hv u Z) hr⟩
  · exact sim1.slots t' x (by rw [lookup_upd, if_neg (by assumption)]; exact hx)
set_option maxHeartbeats 4000000 in
set_option maxRecDepth 20000 in
theorem ctPut_fn (M : List (List T3)) (l : List T3) (hM : M.length ≤ 1073741824) (hr : ∀ i, i < M.length → (tsAt M i).length ≤ 12 ∧ Sml (tsAt M i)) (hl : l.length ≤ 12) (hs : Sml l) : Fn Tryz.prog 25 [termss M, terms l] (.one (.pv (termss (putX M l)))) := by
  have ht2 := plText_fn l hs (by omega)
  refine Fn.of_body Tryz.call25 Tryz.func25 rfl Tryz.ntmps25 (ts := [4]) rfl (by simp) rfl (fun N => ?_)
  repeat' (first | (with_reducible first | refine then_normal ?_ | refine then_ret ?_ | refine then_exit ?_ | refine block_normal ?_ | refine block_ret ?_) | ((with_reducible show blockQ _ _ _ _); first | refine block_exit ?_ | refine block_exit_ne rfl ?_) | ((with_reducible show AWP _ _ _ _ _); first | (with_reducible first | refine AWP.seq ?_ | refine AWP.block ?_ | refine AWP.region ?_ | refine AWP.ret ?_ | refine AWP.exit ?_ | refine AWP.skip ?_) | refine AWP.drawn rfl (by kernel_rfl) ?_ | refine AWP.cond rfl ?_ ?_) | with_reducible refine ev_nil ?_ | ((first | ((with_reducible show evOps _ _ _ _ _ _); (first | refine ev_step rfl ?_ | refine ev_undef rfl rfl rfl ?_); intro K hK) | ((with_reducible show EvOpen _ _ _ _ _ _ _); refine ev_open ?_; intro K hK) | ((with_reducible show SkOpen _ _ _ _ _ _ _); refine sk_open ?_; intro K hK) | ((with_reducible show callK _ _ _ _ _ _ _ _); first | fail)); simp only [evOp, evQ, withS, opd, kput, putS, upd, slotsOf, Nat.reduceEqDiff, Nat.reduceLT, Nat.zero_add, ↓reduceIte, true_and]) | refine ev_guard rfl rfl rfl ?_ ?_ | ((with_reducible show retQ _ _ _ _); simp only [eq_self]) | (with_reducible refine hK _ ?_; clear hK K) | (with_reducible refine And.intro ?_ ?_) | (with_reducible intro hc; try simp only [eq_self] at hc) | omega)
  refine AWP.loop_entR [] (fun k : Nat => ⟨[(0, .one (.pv (termss M))), (1, .one (.pv (terms l))), (5, sc (.int .i64 k))], [], 49⟩)
    (fun k => k ≤ M.length ∧ ∀ j, j < k → ltX (tsAt M j) l = true) (fun k => M.length - k) 0 ⟨by omega, fun j hj => by omega⟩ (by simp [EntR, EntSR, EntHR, SlR, VE, VE.rfl', lookup, BE, upd, sc]) ?_
  rintro k ⟨hkl, hall⟩
  by_cases hlt : k < M.length
  · have ht1 := plText_fn (tsAt M k) (hr k hlt).2 (by have := (hr k hlt).1; omega)
    have elt : Op.bytesLess (bytesOf (tx (tsAt M k))) (bytesOf (tx l)) = ltX (tsAt M k) l := rfl
    cases hx : ltX (tsAt M k) l with
    | true =>
      rw [hx] at elt
      generalize tx (tsAt M k) = t1 at *
      generalize tx l = t2 at *
      repeat' (first | (with_reducible first | refine then_normal ?_ | refine then_ret ?_ | refine then_exit ?_ | refine block_normal ?_ | refine block_ret ?_) | ((with_reducible show blockQ _ _ _ _); first | refine block_exit ?_ | refine block_exit_ne rfl ?_) | ((with_reducible show AWP _ _ _ _ _); first | (with_reducible first | refine AWP.seq ?_ | refine AWP.block ?_ | refine AWP.region ?_ | refine AWP.ret ?_ | refine AWP.exit ?_ | refine AWP.skip ?_) | refine AWP.drawn rfl (by kernel_rfl) ?_ | refine AWP.cond rfl ?_ ?_) | with_reducible refine ev_nil ?_ | ((first | ((with_reducible show evOps _ _ _ _ _ _); (first | refine ev_step rfl ?_ | refine ev_undef rfl rfl rfl ?_); intro K hK) | ((with_reducible show EvOpen _ _ _ _ _ _ _); refine ev_open ?_; intro K hK) | ((with_reducible show SkOpen _ _ _ _ _ _ _); refine sk_open ?_; intro K hK) | ((with_reducible show callK _ _ _ _ _ _ _ _); first  | (refine call_scalar (ht1) (Nat.le_of_ble_eq_true rfl) rfl ?_) | (refine call_scalar (ht2) (Nat.le_of_ble_eq_true rfl) rfl ?_))); simp only [evOp, evQ, evB, binK, withS, opd, kput, putS, upd, lookup, skipOp, argsK, bringIn, bring, Res.list, Res.slot, InK_i64, appendK, srcK, growK, frz, newBlk, partsK, buildSliceK, plSlice, cutK, boundK, V.one, Value.oneCell', List.set_cons_zero, List.set_cons_succ, ei_terms, ea_terms, Nat.zero_le, sz_termss, c_terms, ei_termss, ea_termss, List.getElem?_cons_zero, List.getElem?_cons_succ, List.reverse_cons, List.reverse_nil, List.nil_append, List.cons_append, List.length_cons, List.length_nil, Nat.reduceEqDiff, Nat.reduceAdd, Nat.reduceLT, Nat.reduceLeDiff, Nat.mul_one, Nat.zero_mul, Nat.add_zero, Nat.zero_add, Nat.sub_zero, Nat.mod_one, Nat.not_lt_zero, List.getD_cons_zero, ↓reduceIte, eq_self, true_and, and_true, Bool.not_true, Bool.true_eq_false, Bool.false_eq_true, false_implies, forall_const, implies_true, Int.toNat_natCast, Option.isSome_some]) | refine ev_guard rfl rfl rfl ?_ ?_ | ((with_reducible show retQ _ _ _ _); simp only [retQ, retOk, getL, lookup, Option.map_some, fitsL, fits, ND, srcs, Res.list, Nat.reduceEqDiff, ↓reduceIte, and_true]) | (with_reducible refine hK _ ?_; clear hK K) | (with_reducible refine And.intro ?_ ?_) | (with_reducible intro hc; try simp only [decide_eq_true_eq, decide_eq_false_iff_not, Bool.not_true, Int.not_lt, reduceCtorEq, Bool.true_eq_false] at hc) | omega)
      all_goals first
        | (exfalso; omega)
        | (exfalso; rw [elt] at *; simp_all; done)
        | (exact ⟨k + 1, ⟨by omega, upto_succ hall hx⟩, by omega, [], rfl, by decide, by simp [EntSR, SlR, VE, lookup, sc, VE.rfl'], trivial⟩)
        | trace_state
    | false =>
      rw [hx] at elt
      have hcnt : cntX l M = k := cntX_at hkl hall (fun _ => hx)
      have hsm := ctSame_fn (tsAt M k) l (by have := (hr k hlt).1; omega) (by omega)
      cases he : eqTL (tsAt M k) l with
      | true =>
        rw [he] at hsm
        rw [put_same hcnt hlt (eqTL_iff.1 he)]
        generalize tx (tsAt M k) = t1 at *
        generalize tx l = t2 at *
        repeat' (first | (with_reducible first | refine then_normal ?_ | refine then_ret ?_ | refine then_exit ?_ | refine block_normal ?_ | refine block_ret ?_) | ((with_reducible show blockQ _ _ _ _); first | refine block_exit ?_ | refine block_exit_ne rfl ?_) | ((with_reducible show AWP _ _ _ _ _); first | (with_reducible first | refine AWP.seq ?_ | refine AWP.block ?_ | refine AWP.region ?_ | refine AWP.ret ?_ | refine AWP.exit ?_ | refine AWP.skip ?_) | refine AWP.drawn rfl (by kernel_rfl) ?_ | refine AWP.cond rfl ?_ ?_) | with_reducible refine ev_nil ?_ | ((first | ((with_reducible show evOps _ _ _ _ _ _); (first | refine ev_step rfl ?_ | refine ev_undef rfl rfl rfl ?_); intro K hK) | ((with_reducible show EvOpen _ _ _ _ _ _ _); refine ev_open ?_; intro K hK) | ((with_reducible show SkOpen _ _ _ _ _ _ _); refine sk_open ?_; intro K hK) | ((with_reducible show callK _ _ _ _ _ _ _ _); first  | (refine call_scalar (ht1) (Nat.le_of_ble_eq_true rfl) rfl ?_) | (refine call_scalar (ht2) (Nat.le_of_ble_eq_true rfl) rfl ?_) | (refine call_scalar (hsm) (Nat.le_of_ble_eq_true rfl) rfl ?_))); simp only [evOp, evQ, evB, binK, withS, opd, kput, putS, upd, lookup, skipOp, argsK, bringIn, bring, Res.list, Res.slot, InK_i64, appendK, srcK, growK, frz, newBlk, partsK, buildSliceK, plSlice, cutK, boundK, V.one, Value.oneCell', List.set_cons_zero, List.set_cons_succ, ei_terms, ea_terms, Nat.zero_le, sz_termss, c_terms, ei_termss, ea_termss, List.getElem?_cons_zero, List.getElem?_cons_succ, List.reverse_cons, List.reverse_nil, List.nil_append, List.cons_append, List.length_cons, List.length_nil, Nat.reduceEqDiff, Nat.reduceAdd, Nat.reduceLT, Nat.reduceLeDiff, Nat.mul_one, Nat.zero_mul, Nat.add_zero, Nat.zero_add, Nat.sub_zero, Nat.mod_one, Nat.not_lt_zero, List.getD_cons_zero, ↓reduceIte, eq_self, true_and, and_true, Bool.not_true, Bool.true_eq_false, Bool.false_eq_true, false_implies, forall_const, implies_true, Int.toNat_natCast, Option.isSome_some]) | refine ev_guard rfl rfl rfl ?_ ?_ | ((with_reducible show retQ _ _ _ _); simp only [retQ, retOk, getL, lookup, Option.map_some, fitsL, fits, ND, srcs, Res.list, VE, Nat.reduceEqDiff, ↓reduceIte, and_true, true_and]) | (with_reducible refine hK _ ?_; clear hK K) | (with_reducible refine And.intro ?_ ?_) | (with_reducible intro hc; try simp only [decide_eq_true_eq, decide_eq_false_iff_not, Bool.not_true, Int.not_lt, reduceCtorEq, Bool.true_eq_false] at hc) | omega)
        all_goals first
          | (exfalso; omega)
          | (exfalso; rw [elt] at *; simp_all; done)
          | exact VE.rfl' (termss M)
          | trace_state
      | false =>
        rw [he] at hsm
        rw [put_new hcnt (fun _ h => by rw [eqTL_iff.2 h] at he; cases he)]
        generalize tx (tsAt M k) = t1 at *
        generalize tx l = t2 at *
        repeat' (first | ((with_reducible show evNx _ _ _ _ _ _); first | (with_reducible refine nx_done ?_) | (refine nx_one rfl ?_) | (refine nx_alt rfl ?_ ?_) | (with_reducible refine nx_st ?_)) | ((with_reducible show evSx _ _ _ _ _ _); first | (with_reducible refine sx_done ?_) | (with_reducible refine sx_st ?_) | (with_reducible refine sx_op ?_)) | ((with_reducible show evTake _ _ _ _ _); with_reducible refine take_nil ?_) | ((with_reducible show evSy _ _ _ _ _ _ _); first | (with_reducible refine sy_done ?_) | (refine sy_last rfl ?_) | (refine sy_one (by decide) rfl ?_) | (refine sy_alt (by decide) rfl ?_ ?_) | (with_reducible refine sy_st ?_)) | ((with_reducible show StK _ _ _); first | (refine stk_letRow (letRow_go (t := 42) rfl rfl (by simp) ?_) ; intro u1 Z1 hZ1 hD1 ; simp only [upd, List.set_cons_zero, List.set_cons_succ, Nat.reduceEqDiff, ↓reduceIte, eq_self]) | (refine stk_letSeq (t := 4) rfl rfl (by simp) (fun u2 Z2 => put_bare (by omega) (by omega) (fun j hj => rfl)) ?_ ; simp only [upd, List.set_cons_zero, List.set_cons_succ, Nat.reduceEqDiff, ↓reduceIte, eq_self]) | fail) | (with_reducible first | refine then_normal ?_ | refine then_ret ?_ | refine then_exit ?_ | refine block_normal ?_ | refine block_ret ?_) | ((with_reducible show blockQ _ _ _ _); first | refine block_exit ?_ | refine block_exit_ne rfl ?_) | ((with_reducible show AWP _ _ _ _ _); first | (refine AWP.drawn_nx (id := 6) (.take 1 (.take 2 (.take 3 (.take 6 (.take 10 (.take 11 (.take 12 (.alt 0 (.alt 4 (.one 5 (.one 7 (.st (.one 8 (.one 9 (.one 13 (.take 14 (.st .done)))))))) (.one 5 (.one 4 (.one 7 (.st (.one 8 (.one 9 (.one 13 (.take 14 (.st .done)))))))))) (.one 5 (.one 0 (.one 4 (.one 7 (.st (.one 8 (.one 9 (.one 13 (.take 14 (.st .done)))))))))))))))))) rfl (by kernel_rfl) ?_) | (with_reducible first | refine AWP.seq ?_ | refine AWP.block ?_ | refine AWP.region ?_ | refine AWP.ret ?_ | refine AWP.exit ?_ | refine AWP.skip ?_) | refine AWP.drawn rfl (by kernel_rfl) ?_ | refine AWP.cond rfl ?_ ?_) | with_reducible refine ev_nil ?_ | ((first | ((with_reducible show evNx _ _ _ _ _ _); refine nx_take rfl ?_; intro K hK) | ((with_reducible show Ax _ _ _ _ _); first | (refine ax_op rfl ?_; intro K hK)) | ((with_reducible show evTake _ _ _ _ _); refine take_step rfl ?_; intro K hK) | ((with_reducible show evSy _ _ _ _ _ _ _); refine sy_take rfl ?_; intro K hK) | ((with_reducible show AxB _ _ _ _ _); first | (refine axb_op rfl rfl ?_; intro K hK)) | ((with_reducible show evOps _ _ _ _ _ _); (first | refine ev_step rfl ?_ | refine ev_undef rfl rfl rfl ?_); intro K hK) | ((with_reducible show EvOpen _ _ _ _ _ _ _); refine ev_open ?_; intro K hK) | ((with_reducible show SkOpen _ _ _ _ _ _ _); refine sk_open ?_; intro K hK) | ((with_reducible show callK _ _ _ _ _ _ _ _); first  | (refine call_scalar (ht1) (Nat.le_of_ble_eq_true rfl) rfl ?_) | (refine call_scalar (ht2) (Nat.le_of_ble_eq_true rfl) rfl ?_) | (refine call_scalar (hsm) (Nat.le_of_ble_eq_true rfl) rfl ?_))); simp only [evOp, evQ, evB, binK, withS, opd, kput, putS, upd, lookup, skipOp, argsK, bringIn, bring, Res.list, Res.slot, InK_i64, appendK, srcK, growK, frz, newBlk, partsK, buildSliceK, plSlice, cutK, boundK, V.one, Value.oneCell', List.set_cons_zero, List.set_cons_succ, ei_terms, ea_terms, Nat.zero_le, sz_termss, c_terms, ei_termss, ea_termss, List.getElem?_cons_zero, List.getElem?_cons_succ, List.reverse_cons, List.reverse_nil, List.nil_append, List.cons_append, List.length_cons, List.length_nil, Nat.reduceEqDiff, Nat.reduceAdd, Nat.reduceLT, Nat.reduceLeDiff, Nat.mul_one, Nat.zero_mul, Nat.add_zero, Nat.zero_add, Nat.sub_zero, Nat.mod_one, Nat.not_lt_zero, List.getD_cons_zero, ↓reduceIte, eq_self, true_and, and_true, Bool.not_true, Bool.true_eq_false, Bool.false_eq_true, false_implies, forall_const, implies_true, Int.toNat_natCast, Option.isSome_some]) | refine ev_guard rfl rfl rfl ?_ ?_ | ((with_reducible show retQ _ _ _ _); simp only [retQ, retOk, getL, lookup, Option.map_some, fitsL, fits, ND, srcs, Res.list, VE, Nat.reduceEqDiff, ↓reduceIte, and_true, true_and]) | (with_reducible refine hK _ ?_; clear hK K) | (with_reducible refine And.intro ?_ ?_) | (with_reducible intro hc; try simp only [decide_eq_true_eq, decide_eq_false_iff_not, Bool.not_true, Int.not_lt, reduceCtorEq, Bool.true_eq_false] at hc) | omega)
        all_goals first
          | (exfalso; omega)
          | ((repeat' split) <;> first | rfl | (exfalso; omega))
          | exact VE.rfl' (termss _)
          | (exfalso; rw [elt] at *; simp_all; done)
          | trace_state
  · obtain rfl : k = M.length := by omega
    have hcnt : cntX l M = M.length := cntX_at (Nat.le_refl _) hall (fun h => by omega)
    rw [put_new hcnt (fun h => by omega)]
    repeat' (first | ((with_reducible show evNx _ _ _ _ _ _); first | (with_reducible refine nx_done ?_) | (refine nx_one rfl ?_) | (refine nx_alt rfl ?_ ?_) | (with_reducible refine nx_st ?_)) | ((with_reducible show evSx _ _ _ _ _ _); first | (with_reducible refine sx_done ?_) | (with_reducible refine sx_st ?_) | (with_reducible refine sx_op ?_)) | ((with_reducible show evTake _ _ _ _ _); with_reducible refine take_nil ?_) | ((with_reducible show evSy _ _ _ _ _ _ _); first | (with_reducible refine sy_done ?_) | (refine sy_last rfl ?_) | (refine sy_one (by decide) rfl ?_) | (refine sy_alt (by decide) rfl ?_ ?_) | (with_reducible refine sy_st ?_)) | ((with_reducible show StK _ _ _); first | (refine stk_letRow (letRow_go (t := 42) rfl rfl (by simp) ?_) ; intro u1 Z1 hZ1 hD1 ; simp only [upd, List.set_cons_zero, List.set_cons_succ, Nat.reduceEqDiff, ↓reduceIte, eq_self]) | (refine stk_letSeq (t := 4) rfl rfl (by simp) (fun u2 Z2 => put_bare (by omega) (by omega) (fun j hj => rfl)) ?_ ; simp only [upd, List.set_cons_zero, List.set_cons_succ, Nat.reduceEqDiff, ↓reduceIte, eq_self]) | fail) | (with_reducible first | refine then_normal ?_ | refine then_ret ?_ | refine then_exit ?_ | refine block_normal ?_ | refine block_ret ?_) | ((with_reducible show blockQ _ _ _ _); first | refine block_exit ?_ | refine block_exit_ne rfl ?_) | ((with_reducible show AWP _ _ _ _ _); first | (refine AWP.drawn_nx (id := 6) (.take 1 (.take 2 (.take 3 (.take 6 (.take 10 (.take 11 (.take 12 (.alt 0 (.alt 4 (.one 5 (.one 7 (.st (.one 8 (.one 9 (.one 13 (.take 14 (.st .done)))))))) (.one 5 (.one 4 (.one 7 (.st (.one 8 (.one 9 (.one 13 (.take 14 (.st .done)))))))))) (.one 5 (.one 0 (.one 4 (.one 7 (.st (.one 8 (.one 9 (.one 13 (.take 14 (.st .done)))))))))))))))))) rfl (by kernel_rfl) ?_) | (with_reducible first | refine AWP.seq ?_ | refine AWP.block ?_ | refine AWP.region ?_ | refine AWP.ret ?_ | refine AWP.exit ?_ | refine AWP.skip ?_) | refine AWP.drawn rfl (by kernel_rfl) ?_ | refine AWP.cond rfl ?_ ?_) | with_reducible refine ev_nil ?_ | ((first | ((with_reducible show evNx _ _ _ _ _ _); refine nx_take rfl ?_; intro K hK) | ((with_reducible show Ax _ _ _ _ _); first | (refine ax_op rfl ?_; intro K hK)) | ((with_reducible show evTake _ _ _ _ _); refine take_step rfl ?_; intro K hK) | ((with_reducible show evSy _ _ _ _ _ _ _); refine sy_take rfl ?_; intro K hK) | ((with_reducible show AxB _ _ _ _ _); first | (refine axb_op rfl rfl ?_; intro K hK)) | ((with_reducible show evOps _ _ _ _ _ _); (first | refine ev_step rfl ?_ | refine ev_undef rfl rfl rfl ?_); intro K hK) | ((with_reducible show EvOpen _ _ _ _ _ _ _); refine ev_open ?_; intro K hK) | ((with_reducible show SkOpen _ _ _ _ _ _ _); refine sk_open ?_; intro K hK) | ((with_reducible show callK _ _ _ _ _ _ _ _); first  | (refine call_scalar (ht2) (Nat.le_of_ble_eq_true rfl) rfl ?_))); simp only [evOp, evQ, evB, binK, withS, opd, kput, putS, upd, lookup, skipOp, argsK, appendK, srcK, growK, frz, newBlk, partsK, buildSliceK, plSlice, cutK, boundK, V.one, Value.oneCell', List.set_cons_zero, List.set_cons_succ, ei_terms, ea_terms, Nat.zero_le, sz_termss, c_terms, ei_termss, ea_termss, List.getElem?_cons_zero, List.getElem?_cons_succ, List.reverse_cons, List.reverse_nil, List.nil_append, List.cons_append, List.length_cons, List.length_nil, Nat.reduceEqDiff, Nat.reduceAdd, Nat.reduceLT, Nat.reduceLeDiff, Nat.mul_one, Nat.zero_mul, Nat.add_zero, Nat.zero_add, Nat.sub_zero, Nat.mod_one, Nat.not_lt_zero, List.getD_cons_zero, ↓reduceIte, eq_self, true_and, Bool.not_true, Bool.false_eq_true, false_implies, forall_const, implies_true, Int.toNat_natCast, Option.isSome_some]) | refine ev_guard rfl rfl rfl ?_ ?_ | ((with_reducible show retQ _ _ _ _); simp only [retQ, retOk, getL, lookup, Option.map_some, fitsL, fits, ND, srcs, Res.list, VE, Nat.reduceEqDiff, ↓reduceIte, and_true, true_and]) | (with_reducible refine hK _ ?_; clear hK K) | (with_reducible refine And.intro ?_ ?_) | (with_reducible intro hc; try simp only [decide_eq_true_eq, decide_eq_false_iff_not, Bool.not_true, Int.not_lt, reduceCtorEq, Bool.true_eq_false] at hc) | omega)
    all_goals first
      | (exfalso; omega)
      | ((repeat' split) <;> first | rfl | (exfalso; omega))
      | exact VE.rfl' (termss _)
      | trace_state
end Go.Proofs.YteapdildbfimnaaGreatDoor
