/- A function whose result is a struct in memory of its own. No conditions. -/
import Derived.Test.YteapdildbfimnaaEngH
namespace Go.Proofs.Yteapdildbfimnaa
set_option linter.unusedSimpArgs false
set_option linter.unusedVariables false
open Go.RowKit

/-- The variable that slot t points at holds n cells that read as f. -/
def retCell (t : Nat) (n : Nat) (f : Nat → V) : Exit → ASt → Prop
  | .normal, s => cellOk t n f s
  | .ret, s => cellOk t n f s
  | _, _ => False
where
  cellOk (t n : Nat) (f : Nat → V) (s : ASt) : Prop :=
    match lookup s.σ t with
    | some (.one (.ptr id off)) =>
      match s.h[id]? with
      | some (some b) => off + n ≤ b.n ∧ ∀ i, i < n → VE (b.f (off + i)) (f i)
      | _ => False
    | _ => False

theorem run_results_cell {P : Program} {fn : Func} {t ty n : Nat} (h : fn.results = #[ResultVar.cell t ty]) (hc : cellsIn P ty = some (some n)) (tmps : Array Value) (b off : Nat) (ht : tmps.getD t undef = .pointer (some ⟨b, off, none⟩)) (g : Nat → Value) (w : World)
    (hg : ∀ j, j < n → w.cell? ⟨b, off + j, none⟩ = some (g j)) : (results fn tmps).run P w = .ok (.agg ((List.range n).map g).toArray) w := by
  obtain ⟨i, hi, hs, hagg⟩ := cellsIn_many hc
  have hl := run_loadCells (P := P) b off g w n 0 #[] (fun j _ hj => hg j (by omega))
  have hlv : (loadVar ty ⟨b, off, none⟩).run P w = .ok (.agg ((List.range n).map g).toArray) w := by
    simp only [loadVar, Sem.run_bind, Sem.run_pure, Result.andThen_ok, hagg, if_true, sizeOf, typeInfo, run_program, hi, hs, loadCells, hl]
    simp [List.range_eq_range']
  unfold results
  rw [h]
  have ht' : tmps[t]?.getD undef = .pointer (some ⟨b, off, none⟩) := by simpa using ht
  simp [Array.mapM_eq_mapM_toList, Sem.run_bind, ht', asAddr, hlv]

theorem Fn.of_body_cell {P : Program} {f : FuncId} {fn : Func} {c : Code} {nt t ty n : Nat} {vs : List V} {g : Nat → V}
    (hcall : ∀ (args : Array Value) (w : World), (callFunc f args).run P w = .ok (.enter f args) w) (hf : P.funcs[f]? = some fn) (hb : fn.body = some c) (hnt : fn.ntmps = nt)
    (hres : fn.results = #[ResultVar.cell t ty]) (hc : cellsIn P ty = some (some n)) (hlen : vs.length ≤ nt) (h : ∀ N, AWP N P c (retCell t n g) ⟨slotsOf 0 vs, [], nt⟩) : Fn P f vs (.one (.pv (.agg n g))) := by
  refine ⟨hcall, fun w S0 us hus => calls_of_wp hf hb ?_⟩
  have hul := hus.len
  have sim : SimAt w S0 ⟨slotsOf 0 vs, [], nt⟩ [] { tmps := us.toArray ++ Array.replicate (fn.ntmps - us.toArray.size) undef, defers := [] } w := by
    refine ⟨⟨rfl, Below.refl _ _, fun id blk hi => by simp at hi, fun i j bi bj b z z' hi => by simp at hi⟩, fun t x ht => ?_, ⟨rfl, hus.gl⟩, by simp [hnt]; omega⟩
    obtain ⟨v, rfl, _, hv⟩ := slotsOf_get vs 0 t ht
    obtain ⟨u, hu, hr⟩ := RdL.get vs us t hus (by simpa using hv)
    refine ⟨u, ?_, ?_⟩
    · have : t < us.length := (List.getElem?_eq_some_iff.1 hu).1
      rw [Array.getElem?_append_left (by simpa using this)]; simpa using hu
    · refine Rd.mono (fun b hb hlt => ⟨⟨.inl hb, ?_⟩, rfl⟩) _ _ hr
      rintro ⟨id, blk, z, hi, _⟩; simp at hi
  refine wp_mono (h _ w S0 _ w rfl ⟨w, Reb.refl _, [], sim⟩) fun e a' w' ⟨s', hq, w1, hR, φ, sim'⟩ => ?_
  obtain rfl := hR.none
  have fin : retCell.cellOk t n g s' → a'.defers = [] ∧ ∃ v, (results fn a'.tmps).run P w' = .ok v w' ∧
      ∃ u φ, Ending.returned v = .returned u ∧ Heap w S0 (bring (Res.one (.pv (.agg n g))).list []).2 φ w' ∧ RdSlot w' (Stab w S0 (bring (Res.one (.pv (.agg n g))).list []).2 φ) φ ((Res.one (.pv (.agg n g))).slot (bring (Res.one (.pv (.agg n g))).list []).1) u := fun hq => by
    unfold retCell.cellOk at hq
    split at hq
    · rename_i id off hl
      split at hq
      · rename_i blk hblk
        obtain ⟨hle, hve⟩ := hq
        obtain ⟨u, hu, b, z, hφ, rfl⟩ := sim'.slots t _ hl
        obtain ⟨cur, _, hB, hcur, hn, hx⟩ := sim'.blkAt hblk hφ
        have hst : ∀ b, Stab w S0 s'.h φ b → Stab w S0 [] [] b := fun b hb => ⟨hb.1, fun ⟨i, x, z, h1, _⟩ => by simp at h1⟩
        have hg : ∀ j, j < n → w'.cell? ⟨b, off + j, none⟩ = some (cur.getD (off + j) undef) ∧ Rd w' (Stab w S0 [] []) (g j) (cur.getD (off + j) undef) := fun j hj => by
          obtain ⟨x, hx1, hx2⟩ := hx (off + j) (by omega)
          have e : cur.getD (off + j) undef = x := by simp [hx1]
          rw [e]
          exact ⟨cell_of_blk hcur hx1, VE.rd _ _ _ (hve j hj) (Rd.mono (fun b hb _ => ⟨hst b hb, rfl⟩) _ _ hx2)⟩
        refine ⟨sim'.defers.1, _, run_results_cell hres hc _ b off (by simp [hu]) (fun j => cur.getD (off + j) undef) w' fun j hj => (hg j hj).1, _, [], rfl, ⟨rfl, sim'.heap.below, fun id blk hi => by simp [bring, Res.list] at hi, fun i j bi bj b z z' hi => by simp [bring, Res.list] at hi⟩, ?_⟩
        exact rd_agg fun j hj => (hg j hj).2
      · exact hq.elim
    · exact hq.elim
  cases e with
  | normal => exact fin hq
  | ret => exact fin hq
  | _ => exact hq.elim

end Go.Proofs.Yteapdildbfimnaa
