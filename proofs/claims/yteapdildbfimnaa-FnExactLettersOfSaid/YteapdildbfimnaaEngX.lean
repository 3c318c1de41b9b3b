/- A struct result in a variable beside a bool; ways that meet again. No conditions. -/
import Derived.Test.YteapdildbfimnaaEngN
namespace Go.Proofs.Yteapdildbfimnaa
set_option linter.unusedSimpArgs false
set_option linter.unusedVariables false
open Go.RowKit

/-- The ways through x meet again in some state of a family. -/
theorem AWP.seq_cutX [Cx] {N : Nat} {P : Program} {x y : Code} {Q : Exit → ASt → Prop} {s : ASt} {ι : Type} (inv : ι → ASt) (G : ι → Prop) (h : AWP N P x (thenQ (fun s' => ∃ i, G i ∧ ∃ m, EntR m s' (inv i)) Q) s) (h' : ∀ i, G i → AWP N P y Q (inv i)) : AWP N P (.seq x y) Q s := by
  refine AWP.seq fun w0 S0 a w hN sim => wp_mono (h w0 S0 a w hN sim) fun e a' w' ⟨s', hq, sim'⟩ => ?_
  cases e with
  | normal => obtain ⟨i, hG, m, hq⟩ := hq; obtain ⟨w1, hR, sim'⟩ := sim'; exact ⟨inv i, h' i hG, w1, hR, EntR.sim hq sim'⟩
  | _ => exact ⟨s', hq, sim'⟩

/-- A goal that is put off. -/
def Later (p : Prop) : Prop := p
theorem AWP.seq_cutXr [Cx] {N : Nat} {P : Program} {id : Nat} {ops : Array Oper} {b : Bool} {y : Code} {Q : Exit → ASt → Prop} {s : ASt} {ι : Type} (inv : ι → ASt) (G : ι → Prop) (h : AWP N P (.region id ops b) (thenQ (fun s' => ∃ i, G i ∧ ∃ m, EntR m s' (inv i)) Q) s) (h' : Later (∀ i, G i → AWP N P y Q (inv i))) : AWP N P (.seq (.region id ops b) y) Q s :=
  AWP.seq_cutX inv G h h'

theorem run_results_cell2 {P : Program} {fn : Func} {t ty tb n : Nat} (h : fn.results = #[ResultVar.cell t ty, ResultVar.tmp tb]) (hc : cellsIn P ty = some (some n)) (tmps : Array Value) (b off : Nat) (ht : tmps.getD t undef = .pointer (some ⟨b, off, none⟩)) (v : Value) (hv : tmps.getD tb undef = v) (g : Nat → Value) (w : World)
    (hg : ∀ j, j < n → w.cell? ⟨b, off + j, none⟩ = some (g j)) : (results fn tmps).run P w = .ok (.tuple #[.agg ((List.range n).map g).toArray, v]) w := by
  obtain ⟨i, hi, hs, hagg⟩ := cellsIn_many hc
  have hl := run_loadCells (P := P) b off g w n 0 #[] (fun j _ hj => hg j (by omega))
  have hlv : (loadVar ty ⟨b, off, none⟩).run P w = .ok (.agg ((List.range n).map g).toArray) w := by
    simp only [loadVar, Sem.run_bind, Sem.run_pure, Result.andThen_ok, hagg, if_true, sizeOf, typeInfo, run_program, hi, hs, loadCells, hl]
    simp [List.range_eq_range']
  unfold results
  rw [h]
  have ht' : tmps[t]?.getD undef = .pointer (some ⟨b, off, none⟩) := by simpa using ht
  have hv' : tmps[tb]?.getD undef = v := by simpa using hv
  simp [Array.mapM_eq_mapM_toList, Sem.run_bind, ht', asAddr, hlv, hv']

section
variable {P : Program}
/-- A struct result that lies in a variable, and a bool. -/
def cell2Ok (t n tb N : Nat) (R : Res → Prop) (s : ASt) : Prop := ∃ (g : Nat → V) (b : Bool), R (.many [.pv (.agg n g), .pv (.val (.bool b))]) ∧ NewV (fun Z => ∀ b, Z b → N ≤ b) (.agg n g) ∧ retCell.cellOk t n g s ∧ lookup s.σ tb = some (sc (.bool b))
def retCell2E (t n tb N : Nat) (R : Res → Prop) : Exit → ASt → Prop
  | .normal, s => cell2Ok t n tb N R s
  | .ret, s => cell2Ok t n tb N R s
  | _, _ => False

theorem FnE.of_body_cell2 {f : FuncId} {fn : Func} {c : Code} {nt t ty tb n : Nat} {vs : List V} {R : Res → Prop} (vs' : Nat → List V) (hvs : ∀ (w : World) (us : List Value), RdL w (fun _ => True) vs us → RdL w (fun _ => True) (vs' w.heap.size) us)
    (hcall : ∀ (args : Array Value) (w : World), (callFunc f args).run P w = .ok (.enter f args) w) (hf : P.funcs[f]? = some fn) (hb : fn.body = some c) (hnt : fn.ntmps = nt)
    (hres : fn.results = #[ResultVar.cell t ty, ResultVar.tmp tb]) (hc : cellsIn P ty = some (some n)) (hlen : ∀ N, (vs' N).length ≤ nt) (h : ∀ N, AWP N P c (retCell2E t n tb N R) ⟨slotsOf 0 (vs' N), [], nt⟩) : FnE P f vs R := by
  refine ⟨hcall, fun w us hus => calls_of_wp hf hb ?_⟩
  have sim := body_start (w := w) (fn := fn) (vs := vs' w.heap.size) hnt (hlen _) (hvs w us hus)
  refine wp_mono (h _ w _ _ w rfl ⟨w, Reb.refl _, [], sim⟩) fun e a' w' ⟨s', hq, w1, hR, φ, sim'⟩ => ?_
  obtain rfl := hR.none
  have fin : cell2Ok t n tb w.heap.size R s' → a'.defers = [] ∧ ∃ v, (results fn a'.tmps).run P w' = .ok v w' ∧
      ∃ r u φ, R r ∧ NewL (fun Z => ∀ b, Z b → w.heap.size ≤ b) r.list ∧ Ending.returned v = .returned u ∧ Heap w (fun _ => True) (bring r.list []).2 φ w' ∧ RdSlot w' (Stab w (fun _ => True) (bring r.list []).2 φ) φ (r.slot (bring r.list []).1) u := fun ⟨g, bb, hR, hnew, hq, hbool⟩ => by
    obtain ⟨ub, hub, hrb⟩ := sim'.slots tb _ hbool
    obtain rfl : ub = .bool bb := hrb
    unfold retCell.cellOk at hq
    split at hq
    · rename_i id off hl
      split at hq
      · rename_i blk hblk
        obtain ⟨hle, hve⟩ := hq
        obtain ⟨u, hu, b, z, hφ, rfl⟩ := sim'.slots t _ hl
        obtain ⟨cur, _, hB, hcur, hn, hx⟩ := sim'.blkAt hblk hφ
        have hst : ∀ b, Stab w (fun _ => True) s'.h φ b → Stab w (fun _ => True) [] [] b := fun b hb => ⟨hb.1, fun ⟨i, x, z, h1, _⟩ => by simp at h1⟩
        have hg : ∀ j, j < n → w'.cell? ⟨b, off + j, none⟩ = some (cur.getD (off + j) undef) ∧ Rd w' (Stab w (fun _ => True) [] []) (g j) (cur.getD (off + j) undef) := fun j hj => by
          obtain ⟨x, hx1, hx2⟩ := hx (off + j) (by omega)
          have e : cur.getD (off + j) undef = x := by simp [hx1]
          rw [e]
          exact ⟨cell_of_blk hcur hx1, VE.rd _ _ _ (hve j hj) (Rd.mono (fun b hb _ => ⟨hst b hb, rfl⟩) _ _ hx2)⟩
        refine ⟨sim'.defers.1, _, run_results_cell2 hres hc _ b off (by simp [hu]) (.bool bb) (by simp [hub]) (fun j => cur.getD (off + j) undef) w' fun j hj => (hg j hj).1, .many [.pv (.agg n g), .pv (.val (.bool bb))], _, [], hR, ⟨hnew, trivial, trivial⟩, rfl, ⟨rfl, sim'.heap.below, fun id blk hi => by simp [bring, Res.list] at hi, fun i j bi bj b z z' hi => by simp [bring, Res.list] at hi⟩, ?_⟩
        exact ⟨_, rfl, rd_agg fun j hj => (hg j hj).2, rfl, trivial⟩
      · exact hq.elim
    · exact hq.elim
  cases e with
  | normal => exact fin hq
  | ret => exact fin hq
  | _ => exact hq.elim
end
end Go.Proofs.Yteapdildbfimnaa
