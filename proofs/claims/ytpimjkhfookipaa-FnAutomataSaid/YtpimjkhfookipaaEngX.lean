/- A struct result in a variable beside a bool; ways that meet again. No conditions. -/
import Derived.Test.YtpimjkhfookipaaEngN
namespace Go.Proofs.Ytpimjkhfookipaa
set_option linter.unusedSimpArgs false
set_option linter.unusedVariables false
open Go.RowKit

/-- The ways through x meet again in some state of a family. -/
theorem AWP.seq_cutX [Cx] {N : Nat} {P : Program} {x y : Code} {Q : Exit → ASt → Prop} {s : ASt} {ι : Type} (inv : ι → ASt) (G : ι → Prop) (h : AWP N P x (thenQ (fun s' => ∃ i, G i ∧ ∃ m, EntR m s' (inv i)) Q) s) (h' : ∀ i, G i → AWP N P y Q (inv i)) : AWP N P (.seq x y) Q s := by
  refine AWP.seq fun w0 S0 a w hN sim => wp_mono (h w0 S0 a w hN sim) fun e a' w' ⟨s', hq, sim'⟩ => ?_
  cases e with
  | normal => obtain ⟨i, hG, m, hq⟩ := hq; obtain ⟨w1, hR, sim'⟩ := sim'; exact ⟨inv i, h' i hG, w1, hR, EntR.sim hq sim'⟩
  | _ => exact ⟨s', hq, sim'⟩

/-- A goal that is put off. -/
def Later (p : Prop) : Prop := p
theorem AWP.seq_cutXr [Cx] {N : Nat} {P : Program} {id : Nat} {ops : Array Oper} {b : Bool} {y : Code} {Q : Exit → ASt → Prop} {s : ASt} {ι : Type} (inv : ι → ASt) (G : ι → Prop) (h : AWP N P (.region id ops b) (thenQ (fun s' => ∃ i, G i ∧ ∃ m, EntR m s' (inv i)) Q) s) (h' : Later (∀ i, G i → AWP N P y Q (inv i))) : AWP N P (.seq (.region id ops b) y) Q s :=
  AWP.seq_cutX inv G h h'

theorem run_results_cell2 {P : Program} {fn : Func} {t ty tb n : Nat} (h : fn.results = #[ResultVar.cell t ty, ResultVar.tmp tb]) (hc : cellsIn P ty = some (some n)) (tmps : Array Value) (b off : Nat) (ht : tmps.getD t undef = .pointer (some ⟨b, off, none⟩)) (v : Value) (hv : tmps.getD tb undef = v) (g : Nat → Value) (w : World)
    (hg : ∀ j, j < n → w.cell? ⟨b, off + j, none⟩ = some (g j)) : (results fn tmps).run P w = .ok (.tuple #[.agg ((List.range n).map g).toArray, v]) w := by
  obtain ⟨i, hi, hs, hagg⟩ := cellsIn_many hc
  have hl := run_loadCells (P := P) b off g w n 0 #[] (fun j _ hj => hg j (by omega))
  have hlv : (loadVar ty ⟨b, off, none⟩).run P w = .ok (.agg ((List.range n).map g).toArray) w := by
    simp only [loadVar, Sem.run_bind, Sem.run_pure, Result.andThen_ok, hagg, if_true, sizeOf, typeInfo, run_program, hi, hs, loadCells, hl]
    simp [List.range_eq_range']
  unfold results
  rw [h]
  have ht' : tmps[t]?.getD undef = .pointer (some ⟨b, off, none⟩) := by simpa using ht
  have hv' : tmps[tb]?.getD undef = v := by simpa using hv
  simp [Array.mapM_eq_mapM_toList, Sem.run_bind, ht', asAddr, hlv, hv']

section
variable {P : Program}
end
end Go.Proofs.Ytpimjkhfookipaa
