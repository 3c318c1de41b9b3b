/- Functions that return a struct that lies in a variable, and one or two scalars. No conditions. -/
import Derived.Test.YteapdildbfimnaaEngX
import Derived.Test.YteapdildbfimnaaEngQ
import Derived.Test.YteapdildbfimnaaEngU
import Derived.Test.YteapdildbfimnaaEngK
namespace Go.Proofs.Yteapdildbfimnaa
set_option linter.unusedSimpArgs false
set_option linter.unusedVariables false
open Go.RowKit

theorem run_results_cell3 {P : Program} {fn : Func} {t ty tb tc n : Nat} (h : fn.results = #[ResultVar.cell t ty, ResultVar.tmp tb, ResultVar.tmp tc]) (hc : cellsIn P ty = some (some n)) (tmps : Array Value) (b off : Nat) (ht : tmps.getD t undef = .pointer (some ⟨b, off, none⟩)) (v : Value) (hv : tmps.getD tb undef = v) (v2 : Value) (hv2 : tmps.getD tc undef = v2) (g : Nat → Value) (w : World)
    (hg : ∀ j, j < n → w.cell? ⟨b, off + j, none⟩ = some (g j)) : (results fn tmps).run P w = .ok (.tuple #[.agg ((List.range n).map g).toArray, v, v2]) w := by
  obtain ⟨i, hi, hs, hagg⟩ := cellsIn_many hc
  have hl := run_loadCells (P := P) b off g w n 0 #[] (fun j _ hj => hg j (by omega))
  have hlv : (loadVar ty ⟨b, off, none⟩).run P w = .ok (.agg ((List.range n).map g).toArray) w := by
    simp only [loadVar, Sem.run_bind, Sem.run_pure, Result.andThen_ok, hagg, if_true, sizeOf, typeInfo, run_program, hi, hs, loadCells, hl]
    simp [List.range_eq_range']
  unfold results
  rw [h]
  have ht' : tmps[t]?.getD undef = .pointer (some ⟨b, off, none⟩) := by simpa using ht
  have hv' : tmps[tb]?.getD undef = v := by simpa using hv
  have hv2' : tmps[tc]?.getD undef = v2 := by simpa using hv2
  simp [Array.mapM_eq_mapM_toList, Sem.run_bind, ht', asAddr, hlv, hv', hv2']

section
variable {P : Program}
/-- A struct result that lies in a variable, and a scalar. -/
def cellVOk (t n tb N : Nat) (R : Res → Prop) (s : ASt) : Prop := ∃ (g : Nat → V) (b : Value), R (.many [.pv (.agg n g), .pv (.val b)]) ∧ NewV (fun Z => ∀ b, Z b → N ≤ b) (.agg n g) ∧ retCell.cellOk t n g s ∧ lookup s.σ tb = some (sc b)
def retCellVE (t n tb N : Nat) (R : Res → Prop) : Exit → ASt → Prop
  | .normal, s => cellVOk t n tb N R s
  | .ret, s => cellVOk t n tb N R s
  | _, _ => False

theorem FnE.of_body_cellV {f : FuncId} {fn : Func} {c : Code} {nt t ty tb n : Nat} {vs : List V} {R : Res → Prop} (vs' : Nat → List V) (hvs : ∀ (w : World) (us : List Value), RdL w (fun _ => True) vs us → RdL w (fun _ => True) (vs' w.heap.size) us)
    (hcall : ∀ (args : Array Value) (w : World), (callFunc f args).run P w = .ok (.enter f args) w) (hf : P.funcs[f]? = some fn) (hb : fn.body = some c) (hnt : fn.ntmps = nt)
    (hres : fn.results = #[ResultVar.cell t ty, ResultVar.tmp tb]) (hc : cellsIn P ty = some (some n)) (hlen : ∀ N, (vs' N).length ≤ nt) (h : ∀ N, AWP N P c (retCellVE t n tb N R) ⟨slotsOf 0 (vs' N), [], nt⟩) : FnE P f vs R := by
  refine ⟨hcall, fun w us hus => calls_of_wp hf hb ?_⟩
  have sim := body_start (w := w) (fn := fn) (vs := vs' w.heap.size) hnt (hlen _) (hvs w us hus)
  refine wp_mono (h _ w _ _ w rfl ⟨w, Reb.refl _, [], sim⟩) fun e a' w' ⟨s', hq, w1, hR, φ, sim'⟩ => ?_
  obtain rfl := hR.none
  have fin : cellVOk t n tb w.heap.size R s' → a'.defers = [] ∧ ∃ v, (results fn a'.tmps).run P w' = .ok v w' ∧
      ∃ r u φ, R r ∧ NewL (fun Z => ∀ b, Z b → w.heap.size ≤ b) r.list ∧ Ending.returned v = .returned u ∧ Heap w (fun _ => True) (bring r.list []).2 φ w' ∧ RdSlot w' (Stab w (fun _ => True) (bring r.list []).2 φ) φ (r.slot (bring r.list []).1) u := fun ⟨g, bb, hR, hnew, hq, hbool⟩ => by
    obtain ⟨ub, hub, hrb⟩ := sim'.slots tb _ hbool
    obtain rfl : ub = bb := hrb
    unfold retCell.cellOk at hq
    split at hq
    · rename_i id off hl
      split at hq
      · rename_i blk hblk
        obtain ⟨hle, hve⟩ := hq
        obtain ⟨u, hu, b, z, hφ, rfl⟩ := sim'.slots t _ hl
        obtain ⟨cur, _, hB, hcur, hn, hx⟩ := sim'.blkAt hblk hφ
        have hst : ∀ b, Stab w (fun _ => True) s'.h φ b → Stab w (fun _ => True) [] [] b := fun b hb => ⟨hb.1, fun ⟨i, x, z, h1, _⟩ => by simp at h1⟩
        have hg : ∀ j, j < n → w'.cell? ⟨b, off + j, none⟩ = some (cur.getD (off + j) undef) ∧ Rd w' (Stab w (fun _ => True) [] []) (g j) (cur.getD (off + j) undef) := fun j hj => by
          obtain ⟨x, hx1, hx2⟩ := hx (off + j) (by omega)
          have e : cur.getD (off + j) undef = x := by simp [hx1]
          rw [e]
          exact ⟨cell_of_blk hcur hx1, VE.rd _ _ _ (hve j hj) (Rd.mono (fun b hb _ => ⟨hst b hb, rfl⟩) _ _ hx2)⟩
        refine ⟨sim'.defers.1, _, run_results_cell2 hres hc _ b off (by simp [hu]) ub (by simp [hub]) (fun j => cur.getD (off + j) undef) w' fun j hj => (hg j hj).1, .many [.pv (.agg n g), .pv (.val ub)], _, [], hR, ⟨hnew, trivial, trivial⟩, rfl, ⟨rfl, sim'.heap.below, fun id blk hi => by simp [bring, Res.list] at hi, fun i j bi bj b z z' hi => by simp [bring, Res.list] at hi⟩, ?_⟩
        exact ⟨_, rfl, rd_agg fun j hj => (hg j hj).2, rfl, trivial⟩
      · exact hq.elim
    · exact hq.elim
  cases e with
  | normal => exact fin hq
  | ret => exact fin hq
  | _ => exact hq.elim
/-- A struct result that lies in a variable, and two scalars. -/
def cellVVOk (t n tb tc N : Nat) (R : Res → Prop) (s : ASt) : Prop := ∃ (g : Nat → V) (b b2 : Value), R (.many [.pv (.agg n g), .pv (.val b), .pv (.val b2)]) ∧ NewV (fun Z => ∀ b, Z b → N ≤ b) (.agg n g) ∧ retCell.cellOk t n g s ∧ lookup s.σ tb = some (sc b) ∧ lookup s.σ tc = some (sc b2)
def retCellVVE (t n tb tc N : Nat) (R : Res → Prop) : Exit → ASt → Prop
  | .normal, s => cellVVOk t n tb tc N R s
  | .ret, s => cellVVOk t n tb tc N R s
  | _, _ => False

theorem FnE.of_body_cellVV {f : FuncId} {fn : Func} {c : Code} {nt t ty tb tc n : Nat} {vs : List V} {R : Res → Prop} (vs' : Nat → List V) (hvs : ∀ (w : World) (us : List Value), RdL w (fun _ => True) vs us → RdL w (fun _ => True) (vs' w.heap.size) us)
    (hcall : ∀ (args : Array Value) (w : World), (callFunc f args).run P w = .ok (.enter f args) w) (hf : P.funcs[f]? = some fn) (hb : fn.body = some c) (hnt : fn.ntmps = nt)
    (hres : fn.results = #[ResultVar.cell t ty, ResultVar.tmp tb, ResultVar.tmp tc]) (hc : cellsIn P ty = some (some n)) (hlen : ∀ N, (vs' N).length ≤ nt) (h : ∀ N, AWP N P c (retCellVVE t n tb tc N R) ⟨slotsOf 0 (vs' N), [], nt⟩) : FnE P f vs R := by
  refine ⟨hcall, fun w us hus => calls_of_wp hf hb ?_⟩
  have sim := body_start (w := w) (fn := fn) (vs := vs' w.heap.size) hnt (hlen _) (hvs w us hus)
  refine wp_mono (h _ w _ _ w rfl ⟨w, Reb.refl _, [], sim⟩) fun e a' w' ⟨s', hq, w1, hR, φ, sim'⟩ => ?_
  obtain rfl := hR.none
  have fin : cellVVOk t n tb tc w.heap.size R s' → a'.defers = [] ∧ ∃ v, (results fn a'.tmps).run P w' = .ok v w' ∧
      ∃ r u φ, R r ∧ NewL (fun Z => ∀ b, Z b → w.heap.size ≤ b) r.list ∧ Ending.returned v = .returned u ∧ Heap w (fun _ => True) (bring r.list []).2 φ w' ∧ RdSlot w' (Stab w (fun _ => True) (bring r.list []).2 φ) φ (r.slot (bring r.list []).1) u := fun ⟨g, bb, bc, hR, hnew, hq, hbool, hbool2⟩ => by
    obtain ⟨ub, hub, hrb⟩ := sim'.slots tb _ hbool
    obtain rfl : ub = bb := hrb
    obtain ⟨uc, huc, hrc⟩ := sim'.slots tc _ hbool2
    obtain rfl : uc = bc := hrc
    unfold retCell.cellOk at hq
    split at hq
    · rename_i id off hl
      split at hq
      · rename_i blk hblk
        obtain ⟨hle, hve⟩ := hq
        obtain ⟨u, hu, b, z, hφ, rfl⟩ := sim'.slots t _ hl
        obtain ⟨cur, _, hB, hcur, hn, hx⟩ := sim'.blkAt hblk hφ
        have hst : ∀ b, Stab w (fun _ => True) s'.h φ b → Stab w (fun _ => True) [] [] b := fun b hb => ⟨hb.1, fun ⟨i, x, z, h1, _⟩ => by simp at h1⟩
        have hg : ∀ j, j < n → w'.cell? ⟨b, off + j, none⟩ = some (cur.getD (off + j) undef) ∧ Rd w' (Stab w (fun _ => True) [] []) (g j) (cur.getD (off + j) undef) := fun j hj => by
          obtain ⟨x, hx1, hx2⟩ := hx (off + j) (by omega)
          have e : cur.getD (off + j) undef = x := by simp [hx1]
          rw [e]
          exact ⟨cell_of_blk hcur hx1, VE.rd _ _ _ (hve j hj) (Rd.mono (fun b hb _ => ⟨hst b hb, rfl⟩) _ _ hx2)⟩
        refine ⟨sim'.defers.1, _, run_results_cell3 hres hc _ b off (by simp [hu]) ub (by simp [hub]) uc (by simp [huc]) (fun j => cur.getD (off + j) undef) w' fun j hj => (hg j hj).1, .many [.pv (.agg n g), .pv (.val ub), .pv (.val uc)], _, [], hR, ⟨hnew, trivial, trivial, trivial⟩, rfl, ⟨rfl, sim'.heap.below, fun id blk hi => by simp [bring, Res.list] at hi, fun i j bi bj b z z' hi => by simp [bring, Res.list] at hi⟩, ?_⟩
        exact ⟨_, rfl, rd_agg fun j hj => (hg j hj).2, rfl, rfl, trivial⟩
      · exact hq.elim
    · exact hq.elim
  cases e with
  | normal => exact fin hq
  | ret => exact fin hq
  | _ => exact hq.elim
end

set_option linter.unusedSimpArgs false
set_option linter.unusedVariables false
open Go.RowKit Go.Proofs

/-- What waits for the next stage of a walk. -/
def HoldW (p : Prop) : Prop := p
theorem AWP.holdW [Cx] {P : Program} {N : Nat} {id : Nat} {ops : Array Oper} {d : Bool} {Q : Exit → ASt → Prop} {s : ASt} (h : HoldW (AWP N P (.region id ops d) Q s)) : AWP N P (.region id ops d) Q s := h

section
variable {P : Program} {N : Nat}

/-- The variable that slot t points at holds what R wants, and the cursor is where it should be. -/
def retCellC (t n N : Nat) (R : Res → Prop) (b k' : Nat) (Z : Nat → Prop) (c : V) : Exit → ASt → Prop
  | .normal, s => (∃ j, lookup s.σ 0 = some (.one (.pv (.cur b j Z c))) ∧ j ≤ k') ∧ ∃ g, R (.one (.pv (.agg n g))) ∧ NewV (fun Z => ∀ b, Z b → N ≤ b) (.agg n g) ∧ retCell.cellOk t n g s
  | .ret, s => (∃ j, lookup s.σ 0 = some (.one (.pv (.cur b j Z c))) ∧ j ≤ k') ∧ ∃ g, R (.one (.pv (.agg n g))) ∧ NewV (fun Z => ∀ b, Z b → N ≤ b) (.agg n g) ∧ retCell.cellOk t n g s
  | _, _ => False

theorem FnC.of_body_cell {f : FuncId} {fn : Func} {cd : Code} {nt b k k' t ty n : Nat} {Z : Nat → Prop} {c : V} {vs : List V} {R : Res → Prop}
    (hcall : ∀ (args : Array Value) (w : World), (callFunc f args).run P w = .ok (.enter f args) w) (hf : P.funcs[f]? = some fn) (hb : fn.body = some cd) (hnt : fn.ntmps = nt)
    (hres : fn.results = #[ResultVar.cell t ty]) (hc : cellsIn P ty = some (some n)) (hlen : vs.length + 1 ≤ nt)
    (h : ∀ (N : Nat) (cx : Cx), cx.X = isB b → b < N → (∀ j, Z j → j < N) → @AWP cx N P cd (retCellC t n N R b k' Z c) ⟨slotsOf 0 (.cur b k Z c :: vs.map (oldC N b)), [], nt⟩) : FnC P f b k k' Z c vs R := by
  refine ⟨hcall, fun w u us hu hus => calls_of_wp hf hb ?_⟩
  have hu' := hu
  obtain ⟨hu0, _, hz, cur, cv, p, q, e, hcu, _⟩ := hu'
  have hblt : b < w.heap.size := block_lt hcu
  have sim := body_start (w := w) (fn := fn) (vs := .cur b k Z c :: vs.map (oldC w.heap.size b)) (us := u :: us) hnt (by simpa using hlen) ⟨hu, oldCL_rd vs us hus⟩
  refine wp_mono (h _ ⟨isB b⟩ rfl hblt (fun j hj => (hz j hj).2.1) w _ _ w rfl ⟨w, @Reb.refl ⟨isB b⟩ _, [], sim⟩) fun e a' w' ⟨s', hq, w1, hR, φ, sim'⟩ => ?_
  obtain ⟨r1, r2, r3, r4, r5, r6⟩ := hR
  have hRB : RebB b w w1 := ⟨r1, r2, r3, r5, fun j hj => r6 j hj⟩
  have fin : ((∃ j, lookup s'.σ 0 = some (.one (.pv (.cur b j Z c))) ∧ j ≤ k') ∧ ∃ g, R (.one (.pv (.agg n g))) ∧ NewV (fun Z => ∀ b, Z b → w.heap.size ≤ b) (.agg n g) ∧ retCell.cellOk t n g s') → a'.defers = [] ∧ ∃ v, (results fn a'.tmps).run P w' = .ok v w' ∧
      ∃ w1 r x φ, RebB b w w1 ∧ Rd w1 (fun _ => True) (.cur b k' Z c) u ∧ R r ∧ NewL (fun Z => ∀ j, Z j → w.heap.size ≤ j) r.list ∧ Ending.returned v = .returned x ∧ Heap w1 (fun _ => True) (bring r.list []).2 φ w' ∧ RdSlot w' (Stab w1 (fun _ => True) (bring r.list []).2 φ) φ (r.slot (bring r.list []).1) x := by
    rintro ⟨⟨j, hj, hjk⟩, g, hRg, hnew, hq⟩
    obtain ⟨u1, _, hr1⟩ := sim'.slots 0 _ hj
    obtain ⟨_, _, hz1, cur1, cv1, p1, q1, e1, hc1, h31, hp1, hq1, hrd1⟩ := hr1
    have hbel := sim'.heap.below
    have hs1 := hRB.size
    have hcur1 : Rd w1 (fun _ => True) (.cur b k' Z c) u := by
      refine ⟨hu0, trivial, fun i hi => ⟨trivial, by rw [hs1]; exact (hz i hi).2.1, (hz i hi).2.2⟩, cur1, cv1, p1, q1, e1, ?_, h31, ⟨hp1.1, by omega⟩, hq1, ?_⟩
      · rw [← hbel.block b (by omega)]; exact hc1
      · exact Rd.mono (S' := Z) (fun i hi _ => ⟨hi, (hbel.block i (by rw [hs1]; exact (hz i hi).2.1)).symm⟩) _ _ hrd1
    unfold retCell.cellOk at hq
    split at hq
    · rename_i id off hl
      split at hq
      · rename_i blk hblk
        obtain ⟨hle, hve⟩ := hq
        obtain ⟨u2, hu2, b2, z, hφ, rfl⟩ := sim'.slots t _ hl
        obtain ⟨cur2, _, hB, hcur, hn, hx⟩ := sim'.blkAt hblk hφ
        have hst : ∀ b, Stab w1 (fun _ => True) s'.h φ b → Stab w1 (fun _ => True) [] [] b := fun b hb => ⟨hb.1, fun ⟨i, x, z, h1, _⟩ => by simp at h1⟩
        have hg : ∀ j, j < n → w'.cell? ⟨b2, off + j, none⟩ = some (cur2.getD (off + j) undef) ∧ Rd w' (Stab w1 (fun _ => True) [] []) (g j) (cur2.getD (off + j) undef) := fun j hj => by
          obtain ⟨x, hx1, hx2⟩ := hx (off + j) (by omega)
          have e : cur2.getD (off + j) undef = x := by simp [hx1]
          rw [e]
          exact ⟨cell_of_blk hcur hx1, VE.rd _ _ _ (hve j hj) (Rd.mono (fun b hb _ => ⟨hst b hb, rfl⟩) _ _ hx2)⟩
        refine ⟨sim'.defers.1, _, run_results_cell hres hc _ b2 off (by simp [hu2]) (fun j => cur2.getD (off + j) undef) w' fun j hj => (hg j hj).1, w1, .one (.pv (.agg n g)), _, [], hRB, hcur1, hRg, ⟨hnew, trivial⟩, rfl, ⟨rfl, sim'.heap.below, fun id blk hi => by simp [bring, Res.list] at hi, fun i j bi bj b z z' hi => by simp [bring, Res.list] at hi⟩, ?_⟩
        exact rd_agg fun j hj => (hg j hj).2
      · exact hq.elim
    · exact hq.elim
  cases e with
  | normal => exact fin hq
  | ret => exact fin hq
  | _ => exact hq.elim

/-- The place of a row's cell. -/
theorem ax_ptr [Cx] {K : ASt → Prop} {t : TypeId} {x i : Operand} {d ty : Nat} {pos : String} {after : Array Edge} {s : ASt} {u0 : Value} {Z : Nat → Prop} {n : Nat} {f : Nat → V} {κ : IntKind} {k : Int}
    (hx : opd s x = some (.one (.pv (.row u0 Z 1 n f)))) (hi : opd s i = some (sc (.int κ k))) (hsz : elemSz P t = some 1) (h0 : 0 ≤ k) (h1 : k < n) (hd : Nat.ble (d + 1) s.nt = true) (h : K (putS s d (sc (ptrOf u0 k.toNat)))) :
    Ax N P K ⟨some d, .indexAddr t x i, ty, pos, after, none⟩ s := by
  refine ⟨rfl, fun w0 S0 φ a w hN sim next Q hn => ?_⟩
  obtain ⟨e, ii, hu, hii, hs1⟩ := elemSz_some hsz
  obtain ⟨e0, hz, A, c, ex, hc, hr⟩ := sim.opd hx
  have ei := val_of sim hi
  obtain ⟨b, off, rfl, hZ, hr⟩ := hr (by omega)
  have hrun : (execOp a.eval ⟨some d, .indexAddr t x i, ty, pos, after, none⟩).run P w = .ok (.value (ptrOf u0 k.toNat)) w := by
    rw [← e0, ex]
    simp only [execOp, ex, ei, Sem.run_bind, run_indexAt hu hii _ _ _ _ _ h0 h1, Result.andThen_ok, add_none, ptrOf, hs1, Nat.mul_one]
    rfl
  unfold Oper.wp
  rw [hrun, Oper.upon_value]
  exact hn _ _ _ h (Sim.R ⟨φ, sim.put (Nat.le_of_ble_eq_true hd) rfl⟩)

/-- A row without its first cell. -/
theorem ax_cutRow [Cx] {K : ASt → Prop} {t : TypeId} {x lo : Operand} {d ty : Nat} {pos : String} {after : Array Edge} {s : ASt} {u0 : Value} {Z : Nat → Prop} {n : Nat} {f : Nat → V}
    (hx : opd s x = some (.one (.pv (.row u0 Z 1 n f)))) (hlo : opd s lo = some (sc (.int .i64 1))) (hsz : elemSz P t = some 1) (h1 : 1 ≤ n) (hd : Nat.ble (d + 1) s.nt = true) (h : ∀ u1, K (putS s d (.one (.pv (.row u1 Z 1 (n - 1) fun i => f (1 + i)))))) :
    Ax N P K ⟨some d, .slice t x (some lo) none none, ty, pos, after, none⟩ s := by
  refine ⟨rfl, fun w0 S0 φ a w hN sim next Q hn => ?_⟩
  obtain ⟨e, ii, hu, hii, hs1⟩ := elemSz_some hsz
  obtain ⟨e0, hz, A, c, ex, hc, hr⟩ := sim.opd hx
  have el := val_of sim hlo
  obtain ⟨b, off, rfl, hZ, hr⟩ := hr (by omega)
  have hb := run_sliceBounds (P := P) true n c 1 n (some (a.eval lo)) none (.inr ⟨.i64, by rw [el]; rfl⟩) (.inl ⟨rfl, rfl⟩) h1 (by omega)
  have hrun : (execOp a.eval ⟨some d, .slice t x (some lo) none none, ty, pos, after, none⟩).run P w = .ok (.value (.slice (if c = 1 then some ⟨b, off, none⟩ else (some (⟨b, off, none⟩ : Addr)).map (·.add (1 * ii.size))) (n - 1) (c - 1))) w := by
    unfold execOp
    simp only [ex, Instr.sliceAt, Instr.slice, Sem.run_bind, run_underlying hu, Result.andThen_ok, Option.map_none, Option.map_some, hb w, sizeOf, typeInfo, run_program, hii, Sem.run_pure]
  unfold Oper.wp
  rw [hrun, Oper.upon_value]
  refine hn _ _ _ (h _) (Sim.R ⟨φ, sim.put (Nat.le_of_ble_eq_true hd) ⟨rfl, hz, _, _, rfl, by omega, fun hp => ⟨b, off + 1, ?_, hZ, fun i hi => ?_⟩⟩⟩)
  · rw [if_neg (by omega)]; simp [add_none, hs1]
  · obtain ⟨y, hy1, hy2⟩ := hr (1 + i) (by omega)
    exact ⟨y, by rw [Nat.add_assoc]; exact hy1, hy2⟩
end

set_option linter.unusedSimpArgs false
set_option linter.unusedVariables false
open Go.RowKit

theorem run_loadVar_cell {P : Program} {ty n : Nat} (hc : cellsIn P ty = some (some n)) (b off : Nat) (g : Nat → Value) (w : World) (hg : ∀ j, j < n → w.cell? ⟨b, off + j, none⟩ = some (g j)) : (loadVar ty ⟨b, off, none⟩).run P w = .ok (.agg ((List.range n).map g).toArray) w := by
  obtain ⟨i, hi, hs, hagg⟩ := cellsIn_many hc
  have hl := run_loadCells (P := P) b off g w n 0 #[] (fun j _ hj => hg j (by omega))
  simp only [loadVar, Sem.run_bind, Sem.run_pure, Result.andThen_ok, hagg, if_true, sizeOf, typeInfo, run_program, hi, hs, loadCells, hl]
  simp [List.range_eq_range']
theorem run_results_cells {P : Program} {fn : Func} {t ty n t' ty' n' : Nat} (h : fn.results = #[ResultVar.cell t ty, ResultVar.cell t' ty']) (hc : cellsIn P ty = some (some n)) (hc' : cellsIn P ty' = some (some n')) (tmps : Array Value) (b off b' off' : Nat) (ht : tmps.getD t undef = .pointer (some ⟨b, off, none⟩)) (ht' : tmps.getD t' undef = .pointer (some ⟨b', off', none⟩)) (g g' : Nat → Value) (w : World)
    (hg : ∀ j, j < n → w.cell? ⟨b, off + j, none⟩ = some (g j)) (hg' : ∀ j, j < n' → w.cell? ⟨b', off' + j, none⟩ = some (g' j)) : (results fn tmps).run P w = .ok (.tuple #[.agg ((List.range n).map g).toArray, .agg ((List.range n').map g').toArray]) w := by
  have hlv := run_loadVar_cell (P := P) hc b off g w hg
  have hlv' := run_loadVar_cell (P := P) hc' b' off' g' w hg'
  unfold results
  rw [h]
  have ht1 : tmps[t]?.getD undef = .pointer (some ⟨b, off, none⟩) := by simpa using ht
  have ht2 : tmps[t']?.getD undef = .pointer (some ⟨b', off', none⟩) := by simpa using ht'
  simp [Array.mapM_eq_mapM_toList, Sem.run_bind, ht1, ht2, asAddr, hlv, hlv']

section
variable {P : Program}
/-- Two struct results that lie in variables. -/
def cellCCOk (t n t' n' N : Nat) (R : Res → Prop) (s : ASt) : Prop := ∃ g g' : Nat → V, R (.many [.pv (.agg n g), .pv (.agg n' g')]) ∧ NewV (fun Z => ∀ b, Z b → N ≤ b) (.agg n g) ∧ NewV (fun Z => ∀ b, Z b → N ≤ b) (.agg n' g') ∧ retCell.cellOk t n g s ∧ retCell.cellOk t' n' g' s
def retCellCCE (t n t' n' N : Nat) (R : Res → Prop) : Exit → ASt → Prop
  | .normal, s => cellCCOk t n t' n' N R s
  | .ret, s => cellCCOk t n t' n' N R s
  | _, _ => False

theorem cell_read {w w' : World} {s' : ASt} {φ : List (Option (Nat × Nat))} {a' : Act} (sim' : SimAt w (fun _ => True) s' φ a' w') {t n : Nat} {g : Nat → V} (hq : retCell.cellOk t n g s') : ∃ (b off : Nat) (c : Nat → Value), a'.tmps[t]? = some (.pointer (some ⟨b, off, none⟩)) ∧
    ∀ j, j < n → w'.cell? ⟨b, off + j, none⟩ = some (c j) ∧ Rd w' (Stab w (fun _ => True) [] []) (g j) (c j) := by
  unfold retCell.cellOk at hq
  split at hq
  · rename_i id off hl
    split at hq
    · rename_i blk hblk
      obtain ⟨hle, hve⟩ := hq
      obtain ⟨u, hu, b, z, hφ, rfl⟩ := sim'.slots t _ hl
      obtain ⟨cur, _, hB, hcur, hn, hx⟩ := sim'.blkAt hblk hφ
      have hst : ∀ b, Stab w (fun _ => True) s'.h φ b → Stab w (fun _ => True) [] [] b := fun b hb => ⟨hb.1, fun ⟨i, x, z, h1, _⟩ => by simp at h1⟩
      refine ⟨b, off, fun j => cur.getD (off + j) undef, hu, fun j hj => ?_⟩
      obtain ⟨x, hx1, hx2⟩ := hx (off + j) (by omega)
      have e : cur.getD (off + j) undef = x := by simp [hx1]
      show w'.cell? _ = some (cur.getD (off + j) undef) ∧ Rd _ _ _ (cur.getD (off + j) undef)
      rw [e]
      exact ⟨cell_of_blk hcur hx1, VE.rd _ _ _ (hve j hj) (Rd.mono (fun b hb _ => ⟨hst b hb, rfl⟩) _ _ hx2)⟩
    · exact hq.elim
  · exact hq.elim

theorem FnE.of_body_cellCC {f : FuncId} {fn : Func} {c : Code} {nt t ty n t' ty' n' : Nat} {vs : List V} {R : Res → Prop} (vs' : Nat → List V) (hvs : ∀ (w : World) (us : List Value), RdL w (fun _ => True) vs us → RdL w (fun _ => True) (vs' w.heap.size) us)
    (hcall : ∀ (args : Array Value) (w : World), (callFunc f args).run P w = .ok (.enter f args) w) (hf : P.funcs[f]? = some fn) (hb : fn.body = some c) (hnt : fn.ntmps = nt)
    (hres : fn.results = #[ResultVar.cell t ty, ResultVar.cell t' ty']) (hc : cellsIn P ty = some (some n)) (hc' : cellsIn P ty' = some (some n')) (hlen : ∀ N, (vs' N).length ≤ nt) (h : ∀ N, AWP N P c (retCellCCE t n t' n' N R) ⟨slotsOf 0 (vs' N), [], nt⟩) : FnE P f vs R := by
  refine ⟨hcall, fun w us hus => calls_of_wp hf hb ?_⟩
  have sim := body_start (w := w) (fn := fn) (vs := vs' w.heap.size) hnt (hlen _) (hvs w us hus)
  refine wp_mono (h _ w _ _ w rfl ⟨w, Reb.refl _, [], sim⟩) fun e a' w' ⟨s', hq, w1, hR, φ, sim'⟩ => ?_
  obtain rfl := hR.none
  have fin : cellCCOk t n t' n' w.heap.size R s' → a'.defers = [] ∧ ∃ v, (results fn a'.tmps).run P w' = .ok v w' ∧
      ∃ r u φ, R r ∧ NewL (fun Z => ∀ b, Z b → w.heap.size ≤ b) r.list ∧ Ending.returned v = .returned u ∧ Heap w (fun _ => True) (bring r.list []).2 φ w' ∧ RdSlot w' (Stab w (fun _ => True) (bring r.list []).2 φ) φ (r.slot (bring r.list []).1) u := fun ⟨g, g', hR, hnew, hnew', hq, hq'⟩ => by
    obtain ⟨b, off, c, hu, hg⟩ := cell_read sim' hq
    obtain ⟨b', off', c', hu', hg'⟩ := cell_read sim' hq'
    refine ⟨sim'.defers.1, _, run_results_cells hres hc hc' _ b off b' off' (by simp [hu]) (by simp [hu']) c c' w' (fun j hj => (hg j hj).1) (fun j hj => (hg' j hj).1), .many [.pv (.agg n g), .pv (.agg n' g')], _, [], hR, ⟨hnew, hnew', trivial⟩, rfl, ⟨rfl, sim'.heap.below, fun id blk hi => by simp [bring, Res.list] at hi, fun i j bi bj b z z' hi => by simp [bring, Res.list] at hi⟩, ?_⟩
    exact ⟨_, rfl, rd_agg fun j hj => (hg j hj).2, rd_agg fun j hj => (hg' j hj).2, trivial⟩
  cases e with
  | normal => exact fin hq
  | ret => exact fin hq
  | _ => exact hq.elim
end

end Go.Proofs.Yteapdildbfimnaa
