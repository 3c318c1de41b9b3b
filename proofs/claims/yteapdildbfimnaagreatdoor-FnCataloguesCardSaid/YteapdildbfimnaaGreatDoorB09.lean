/- Parts of the proof of LawFnCatalogues: contracts of functions, laws of an abstract state, plain facts. No conditions. -/
import Derived.Test.YteapdildbfimnaaGreatDoorB08
import Derived.OrdersHeld
import Derived.Shelf.SlSortCmp.NoneTotal
namespace Go.Proofs.YteapdildbfimnaaGreatDoor
open Go.RowKit Go.Proofs
theorem z_cur : zeroOf Tryz.prog 47 = some [.slice none 0 0, .int .i64 0, .int .u64 0] := by kernel_rfl
theorem pl_cur : placesOf Tryz.prog 47 = some [(0, 1), (1, 1), (2, 1)] := by kernel_rfl
theorem fc_0 : fieldIn Tryz.prog 47 0 = some (0, none) := by kernel_rfl
set_option linter.unusedSimpArgs false
set_option linter.unusedVariables false
set_option maxRecDepth 20000

theorem sm7 {x y z : Int} (h : -4 ≤ x ∧ x ≤ 8) (h' : -4 ≤ y ∧ y ≤ 8) (h2 : big64 z) : big64 0 ∧ big64 1 ∧ big64 (-1) ∧ big64 2 ∧ big64 x ∧ big64 y ∧ big64 z := by unfold big64 at *; omega

/-- Two lists of which p holds. -/
def some2L (p : List Int → Prop) : Res → Prop := fun r => ∃ l h : List Int, (p l ∧ p h) ∧ r = .many [.fr 1 l.length (bints l), .fr 1 h.length (bints h)]
theorem some2L.shape {p : List Int → Prop} (r : Res) (h : some2L p r) : r.shape 2 = true := by obtain ⟨x, y, _, rfl⟩ := h; rfl
section
variable {b m : Nat} {Z : Nat → Prop} {g : Nat → Int}

theorem place_fn (k : Nat) (hk : k ≤ 549755811000) (hb : BytOk m g) : FnC Tryz.prog 61 b k (k + 10) Z (bytV m g) [] (someI big64) := by
  refine FnC.of_body Tryz.call61 Tryz.func61 rfl Tryz.ntmps61 (ts := [2]) rfl (by simp) (someI.shape) (fun N cx hcx hbN => ?_)
  repeat' (first | ((with_reducible show evNx _ _ _ _ _ _); first | (with_reducible refine nx_done ?_) | (refine nx_one rfl ?_) | (refine nx_alt rfl ?_ ?_) | (with_reducible refine nx_st ?_)) | ((with_reducible show evSx _ _ _ _ _ _); first | (with_reducible refine sx_done ?_) | (with_reducible refine sx_st ?_) | (with_reducible refine sx_op ?_)) | ((with_reducible show evTake _ _ _ _ _); with_reducible refine take_nil ?_) | ((with_reducible show evSy _ _ _ _ _ _ _); first | (with_reducible refine sy_done ?_) | (refine sy_last rfl ?_) | (refine sy_one (by decide) rfl ?_) | (refine sy_alt (by decide) rfl ?_ ?_) | (with_reducible refine sy_st ?_)) | ((with_reducible show StK _ _ _); first | fail) | (with_reducible first | refine then_normal ?_ | refine then_ret ?_ | refine then_exit ?_ | refine block_normal ?_ | refine block_ret ?_) | ((with_reducible show blockQ _ _ _ _); first | refine block_exit ?_ | refine block_exit_ne rfl ?_) | ((with_reducible show AWP _ _ _ _ _); first | (refine AWP.region_sx (id := 1) [.op, .op, .op, .op, .op, .op, .op, .op, .op, .op, .op] ?_) | (with_reducible first | refine AWP.seq ?_ | refine AWP.block ?_ | refine AWP.region ?_ | refine AWP.ret ?_ | refine AWP.exit ?_ | refine AWP.skip ?_) | refine AWP.drawn rfl (by kernel_rfl) ?_ | refine AWP.cond rfl ?_ ?_) | with_reducible refine ev_nil ?_ | ((first | ((with_reducible show evNx _ _ _ _ _ _); refine nx_take rfl ?_; intro K hK) | ((with_reducible show Ax _ _ _ _ _); first | ((first | refine ax_callC (f := 62) ?_ | refine ax_callC (f := 60) ?_); refine callC_go (x := _) (xs := _) rfl rfl rfl (by first | exact .inl (by rw [hcx]; exact rfl) | exact .inr (by assumption)) (by (try simp only [okS, okSl, okH, eq_self, true_and, and_true, and_self]); repeat' (first | exact trivial | exact rfl | exact disj_cut | exact disj_lt (by assumption) | assumption | omega | refine And.intro ?_ ?_ | (intro i hi; first | exact trivial | (split <;> first | exact trivial | exact disj_lt (by assumption) | exact disj_cut) | (repeat' split) <;> exact trivial))) (by (try simp only [okS, okSl, okH, eq_self, true_and, and_true, and_self]); repeat' (first | exact trivial | exact rfl | exact disj_cut | exact disj_lt (by assumption) | assumption | omega | refine And.intro ?_ ?_ | (intro i hi; first | exact trivial | (split <;> first | exact trivial | exact disj_lt (by assumption) | exact disj_cut) | (repeat' split) <;> exact trivial))) (fun K1 hK1 => by simp only [argsC, opd, lookup, Nat.zero_add, Nat.reduceEqDiff, ↓reduceIte, List.getElem?_cons_zero, List.getElem?_cons_succ, List.reverse_cons, List.reverse_nil, List.nil_append, List.cons_append]; repeat' (first | exact hK1 | exact trivial | exact disj_cut | assumption | omega | refine And.intro ?_ ?_)) ?_; first | (refine ⟨_, _, small_fn _ (by omega) hb, ?_⟩; rintro _ ⟨x, hx, rfl⟩ hnewZ; clear hnewZ) | (refine ⟨_, _, among6_fn _ _ _ _ _ _ _ _ big64 (by omega) hb rfl rfl rfl rfl rfl rfl (by decide), ?_⟩; rintro _ ⟨z, hz, rfl⟩ hnewZ; clear hnewZ) | (refine ⟨_, _, among7_fn _ _ _ _ _ _ _ _ _ big64 (by omega) hb rfl rfl rfl rfl rfl rfl rfl (sm7 (by assumption) (by assumption) (by assumption)), ?_⟩; rintro _ ⟨y, hy, rfl⟩ hnewZ; clear hnewZ)) | (refine ax_op rfl ?_; intro K hK)) | ((with_reducible show evTake _ _ _ _ _); refine take_step rfl ?_; intro K hK) | ((with_reducible show evSy _ _ _ _ _ _ _); refine sy_take rfl ?_; intro K hK) | ((with_reducible show AxB _ _ _ _ _); first | (refine axb_op rfl rfl ?_; intro K hK)) | ((with_reducible show evOps _ _ _ _ _ _); (first | refine ev_step rfl ?_ | refine ev_undef rfl rfl rfl ?_); intro K hK) | ((with_reducible show EvOpen _ _ _ _ _ _ _); refine ev_open ?_; intro K hK) | ((with_reducible show SkOpen _ _ _ _ _ _ _); refine sk_open ?_; intro K hK) | ((with_reducible show callK _ _ _ _ _ _ _ _); first  | fail)); simp only [evOp, evQ, withS, opd, kput, putS, upd, lookup, bringIn, bring, Res.list, Res.slot, slotsOf, frz, newBlk, partsK, buildSliceK, plSlice, V.one, Value.oneCell', ei_ints, ea_ints, swpS, swSl, List.map_nil, List.nil_append, List.cons_append, List.length_cons, List.length_nil, Nat.reduceEqDiff, Nat.reduceLT, Nat.reduceLeDiff, Nat.mul_one, Nat.zero_add, Nat.mod_one, List.getD_cons_zero, ↓reduceIte, eq_self, true_and, Bool.false_eq_true]) | refine ev_guard rfl rfl rfl ?_ ?_ | ((with_reducible show retQ _ _ _ _); simp only [eq_self]) | (with_reducible refine hK _ ?_; clear hK K) | (with_reducible refine And.intro ?_ ?_) | (with_reducible intro hc; try simp only [eq_self] at hc) | omega)
  all_goals first
    | ((repeat' split) <;> rfl)
    | exact retC_int rfl rfl (by omega) (by assumption)
    | trace_state

end

open Go.RowKit Go.Proofs
set_option linter.unusedSimpArgs false
set_option linter.unusedVariables false
set_option maxRecDepth 20000

theorem AWP.letCur_rg [Cx] {P : Program} {N id : Nat} {ops : Array Oper} {d : Bool} {Q : Exit → ASt → Prop} {s : ASt} (t : Nat) {i : Nat} {blk : Blk} {Z : Nat → Prop} {c : V} (ht : lookup s.σ t = some (.one (.ptr i 0))) (hb : s.h[i]? = some (some blk)) (hn : Nat.ble 3 blk.n = true) (h0 : blk.f 0 = .old Z c) (h1 : blk.f 1 = .val (.int .i64 0)) (h2 : blk.f 2 = .val (.int .u64 0)) (hZ : ∀ j, Z j → j < N)
    (h : ∀ b, N ≤ b → AWP N P (.region id ops d) Q ⟨upd s.σ t (.one (.pv (.cur b 0 Z c))), s.h.set i none, s.nt⟩) : AWP N P (.region id ops d) Q s :=
  AWP.letCur t ⟨i, blk, Z, c, ht, hb, Nat.le_of_ble_eq_true hn, h0, h1, h2, hZ, fun b hb _ => h b hb⟩

/-- Three lists of which p holds. -/
def some3L (p : List Int → Prop) : Res → Prop := fun r => ∃ l h q : List Int, (p l ∧ p h ∧ p q) ∧ r = .many [.fr 1 l.length (bints l), .fr 1 h.length (bints h), .fr 1 q.length (bints q)]
theorem some3L.shape {p : List Int → Prop} (r : Res) (h : some3L p r) : r.shape 3 = true := by obtain ⟨x, y, z, _, rfl⟩ := h; rfl
/-- Two lists of which p holds, and an integer. -/
def some2I (p : List Int → Prop) : Res → Prop := fun r => ∃ (l h : List Int) (x : Int), (p l ∧ p h ∧ big64 x) ∧ r = .many [.fr 1 l.length (bints l), .fr 1 h.length (bints h), .pv (vi x)]
theorem some2I.shape {p : List Int → Prop} (r : Res) (h : some2I p r) : r.shape 3 = true := by obtain ⟨x, y, z, _, rfl⟩ := h; rfl

section
variable {m : Nat} {g : Nat → Int}
end

end Go.Proofs.YteapdildbfimnaaGreatDoor
namespace Go.Proofs.YteapdildbfimnaaGreatDoor
open Go.ChangeShapes Go.WideShapes Go.ChangeAt Go.RowKit
set_option linter.unusedSimpArgs false
set_option linter.unusedVariables false

theorem wf_byte {n : Int} (h : (Lit.int .u8 n).wf = true) : 0 ≤ n ∧ n < 256 := by
  simp [Lit.wf, IntKind.wrap, IntKind.bits, IntKind.signed, IntKind.min, IntKind.max] at h
  omega

theorem rd_bytes {H : Type} {enc : TypeId × Value → H} {P : Program} {w : World} {base : Nat} {held : Bool} {t e : TypeId} {fuel : Nat} {a : Option Addr} {len cap : Nat} {x : DataW H × List MemPlace} (ht : P.underlying t = some (.slice e)) (he : P.underlying e = some (.int .u8)) (hc : P.cellsOf e = 1)
    (h : DataW.trod enc P w base (fun _ => true) held fuel t (Value.slice a len cap).cells.toList = some x) :
    ∃ (m : Nat) (g : Nat → Int), Rd w (fun _ => True) (bytV m g) (.slice a len cap) ∧ m ≤ 9223372036854775807 ∧ ∀ i, i < m → 0 ≤ g i ∧ g i < 256 := by
  have hM : maxLen ≤ 9223372036854775807 := by decide
  rcases open_ints ht he hc h with ⟨hcs, _⟩ | ⟨x, l, c, zs, hcs, _, hl, hm, hz, _, hcell, hwz⟩
  · simp [Value.cells] at hcs
    obtain ⟨rfl, rfl, rfl⟩ := hcs
    exact ⟨0, fun _ => 0, ⟨none, 0, rfl, Nat.le_refl _, fun h => by simp at h⟩, by omega, fun i hi => by omega⟩
  · simp [Value.cells] at hcs
    obtain ⟨rfl, rfl, rfl⟩ := hcs
    have hz : zs.length = cap := by simpa using hz
    refine ⟨len, fun i => zs.getD i 0, ⟨some x, cap, rfl, hl, fun hp => ?_⟩, by omega, fun i hi => ?_⟩
    · rw [Nat.mul_one] at hp
      have h0 := hcell 0 (by omega)
      have hs : x.spot = none := spot_of_cell (by rw [← add_zero_addr x]; exact h0)
      obtain ⟨b, off, spot⟩ := x
      have hs : spot = none := hs
      subst hs
      refine ⟨b, off, rfl, trivial, fun i hi => ⟨_, by rw [← add_none]; exact hcell i (by omega), ?_⟩⟩
      rfl
    · have hi' : i < zs.length := by omega
      have e : zs.getD i 0 = zs[i] := by simp [List.getD, hi']
      show 0 ≤ zs.getD i 0 ∧ zs.getD i 0 < 256
      rw [e]
      exact wf_byte (hwz _ (List.getElem_mem hi'))

theorem rd_bytesZ {H : Type} {enc : TypeId × Value → H} {P : Program} {w : World} {base : Nat} {held : Bool} {t e : TypeId} {fuel : Nat} {a : Option Addr} {len cap : Nat} {x : DataW H × List MemPlace} (ht : P.underlying t = some (.slice e)) (he : P.underlying e = some (.int .u8)) (hc : P.cellsOf e = 1)
    (h : DataW.trod enc P w base (fun _ => true) held fuel t (Value.slice a len cap).cells.toList = some x) :
    ∃ (m : Nat) (g : Nat → Int), Rd w (fun _ => True) (bytV m g) (.slice a len cap) ∧ m ≤ 9223372036854775807 ∧ (∀ i, i < m → 0 ≤ g i ∧ g i < 256) ∧ (m = 0 ∨ ∃ el sp : List (DataW H), x.1 = .slice el sp ∧ el.length = m) := by
  obtain ⟨m, g, h1, h2, h3⟩ := rd_bytes ht he hc h
  refine ⟨m, g, h1, h2, h3, ?_⟩
  obtain ⟨A, c, e1, hle, h4⟩ := h1
  injection e1 with e1 e2 e3
  subst e2
  rcases open_ints ht he hc h with ⟨hcs, hx⟩ | ⟨x', l, c', zs, hcs, _, hl, hm, hz, hx, hcell, hwz⟩
  · simp [Value.cells] at hcs
    exact .inl hcs.2.1
  · simp [Value.cells] at hcs
    obtain ⟨_, rfl, rfl⟩ := hcs
    have hz : zs.length = cap := by simpa using hz
    refine .inr ⟨_, _, by rw [hx], ?_⟩
    simp [lits]
    omega

/-- What waits for the next stage of a walk. -/
def HoldR (p : Prop) : Prop := p
theorem AWP.holdR [Cx] {P : Program} {N : Nat} {id : Nat} {ops : Array Oper} {d : Bool} {Q : Exit → ASt → Prop} {s : ASt} (h : HoldR (AWP N P (.region id ops d) Q s)) : AWP N P (.region id ops d) Q s := h
end Go.Proofs.YteapdildbfimnaaGreatDoor
namespace Go.Proofs.YteapdildbfimnaaGreatDoor
set_option linter.unusedSimpArgs false
set_option linter.unusedVariables false
open Go.RowKit

section
variable {P : Program} {w0 : World} {S0 : Nat → Prop} {s : ASt} {φ : List (Option (Nat × Nat))} {a : Act} {w : World} {N : Nat}

def argsZ (N : Nat) (s : ASt) : List Operand → List V → (List V → Prop) → Prop
  | [], vs, K => K vs.reverse
  | x :: xs, vs, K =>
    match opd s x with
    | some (.one (.pv v)) => NewV (fun Z => ∀ b, Z b → N ≤ b) v ∧ argsZ N s xs (v :: vs) K
    | _ => False

theorem argsZ_ok (sim : SimAt w0 S0 s φ a w) {K : List V → Prop} : ∀ (xs : List Operand) (vs : List V) (us : List Value), argsZ N s xs vs K →
    RdL w (fun b => Stab w0 S0 s.h φ b ∧ N ≤ b) vs.reverse us.reverse → ∃ vs', K vs' ∧ RdL w (fun b => Stab w0 S0 s.h φ b ∧ N ≤ b) vs' (us.reverse ++ xs.map a.eval)
  | [], vs, us, h, h1 => ⟨_, h, by simpa using h1⟩
  | x :: xs, vs, us, h, h1 => by
    unfold argsZ at h
    split at h
    · rename_i v hv
      have hr := NewV.rd (S' := fun b => Stab w0 S0 s.h φ b ∧ N ≤ b) (fun Z hZ h2 b hb => ⟨h2 b hb, hZ b hb⟩) _ _ h.1 (sim.opd hv)
      obtain ⟨vs', hK, h3⟩ := argsZ_ok sim xs (v :: vs) (a.eval x :: us) h.2 (by rw [List.reverse_cons, List.reverse_cons]; exact RdL.append _ _ _ _ h1 hr)
      exact ⟨vs', hK, by simpa using h3⟩
    · exact h.elim

/-- What stands behind such a call: Z is new memory. -/
def callZK (N : Nat) (P : Program) (f : FuncId) (args : List Operand) (d : Nat) (s : ASt) (K : ASt → Prop) : Prop :=
  argsZ N s args [] fun vs => ∃ (x : V) (y : Value), Fn P f vs (.many [.pv x, .pv (.val y)]) ∧ d < s.nt ∧ ∀ Z : Nat → Prop, (∀ b, Z b → N ≤ b) → K (bringIn s d (.many [.pv (.old Z x), .pv (.val y)]))

theorem callZ_rule {f : FuncId} {args : Array Operand} {d ty : Nat} {ts : Array TypeId} {pos : String} {after : Array Edge} :
    OpRule N P ⟨some d, .call ⟨.value (.func f), args, ts⟩, ty, pos, after, none⟩ (fun s K => callZK N P f args.toList d s K) := by
  refine ⟨rfl, fun w0 S0 s φ a w K next Q hN sim h hn => ?_⟩
  obtain ⟨vs', ⟨x, y, hf, hd, hK⟩, h3⟩ := argsZ_ok sim args.toList [] [] h sim.gl
  have hrun : (execOp a.eval ⟨some d, .call ⟨.value (.func f), args, ts⟩, ty, pos, after, none⟩).run P w = .ok (.enter f (args.toList.map a.eval).toArray) w := by
    have e : execOp a.eval ⟨some d, .call ⟨.value (.func f), args, ts⟩, ty, pos, after, none⟩ = callFunc f (#[] ++ args.map a.eval ++ #[]) := rfl
    rw [e, hf.1]
    congr 2
    rw [← Array.toList_inj]
    simp
  unfold Oper.wp
  rw [hrun, Oper.upon_enter]
  simp only [List.reverse_nil, List.nil_append] at h3
  refine (hf.2 w _ _ h3).mono ?_
  rintro e w' ⟨u, ψ, rfl, hh, us, rfl, hs⟩
  have hw := sim.heap.below.size
  have hh2 : Heap w (Stab w0 S0 s.h φ) (bring (Res.many [.pv (.old (fun b => Stab w (fun b => Stab w0 S0 s.h φ b ∧ N ≤ b) [] ψ b ∧ b < w'.heap.size) x), .pv (.val y)]).list []).2 ψ w' :=
    ⟨hh.len, hh.below, fun id blk hi => by simp [bring, Res.list] at hi, fun i j bi bj b z z' hi => by simp [bring, Res.list] at hi⟩
  refine hn _ _ _ (hK (fun b => Stab w (fun b => Stab w0 S0 s.h φ b ∧ N ≤ b) [] ψ b ∧ b < w'.heap.size) fun b hb => ?_) ⟨_, sim.call_pure hd hh2 ⟨us, rfl, ?_⟩⟩
  · rcases hb.1.1 with h | h
    · exact h.2
    · omega
  · match us, hs with
    | [u1, u2], hs =>
      refine ⟨⟨fun b hb => ⟨⟨?_, hb.1.2⟩, hb.2⟩, ?_⟩, hs.2.1, trivial⟩
      · rcases hb.1.1 with h | h
        · exact .inl h.1
        · exact .inr h
      · exact Rd.mono (fun b hb hlt => ⟨⟨hb, hlt⟩, rfl⟩) _ _ hs.1

theorem callZ_go {f : FuncId} {o : Operand} {d : Nat} {K : ASt → Prop} {v x : V} {y : Value} (hx : opd s o = some (.one (.pv v))) (hn : NewV (fun Z => ∀ b, Z b → N ≤ b) v) (hf : Fn P f [v] (.many [.pv x, .pv (.val y)])) (hd : Nat.ble (d + 1) s.nt = true)
    (h : ∀ Z : Nat → Prop, (∀ b, Z b → N ≤ b) → K (bringIn s d (.many [.pv (.old Z x), .pv (.val y)]))) : callZK N P f [o] d s K := by
  unfold callZK argsZ
  rw [hx]
  exact ⟨hn, x, y, hf, Nat.le_of_ble_eq_true hd, h⟩

/-- What lies in new memory, told as old. -/
theorem oldZ_ok {t : Nat} {v v' : V} (hN : w0.heap.size = N) (sim : SimAt w0 S0 s φ a w) (ht : lookup s.σ t = some (.one (.pv v))) (hn : NewV (fun Z => ∀ b, Z b → N ≤ b) v) (hb : Bare v v') :
    ∃ Zw : Nat → Prop, (∀ b, Zw b → N ≤ b) ∧ SimAt w0 S0 ⟨upd s.σ t (.one (.pv (.old Zw v'))), s.h, s.nt⟩ φ a w := by
  refine ⟨fun b => (Stab w0 S0 s.h φ b ∧ N ≤ b) ∧ b < w.heap.size, fun b hb => hb.1.2, ⟨sim.heap, fun t' x hx => ?_, sim.defers, sim.size⟩⟩
  rw [lookup_upd] at hx
  split at hx
  · rename_i e; subst e; injection hx with hx; subst hx
    obtain ⟨u, hu, hr⟩ := sim.slots _ _ ht
    refine ⟨u, hu, fun b hb => ⟨hb.1.1, hb.2⟩, ?_⟩
    exact Rd.mono (fun b hb hlt => ⟨⟨hb, hlt⟩, rfl⟩) _ _ (Bare.rd v v' u hb (NewV.rd (S' := fun b => Stab w0 S0 s.h φ b ∧ N ≤ b) (fun Z hZ h2 b hb => ⟨h2 b hb, hZ b hb⟩) _ _ hn hr))
  · exact sim.slots t' x hx
theorem AWP.oldZ [Cx] {cd : Code} {Q : Exit → ASt → Prop} (t : Nat) {v v' : V} (ht : lookup s.σ t = some (.one (.pv v))) (hn : NewV (fun Z => ∀ b, Z b → N ≤ b) v) (hb : Bare v v')
    (h : ∀ Zw : Nat → Prop, (∀ b, Zw b → N ≤ b) → AWP N P cd Q ⟨upd s.σ t (.one (.pv (.old Zw v'))), s.h, s.nt⟩) : AWP N P cd Q s := AWP.of_step fun w0 S0 φ a w hN sim => by
  obtain ⟨Zw, h1, h2⟩ := oldZ_ok hN sim ht hn hb
  exact ⟨_, φ, h Zw h1, h2⟩

theorem stk_nop {K : ASt → Prop} (h : K s) : StK N s K := fun w0 S0 φ a w hN sim => ⟨s, φ, h, sim⟩
theorem ax_callZ [Cx] {K : ASt → Prop} {f : FuncId} {args : Array Operand} {d ty : Nat} {ts : Array TypeId} {pos : String} {after : Array Edge} (h : callZK N P f args.toList d s K) :
    Ax N P K ⟨some d, .call ⟨.value (.func f), args, ts⟩, ty, pos, after, none⟩ s := ax_rule callZ_rule h
end
end Go.Proofs.YteapdildbfimnaaGreatDoor
namespace Go.Proofs.YteapdildbfimnaaGreatDoor
open Go.RowKit Go.Proofs
set_option linter.unusedSimpArgs false
set_option linter.unusedVariables false
set_option maxRecDepth 20000

/-- A slot's value is told with less said. -/
theorem AWP.bareSlot [Cx] {P : Program} {N : Nat} {cd : Code} {Q : Exit → ASt → Prop} {s : ASt} (t : Nat) {v v' : V} (ht : lookup s.σ t = some (.one (.pv v))) (hb : Bare v v') (h : AWP N P cd Q ⟨upd s.σ t (.one (.pv v')), s.h, s.nt⟩) : AWP N P cd Q s :=
  AWP.of_step fun w0 S0 φ a w hN sim => stk_bare ht hb h w0 S0 φ a w hN sim
/-- A result that may be nil is told as a list. -/
theorem AWP.resSlot [Cx] {P : Program} {N : Nat} {cd : Code} {Q : Exit → ASt → Prop} {s : ASt} (t : Nat) {v : V} {m : List (List T3)} (hv : v = termss m ∨ (v = .val (.slice none 0 0) ∧ m = [])) (ht : lookup s.σ t = some (.one (.pv v)))
    (h : AWP N P cd Q ⟨upd s.σ t (.one (.pv (termss m))), s.h, s.nt⟩) : AWP N P cd Q s := by
  rcases hv with rfl | ⟨rfl, rfl⟩
  · exact AWP.bareSlot t ht (VE.rfl' (termss m)) h
  · exact AWP.nilSeq t 1 _ ht h
/-- An own slice of lists is told as lists that stand. -/
theorem AWP.ownSlot [Cx] {P : Program} {N : Nat} {cd : Code} {Q : Exit → ASt → Prop} {s : ASt} (t : Nat) {id n : Nat} {blk : Blk} (m : List (List T3)) (ht : lookup s.σ t = some (.one (.own id 1 0 n))) (hb : s.h[id]? = some (some blk)) (hn : n = m.length) (hl : n ≤ blk.n) (hF : ∀ i, i < n → Bare (blk.f i) (terms (tsAt m i)))
    (h : AWP N P cd Q ⟨upd s.σ t (.one (.pv (termss m))), s.h.set id none, s.nt⟩) : AWP N P cd Q s := by
  subst hn
  exact AWP.of_step fun w0 S0 φ a w hN sim => stk_letSeq (v' := termss m) ht hb (by omega) (fun u Z => ⟨rfl, rfl, fun i hi => hF i (by omega)⟩) h w0 S0 φ a w hN sim

theorem qTermsC_same (a : List T3) (ha : a.length ≤ 1099511627776) : Fn Tryz.prog 26 [terms a, terms a] (.one (.pv (vb true))) := by
  refine Fn.of_body Tryz.call26 Tryz.func26 rfl Tryz.ntmps26 (ts := [4]) rfl (by simp) rfl (fun N => ?_)
  repeat' (first | (with_reducible first | refine then_normal ?_ | refine then_ret ?_ | refine then_exit ?_ | refine block_normal ?_ | refine block_ret ?_) | ((with_reducible show blockQ _ _ _ _); first | refine block_exit ?_ | refine block_exit_ne rfl ?_) | ((with_reducible show AWP _ _ _ _ _); first | (with_reducible first | refine AWP.seq ?_ | refine AWP.block ?_ | refine AWP.region ?_ | refine AWP.ret ?_ | refine AWP.exit ?_ | refine AWP.skip ?_) | refine AWP.drawn rfl (by kernel_rfl) ?_ | refine AWP.cond rfl ?_ ?_) | with_reducible refine ev_nil ?_ | ((first | ((with_reducible show evOps _ _ _ _ _ _); (first | refine ev_step rfl ?_ | refine ev_undef rfl rfl rfl ?_); intro K hK) | ((with_reducible show EvOpen _ _ _ _ _ _ _); refine ev_open ?_; intro K hK) | ((with_reducible show SkOpen _ _ _ _ _ _ _); refine sk_open ?_; intro K hK) | ((with_reducible show callK _ _ _ _ _ _ _ _); first | fail)); simp only [evOp, evQ, evB, binK, withS, opd, kput, putS, upd, lookup, slotsOf, sz_terms, bne_self_eq_false, Nat.reduceEqDiff, Nat.reduceLT, Nat.zero_add, ↓reduceIte, eq_self, true_and, Option.isSome_some]) | refine ev_guard rfl rfl rfl ?_ ?_ | ((with_reducible show retQ _ _ _ _); simp only [eq_self]) | (with_reducible refine hK _ ?_; clear hK K) | (with_reducible refine And.intro ?_ ?_) | (with_reducible intro hc; try simp only [reduceCtorEq] at hc) | omega)
  all_goals try (exfalso; simp_all; done)
  refine AWP.loop_ent (fun k : Nat => ⟨[(0, .one (.pv (terms a))), (1, .one (.pv (terms a))), (12, sc (.int .i64 a.length)), (13, sc (.int .i64 k))], [], 26⟩)
    (fun k => k ≤ a.length) (fun k => a.length - k) 0 (by omega) (by simp [Ent, EntS, EntH, SlE, VE, lookup, BE, VE.rfl']) ?_
  intro k hk
  repeat' (first | (with_reducible first | refine then_normal ?_ | refine then_ret ?_ | refine then_exit ?_ | refine block_normal ?_ | refine block_ret ?_) | ((with_reducible show blockQ _ _ _ _); first | refine block_exit ?_ | refine block_exit_ne rfl ?_) | ((with_reducible show AWP _ _ _ _ _); first | (with_reducible first | refine AWP.seq ?_ | refine AWP.block ?_ | refine AWP.region ?_ | refine AWP.ret ?_ | refine AWP.exit ?_ | refine AWP.skip ?_) | refine AWP.drawn rfl (by kernel_rfl) ?_ | refine AWP.cond rfl ?_ ?_) | with_reducible refine ev_nil ?_ | ((first | ((with_reducible show evOps _ _ _ _ _ _); (first | refine ev_step rfl ?_ | refine ev_undef rfl rfl rfl ?_); intro K hK) | ((with_reducible show EvOpen _ _ _ _ _ _ _); refine ev_open ?_; intro K hK) | ((with_reducible show SkOpen _ _ _ _ _ _ _); refine sk_open ?_; intro K hK) | ((with_reducible show callK _ _ _ _ _ _ _ _); first | fail)); simp only [evOp, evQ, eqStK, vInt, binK, withS, opd, kput, putS, upd, lookup, InK_i64, sz_terms, c_term, is_term, Nat.reduceEqDiff, Nat.reduceLT, Nat.reduceLeDiff, ↓reduceIte, eq_self, true_and, forall_const, implies_true, Int.toNat_natCast]) | refine ev_guard rfl rfl rfl ?_ ?_ | ((with_reducible show retQ _ _ _ _); simp only [retQ, retOk, getL, lookup, Option.map_some, fitsL, fits, ND, srcs, Res.list, VE, Value.bool.injEq, Nat.reduceEqDiff, ↓reduceIte, and_true]) | (with_reducible refine hK _ ?_; clear hK K) | (with_reducible refine And.intro ?_ ?_) | (with_reducible intro hc; try simp only [decide_eq_true_eq, decide_eq_false_iff_not, Bool.not_eq_true', Bool.not_eq_false', Int.not_lt] at hc) | omega)
  all_goals first
    | (intro i hi; rfl)
    | (exfalso; have := (sameB_eqT a a k).symm.trans ‹_›; simp [eqT] at this; done)
    | exact ⟨k + 1, by omega, by omega, by simp [Ent, EntS, EntH, SlE, VE, lookup, BE, VE.rfl']⟩
    | rfl
    | trace_state
theorem qPlanes_same (M : List (List T3)) (hl : M.length ≤ 1099511627776) (hr : ∀ i, i < M.length → (tsAt M i).length ≤ 1099511627776) : Fn Tryz.prog 7 [termss M, termss M] (.one (.pv (vb true))) := by
  refine Fn.of_body Tryz.call7 Tryz.func7 rfl Tryz.ntmps7 (ts := [4]) rfl (by simp) rfl (fun N => ?_)
  repeat' (first | (with_reducible first | refine then_normal ?_ | refine then_ret ?_ | refine then_exit ?_ | refine block_normal ?_ | refine block_ret ?_) | ((with_reducible show blockQ _ _ _ _); first | refine block_exit ?_ | refine block_exit_ne rfl ?_) | ((with_reducible show AWP _ _ _ _ _); first | (with_reducible first | refine AWP.seq ?_ | refine AWP.block ?_ | refine AWP.region ?_ | refine AWP.ret ?_ | refine AWP.exit ?_ | refine AWP.skip ?_) | refine AWP.drawn rfl (by kernel_rfl) ?_ | refine AWP.cond rfl ?_ ?_) | with_reducible refine ev_nil ?_ | ((first | ((with_reducible show evOps _ _ _ _ _ _); (first | refine ev_step rfl ?_ | refine ev_undef rfl rfl rfl ?_); intro K hK) | ((with_reducible show EvOpen _ _ _ _ _ _ _); refine ev_open ?_; intro K hK) | ((with_reducible show SkOpen _ _ _ _ _ _ _); refine sk_open ?_; intro K hK) | ((with_reducible show callK _ _ _ _ _ _ _ _); first | fail)); simp only [evOp, evQ, evB, binK, withS, opd, kput, putS, upd, lookup, slotsOf, sz_termss, bne_self_eq_false, Nat.reduceEqDiff, Nat.reduceLT, Nat.zero_add, ↓reduceIte, eq_self, true_and, Option.isSome_some]) | refine ev_guard rfl rfl rfl ?_ ?_ | ((with_reducible show retQ _ _ _ _); simp only [eq_self]) | (with_reducible refine hK _ ?_; clear hK K) | (with_reducible refine And.intro ?_ ?_) | (with_reducible intro hc; try simp only [reduceCtorEq] at hc) | omega)
  all_goals try (exfalso; simp_all; done)
  refine AWP.loop_ent (fun k : Nat => ⟨[(0, .one (.pv (termss M))), (1, .one (.pv (termss M))), (12, sc (.int .i64 M.length)), (13, sc (.int .i64 k))], [], 27⟩)
    (fun k => k ≤ M.length) (fun k => M.length - k) 0 (by omega) (by simp [Ent, EntS, EntH, SlE, VE, VE.rfl', lookup]) ?_
  intro k hk
  by_cases hkl : k < M.length
  · repeat' (first | (with_reducible first | refine then_normal ?_ | refine then_ret ?_ | refine then_exit ?_ | refine block_normal ?_ | refine block_ret ?_) | ((with_reducible show blockQ _ _ _ _); first | refine block_exit ?_ | refine block_exit_ne rfl ?_) | ((with_reducible show AWP _ _ _ _ _); first | (with_reducible first | refine AWP.seq ?_ | refine AWP.block ?_ | refine AWP.region ?_ | refine AWP.ret ?_ | refine AWP.exit ?_ | refine AWP.skip ?_) | refine AWP.drawn rfl (by kernel_rfl) ?_ | refine AWP.cond rfl ?_ ?_) | with_reducible refine ev_nil ?_ | ((first | ((with_reducible show evOps _ _ _ _ _ _); (first | refine ev_step rfl ?_ | refine ev_undef rfl rfl rfl ?_); intro K hK) | ((with_reducible show EvOpen _ _ _ _ _ _ _); refine ev_open ?_; intro K hK) | ((with_reducible show SkOpen _ _ _ _ _ _ _); refine sk_open ?_; intro K hK) | ((with_reducible show callK _ _ _ _ _ _ _ _); first  | (refine call_scalar (qTermsC_same (tsAt M k) (hr k hkl)) (Nat.le_of_ble_eq_true rfl) rfl ?_))); simp only [evOp, evQ, binK, withS, opd, kput, putS, upd, lookup, argsK, bringIn, bring, Res.list, Res.slot, InK_i64, sz_termss, c_terms, List.reverse_cons, List.reverse_nil, List.nil_append, List.cons_append, Nat.reduceEqDiff, Nat.reduceLT, Nat.mul_one, Nat.add_zero, ↓reduceIte, eq_self, true_and, Bool.not_true, Int.toNat_natCast]) | refine ev_guard rfl rfl rfl ?_ ?_ | ((with_reducible show retQ _ _ _ _); simp only [retQ, retOk, getL, lookup, Option.map_some, fitsL, fits, ND, srcs, Res.list, VE, Nat.reduceEqDiff, ↓reduceIte, and_true]) | (with_reducible refine hK _ ?_; clear hK K) | (with_reducible refine And.intro ?_ ?_) | (with_reducible intro hc; try simp only [decide_eq_true_eq, decide_eq_false_iff_not, Int.not_lt, reduceCtorEq] at hc) | omega)
    all_goals first
      | (exfalso; omega)
      | (exfalso; simp_all; done)
      | exact ⟨k + 1, by omega, by omega, by simp [Ent, EntS, EntH, SlE, VE, VE.rfl', lookup]⟩
      | trace_state
  · obtain rfl : k = M.length := by omega
    repeat' (first | (with_reducible first | refine then_normal ?_ | refine then_ret ?_ | refine then_exit ?_ | refine block_normal ?_ | refine block_ret ?_) | ((with_reducible show blockQ _ _ _ _); first | refine block_exit ?_ | refine block_exit_ne rfl ?_) | ((with_reducible show AWP _ _ _ _ _); first | (with_reducible first | refine AWP.seq ?_ | refine AWP.block ?_ | refine AWP.region ?_ | refine AWP.ret ?_ | refine AWP.exit ?_ | refine AWP.skip ?_) | refine AWP.drawn rfl (by kernel_rfl) ?_ | refine AWP.cond rfl ?_ ?_) | with_reducible refine ev_nil ?_ | ((first | ((with_reducible show evOps _ _ _ _ _ _); (first | refine ev_step rfl ?_ | refine ev_undef rfl rfl rfl ?_); intro K hK) | ((with_reducible show EvOpen _ _ _ _ _ _ _); refine ev_open ?_; intro K hK) | ((with_reducible show SkOpen _ _ _ _ _ _ _); refine sk_open ?_; intro K hK) | ((with_reducible show callK _ _ _ _ _ _ _ _); first | fail)); simp only [evOp, evQ, binK, withS, opd, kput, putS, upd, lookup, argsK, sz_termss, c_terms, List.reverse_cons, List.reverse_nil, List.nil_append, List.cons_append, Nat.reduceEqDiff, Nat.reduceLT, Nat.mul_one, Nat.add_zero, ↓reduceIte, eq_self, true_and, Int.toNat_natCast]) | refine ev_guard rfl rfl rfl ?_ ?_ | ((with_reducible show retQ _ _ _ _); simp only [retQ, retOk, getL, lookup, Option.map_some, fitsL, fits, ND, srcs, Res.list, VE, Nat.reduceEqDiff, ↓reduceIte, and_true]) | (with_reducible refine hK _ ?_; clear hK K) | (with_reducible refine And.intro ?_ ?_) | (with_reducible intro hc; try simp only [decide_eq_true_eq, decide_eq_false_iff_not, Int.not_lt] at hc) | omega)
    all_goals first
      | (exfalso; omega)
      | (exfalso; simp_all; done)
      | rfl
      | trace_state
end Go.Proofs.YteapdildbfimnaaGreatDoor
namespace Go.Proofs.YteapdildbfimnaaGreatDoor
set_option linter.unusedSimpArgs false
set_option linter.unusedVariables false
open Go.RowKit

section
variable {P : Program} {ops : Array Oper} {Q : Exit → Act → World → Prop} {S : World → Prop}

/-- In whatever order; S holds behind all operations but number L. -/
def wpAnyS (P : Program) (ops : Array Oper) (Q : Exit → Act → World → Prop) (S : World → Prop) (L : Nat) : Nat → Array Bool → Act → World → Prop
  | 0, listed, a, w => Region.ready .any ops listed = [] ∧ Q .normal a w
  | f + 1, listed, a, w => (Region.ready .any ops listed = [] → Q .normal a w) ∧
    ∀ i ∈ Region.ready .any ops listed, wpOp P ops Q i (fun a' w' => (i ≠ L → S w') ∧ wpAnyS P ops Q S L f (listed.setIfInBounds i true) a' w') a w

theorem wpAnyS.any {L : Nat} : ∀ (f : Nat) (listed : Array Bool) (a : Act) (w : World), wpAnyS P ops Q S L f listed a w → wpAny P .any ops Q f listed a w
  | 0, _, _, _, h => h
  | f + 1, _, _, _, h => ⟨h.1, fun i hi => wpOp_mono (fun a' w' h' => wpAnyS.any f _ a' w' h'.2) (h.2 i hi)⟩

end

/-- An operation is done by whatever rule, and what was there is there as it was. -/
def OpAnyB (N : Nat) (P : Program) (o : Oper) (K : ASt → Prop) (s : ASt) : Prop :=
  o.guard = none ∧ ∀ (w0 : World) (S0 : Nat → Prop) (φ : List (Option (Nat × Nat))) (a : Act) (w : World), w0.heap.size = N → SimAt w0 S0 s φ a w → ∀ (next : Act → World → Prop) (Q : Exit → Act → World → Prop),
    (∀ s' a' w', K s' → Sim w0 S0 s' a' w' → Below w.heap.size w w' → next a' w') → o.wp P a w next Q

def evAs (N : Nat) (P : Program) (ops : List Oper) (L i : Nat) (K : ASt → Prop) (s : ASt) : Prop :=
  match ops[i]? with
  | some o => (i = L ∧ OpAny N P o K s) ∨ OpAnyB N P o K s
  | none => False
def evSy (N : Nat) (P : Program) (ops : List Oper) (L : Nat) (K : ASt → Prop) : Nx → ASt → Prop
  | .done, s => K s
  | .take i t, s => evAt P true ops i (evSy N P ops L K t) s
  | .one i t, s => evAs N P ops L i (evSy N P ops L K t) s
  | .alt i t u, s => evAs N P ops L i (evSy N P ops L K t) s ∧ evSy N P ops L K u s
  | .st t, s => StK N s (evSy N P ops L K t)

section
variable {P : Program} {w0 : World} {S0 : Nat → Prop} {N : Nat} {w1 : World}

theorem callE_below {f : FuncId} {args : Array Operand} {d ty : Nat} {ts : Array TypeId} {pos : String} {after : Array Edge} {s : ASt} {φ : List (Option (Nat × Nat))} {a : Act} {w : World} {K : ASt → Prop} {next : Act → World → Prop} {Q : Exit → Act → World → Prop}
    (hN : w0.heap.size = N) (sim : SimAt w0 S0 s φ a w) (h : callEK N P f args.toList d s K) (hn : ∀ s' a' w', K s' → Sim w0 S0 s' a' w' → Below w.heap.size w w' → next a' w') : (⟨some d, .call ⟨.value (.func f), args, ts⟩, ty, pos, after, none⟩ : Oper).wp P a w next Q := by
  obtain ⟨p', vs', ⟨R, hf, hd, hK⟩, h3, h4⟩ := argsK_ok sim args.toList true [] [] h sim.gl (fun _ => sim.gl)
  have hrun : (execOp a.eval ⟨some d, .call ⟨.value (.func f), args, ts⟩, ty, pos, after, none⟩).run P w = .ok (.enter f (args.toList.map a.eval).toArray) w := by
    have e : execOp a.eval ⟨some d, .call ⟨.value (.func f), args, ts⟩, ty, pos, after, none⟩ = callFunc f (#[] ++ args.map a.eval ++ #[]) := rfl
    rw [e, hf.1]
    congr 2
    rw [← Array.toList_inj]
    simp
  unfold Oper.wp
  rw [hrun, Oper.upon_enter]
  simp only [List.reverse_nil, List.nil_append] at h3 h4
  refine (hf.2 w _ h3).mono ?_
  rintro e w' ⟨r, u, ψ, hr, hnew, rfl, hh, hs⟩
  have hw := sim.heap.below.size
  refine hn _ _ _ (hK r hr (NewL.mono (fun Z hZ => ⟨fun b hb => by have := hZ b hb; omega, fun Z' hZ' b hb hb' => ?_⟩) _ hnew)) ⟨_, sim.call_new hd hnew hh hs⟩ hh.below
  have h1 := (hZ'.there sim b hb).2
  have h2 := hZ b hb'
  omega

def AxB (N : Nat) (P : Program) (K : ASt → Prop) (o : Oper) (s : ASt) : Prop := OpAnyB N P o K s
theorem sy_done {ops : List Oper} {L : Nat} {K : ASt → Prop} {s : ASt} (h : K s) : evSy N P ops L K .done s := h
theorem sy_take {ops : List Oper} {L : Nat} {K : ASt → Prop} {k : Nat} {t : Nx} {s : ASt} {o : Oper} (ho : ops[k]? = some o) (h : ∀ K' : ASt → Prop, (∀ s', evSy N P ops L K t s' → K' s') → evOp P true o K' s) : evSy N P ops L K (.take k t) s := by
  show evAt P true ops k _ s
  unfold evAt; rw [ho]; exact h _ fun _ h => h
theorem sy_one {ops : List Oper} {L : Nat} {K : ASt → Prop} {k : Nat} {t : Nx} {s : ASt} {o : Oper} (hk : k ≠ L) (ho : ops[k]? = some o) (h : AxB N P (evSy N P ops L K t) o s) : evSy N P ops L K (.one k t) s := by
  show evAs N P ops L k _ s
  unfold evAs; rw [ho]; exact .inr h
theorem sy_last {ops : List Oper} {L : Nat} {K : ASt → Prop} {t : Nx} {s : ASt} {o : Oper} (ho : ops[L]? = some o) (h : Ax N P (evSy N P ops L K t) o s) : evSy N P ops L K (.one L t) s := by
  show evAs N P ops L L _ s
  unfold evAs; rw [ho]; exact .inl ⟨rfl, h⟩
theorem sy_alt {ops : List Oper} {L : Nat} {K : ASt → Prop} {k : Nat} {t u : Nx} {s : ASt} {o : Oper} (hk : k ≠ L) (ho : ops[k]? = some o) (h : AxB N P (evSy N P ops L K t) o s) (h' : evSy N P ops L K u s) : evSy N P ops L K (.alt k t u) s := by
  refine ⟨?_, h'⟩
  unfold evAs; rw [ho]; exact .inr h
theorem sy_st {ops : List Oper} {L : Nat} {K : ASt → Prop} {t : Nx} {s : ASt} (h : StK N s (evSy N P ops L K t)) : evSy N P ops L K (.st t) s := h
theorem axb_op {K : ASt → Prop} {o : Oper} {s : ASt} (hg : o.guard = none) (hw : wr o = false) (h : ∀ K' : ASt → Prop, (∀ s', K s' → K' s') → evOp P false o K' s) : AxB N P K o s :=
  ⟨hg, fun w0 S0 φ a w hN sim next Q hn => evOp_below sim hw (h _ fun _ h => h) hn⟩
theorem axb_callE {K : ASt → Prop} {f : FuncId} {args : Array Operand} {d ty : Nat} {ts : Array TypeId} {pos : String} {after : Array Edge} {s : ASt} (h : callEK N P f args.toList d s K) :
    AxB N P K ⟨some d, .call ⟨.value (.func f), args, ts⟩, ty, pos, after, none⟩ s :=
  ⟨rfl, fun w0 S0 φ a w hN sim next Q hn => callE_below hN sim h hn⟩
end

set_option linter.unusedSimpArgs false
set_option linter.unusedVariables false
open Go.RowKit

/-- All blocks that a slot names have numbers from n on. -/
def SV.ge (n : Nat) : SV → Prop
  | .own id _ _ _ => n ≤ id
  | .ptr id _ => n ≤ id
  | _ => True
def geSs (n : Nat) : List SV → Prop
  | [] => True
  | v :: vs => v.ge n ∧ geSs n vs
def Slot.ge (n : Nat) : Slot → Prop
  | .one v => v.ge n
  | .many vs => geSs n vs
def geS (n : Nat) : List (Nat × Slot) → Prop
  | [] => True
  | (_, v) :: r => v.ge n ∧ geS n r
theorem geS.get {n : Nat} {v : Slot} {t : Nat} : ∀ {σ : List (Nat × Slot)}, geS n σ → lookup σ t = some v → v.ge n
  | [], _, h => by cases h
  | (k, x) :: r, g, h => by
    simp only [lookup] at h
    split at h
    · injection h with h; subst h; exact g.1
    · exact geS.get g.2 h

section
variable {P : Program} {w0 : World} {S0 : Nat → Prop} {N : Nat}

def memN (t : Nat) : List Nat → Bool
  | [] => false
  | x :: r => if t = x then true else memN t r
/-- A slot that says a place alone. -/
def Slot.place : Slot → Prop
  | .one (.ptr _ _) => True
  | .one (.own _ _ _ _) => True
  | _ => False
def geT (n : Nat) (T : List Nat) : List (Nat × Slot) → Prop
  | [] => True
  | (t, v) :: r => (if memN t T = true then True else v.ge n) ∧ geT n T r
def sameT (U : Nat → Value) (τ : List (Nat × Slot)) : List Nat → Prop
  | [] => True
  | t :: r => lookup τ t = some (sc (U t)) ∧ sameT U τ r
def placeT (τ : List (Nat × Slot)) : List Nat → Prop
  | [] => True
  | t :: r => (match lookup τ t with | some v => v.place | none => False) ∧ placeT τ r
theorem geT.get {n : Nat} {T : List Nat} {v : Slot} {t : Nat} (ht : memN t T = false) : ∀ {σ : List (Nat × Slot)}, geT n T σ → lookup σ t = some v → v.ge n
  | [], _, h => by cases h
  | (k, x) :: r, g, h => by
    simp only [lookup] at h
    split at h
    · rename_i e; subst e; injection h with h; subst h
      have := g.1
      rw [if_neg (by rw [ht]; simp)] at this
      exact this
    · exact geT.get ht g.2 h
theorem sameT.get {U : Nat → Value} {τ : List (Nat × Slot)} {t : Nat} : ∀ {T : List Nat}, memN t T = true → sameT U τ T → lookup τ t = some (sc (U t))
  | [], h, _ => by cases h
  | x :: r, h, g => by
    simp only [memN] at h
    split at h
    · rename_i e; subst e; exact g.1
    · exact sameT.get h g.2
theorem placeT.get {τ : List (Nat × Slot)} {t : Nat} : ∀ {T : List Nat}, memN t T = true → placeT τ T → ∃ v, lookup τ t = some v ∧ v.place
  | [], h, _ => by cases h
  | x :: r, h, g => by
    simp only [memN] at h
    split at h
    · rename_i e; subst e
      have := g.1
      split at this
      · rename_i v hv; exact ⟨v, hv, this⟩
      · exact this.elim
    · exact placeT.get h g.2
theorem Slot.place.rd {v : Slot} {u : Value} {w w' : World} {S S' : Nat → Prop} {φ φ' : List (Option (Nat × Nat))} (hp : v.place) (hφ : ∀ (id : Nat) x, φ[id]? = some x → φ'[id]? = some x) (h : RdSlot w S φ v u) : RdSlot w' S' φ' v u := by
  match v, hp with
  | .one (.ptr id off), _ =>
    obtain ⟨b, z, h1, h2⟩ := h
    exact ⟨b, z, hφ _ _ h1, h2⟩
  | .one (.own id sz off len), _ =>
    rcases h with ⟨h1, h2⟩ | ⟨b, c, z, h1, h2⟩
    · exact .inl ⟨hφ _ _ h1, h2⟩
    · exact .inr ⟨b, c, z, hφ _ _ h1, h2⟩

variable {w1 : World} {S1 : Nat → Prop}
end

end Go.Proofs.YteapdildbfimnaaGreatDoor
namespace Go.Proofs.YteapdildbfimnaaGreatDoor
set_option linter.unusedSimpArgs false
set_option linter.unusedVariables false
open Go.RowKit Go.Proofs

section
variable {P : Program} {N : Nat}

end
end Go.Proofs.YteapdildbfimnaaGreatDoor
namespace Go.Proofs.YteapdildbfimnaaGreatDoor
set_option linter.unusedSimpArgs false
set_option linter.unusedVariables false
open Go.RowKit

section
variable {P : Program}
end

set_option linter.unusedSimpArgs false
set_option linter.unusedVariables false
open Go.RowKit Go.Proofs

/-- What waits for the next stage of a walk. -/
def HoldW (p : Prop) : Prop := p
theorem AWP.holdW [Cx] {P : Program} {N : Nat} {id : Nat} {ops : Array Oper} {d : Bool} {Q : Exit → ASt → Prop} {s : ASt} (h : HoldW (AWP N P (.region id ops d) Q s)) : AWP N P (.region id ops d) Q s := h

section
variable {P : Program} {N : Nat}

end

set_option linter.unusedSimpArgs false
set_option linter.unusedVariables false
open Go.RowKit

section
variable {P : Program}
end

end Go.Proofs.YteapdildbfimnaaGreatDoor
namespace Go.Proofs
open Go.Shelf
end Go.Proofs
namespace Go.Proofs.YteapdildbfimnaaGreatDoor
open Go.RowKit Go.Proofs Go.Sort
set_option linter.unusedSimpArgs false
set_option linter.unusedVariables false

/-- A term of small numbers. -/
def TB (t : T3) : Prop := -1000000 ≤ t.1 ∧ t.1 ≤ 1000000 ∧ -1000000 ≤ t.2.1 ∧ t.2.1 ≤ 1000000 ∧ -1000000 ≤ t.2.2 ∧ t.2.2 ≤ 1000000
abbrev TS := {t : T3 // TB t}
instance tsInh : Inhabited TS := ⟨⟨(0, 0, 0), by unfold TB; decide⟩⟩
/-- The order of terms, their last numbers last. -/
def lt0 (a b : T3) : Bool := decide (a.1 < b.1 ∨ (a.1 = b.1 ∧ (a.2.1 < b.2.1 ∨ (a.2.1 = b.2.1 ∧ a.2.2 < b.2.2))))
def srt (l : List T3) : List T3 := l.mergeSort fun x y => !lt0 y x
@[simp] theorem srt_len (l : List T3) : (srt l).length = l.length := List.length_mergeSort _

end Go.Proofs.YteapdildbfimnaaGreatDoor
namespace Go.Proofs.YteapdildbfimnaaGreatDoor
set_option linter.unusedSimpArgs false
set_option linter.unusedVariables false

def swT (t : T3) : T3 := (t.2.1, t.1, t.2.2)
def swp (l : List T3) : List T3 := l.map swT
@[simp] theorem swp_len (l : List T3) : (swp l).length = l.length := by simp [swp]
/-- Terms of places apart. -/
def KD (a b : T3) : Prop := a.1 ≠ b.1 ∨ a.2.1 ≠ b.2.1
theorem KD.symm {a b : T3} (h : KD a b) : KD b a := by unfold KD at *; omega
/-- How many terms at the head stand before a term. -/
def cntB (t : T3) : List T3 → Nat
  | [] => 0
  | x :: l => if befB x t = true then cntB t l + 1 else 0
/-- A term put in its place. -/
def insT (l : List T3) (t : T3) : List T3 := l.take (cntB t l) ++ (t :: l.drop (cntB t l))
@[simp] theorem insT_len (l : List T3) (t : T3) : (insT l t).length = l.length + 1 := by simp [insT]; omega
/-- The first k terms, put in one after the other. -/
def insK (l : List T3) : Nat → List T3
  | 0 => []
  | k + 1 => insT (insK l k) (tAt l k)
@[simp] theorem insK_len (l : List T3) : ∀ k, (insK l k).length = k
  | 0 => rfl
  | k + 1 => by unfold insK; rw [insT_len, insK_len l k]
open Go.RowKit Go.Proofs
set_option linter.unusedSimpArgs false
set_option linter.unusedVariables false

end Go.Proofs.YteapdildbfimnaaGreatDoor
