/- Automata handed on if they are good. Conditions: lists no longer than 2^40. -/
import Derived.Test.YtpimjkhfookipaaEngS
import Derived.Test.YtpimjkhfookipaaTurnH
import Derived.Test.YtpimjkhfookipaaFnA
import Derived.Test.YtpimjkhfookipaaEngH
namespace Go.Proofs.Ytpimjkhfookipaa
open Go.RowKit Go.Proofs
set_option linter.unusedSimpArgs false
set_option linter.unusedVariables false

/-- A struct result in a variable beside a bool. -/
def cell2At (t n tb : Nat) (g : Nat → V) (b : Bool) (s : ASt) : Prop := retCell.cellOk t n g s ∧ lookup s.σ tb = some (sc (.bool b))
def retCell2 (t n tb : Nat) (g : Nat → V) (b : Bool) : Exit → ASt → Prop
  | .normal, s => cell2At t n tb g b s
  | .ret, s => cell2At t n tb g b s
  | _, _ => False
theorem Fn.of_body_cell2 {P : Program} {f : FuncId} {fn : Func} {c : Code} {nt t ty tb n : Nat} {vs : List V} {g : Nat → V} {bb : Bool}
    (hcall : ∀ (args : Array Value) (w : World), (callFunc f args).run P w = .ok (.enter f args) w) (hf : P.funcs[f]? = some fn) (hb : fn.body = some c) (hnt : fn.ntmps = nt)
    (hres : fn.results = #[ResultVar.cell t ty, ResultVar.tmp tb]) (hc : cellsIn P ty = some (some n)) (hlen : vs.length ≤ nt) (h : ∀ N, AWP N P c (retCell2 t n tb g bb) ⟨slotsOf 0 vs, [], nt⟩) : Fn P f vs (.many [.pv (.agg n g), .pv (.val (.bool bb))]) := by
  refine ⟨hcall, fun w S0 us hus => calls_of_wp hf hb ?_⟩
  have hul := hus.len
  have sim : SimAt w S0 ⟨slotsOf 0 vs, [], nt⟩ [] { tmps := us.toArray ++ Array.replicate (fn.ntmps - us.toArray.size) undef, defers := [] } w := by
    refine ⟨⟨rfl, Below.refl _ _, fun id blk hi => by simp at hi, fun i j bi bj b z z' hi => by simp at hi⟩, fun t x ht => ?_, ⟨rfl, hus.gl⟩, by simp [hnt]; omega⟩
    obtain ⟨v, rfl, _, hv⟩ := slotsOf_get vs 0 t ht
    obtain ⟨u, hu, hr⟩ := RdL.get vs us t hus (by simpa using hv)
    refine ⟨u, ?_, ?_⟩
    · have : t < us.length := (List.getElem?_eq_some_iff.1 hu).1
      rw [Array.getElem?_append_left (by simpa using this)]; simpa using hu
    · refine Rd.mono (fun b hb hlt => ⟨⟨.inl hb, ?_⟩, rfl⟩) _ _ hr
      rintro ⟨id, blk, z, hi, _⟩; simp at hi
  refine wp_mono (h _ w S0 _ w rfl ⟨w, Reb.refl _, [], sim⟩) fun e a' w' ⟨s', hq, w1, hR, φ, sim'⟩ => ?_
  obtain rfl := hR.none
  have fin : cell2At t n tb g bb s' → a'.defers = [] ∧ ∃ v, (results fn a'.tmps).run P w' = .ok v w' ∧
      ∃ u φ, Ending.returned v = .returned u ∧ Heap w S0 (bring (Res.many [.pv (.agg n g), .pv (.val (.bool bb))]).list []).2 φ w' ∧ RdSlot w' (Stab w S0 (bring (Res.many [.pv (.agg n g), .pv (.val (.bool bb))]).list []).2 φ) φ ((Res.many [.pv (.agg n g), .pv (.val (.bool bb))]).slot (bring (Res.many [.pv (.agg n g), .pv (.val (.bool bb))]).list []).1) u := fun ⟨hq, hbool⟩ => by
    obtain ⟨ub, hub, hrb⟩ := sim'.slots tb _ hbool
    obtain rfl : ub = .bool bb := hrb
    unfold retCell.cellOk at hq
    split at hq
    · rename_i id off hl
      split at hq
      · rename_i blk hblk
        obtain ⟨hle, hve⟩ := hq
        obtain ⟨u, hu, b, z, hφ, rfl⟩ := sim'.slots t _ hl
        obtain ⟨cur, _, hB, hcur, hn, hx⟩ := sim'.blkAt hblk hφ
        have hst : ∀ b, Stab w S0 s'.h φ b → Stab w S0 [] [] b := fun b hb => ⟨hb.1, fun ⟨i, x, z, h1, _⟩ => by simp at h1⟩
        have hg : ∀ j, j < n → w'.cell? ⟨b, off + j, none⟩ = some (cur.getD (off + j) undef) ∧ Rd w' (Stab w S0 [] []) (g j) (cur.getD (off + j) undef) := fun j hj => by
          obtain ⟨x, hx1, hx2⟩ := hx (off + j) (by omega)
          have e : cur.getD (off + j) undef = x := by simp [hx1]
          rw [e]
          exact ⟨cell_of_blk hcur hx1, VE.rd _ _ _ (hve j hj) (Rd.mono (fun b hb _ => ⟨hst b hb, rfl⟩) _ _ hx2)⟩
        refine ⟨sim'.defers.1, _, run_results_cell2 hres hc _ b off (by simp [hu]) (.bool bb) (by simp [hub]) (fun j => cur.getD (off + j) undef) w' fun j hj => (hg j hj).1, _, [], rfl, ⟨rfl, sim'.heap.below, fun id blk hi => by simp [bring, Res.list] at hi, fun i j bi bj b z z' hi => by simp [bring, Res.list] at hi⟩, ?_⟩
        exact ⟨_, rfl, rd_agg fun j hj => (hg j hj).2, rfl, trivial⟩
      · exact hq.elim
    · exact hq.elim
  cases e with
  | normal => exact fin hq
  | ret => exact fin hq
  | _ => exact hq.elim

theorem cellOk_at {t id n : Nat} {g : Nat → V} {s : ASt} {blk : Blk} (ht : lookup s.σ t = some (.one (.ptr id 0))) (hb : s.h[id]? = some (some blk)) (hn : blk.n = n) (hf : ∀ i, i < n → VE (blk.f i) (g i)) : retCell.cellOk t n g s := by
  unfold retCell.cellOk
  rw [ht]
  simp only [hb]
  exact ⟨by omega, fun i hi => by rw [Nat.zero_add]; exact hf i hi⟩

/-- What is handed on. -/
def toldF (ok : Bool) (F : Nat → V) : Nat → V := fun i => if ok then F i else .val (.slice none 0 0)

set_option maxRecDepth 100000 in
theorem toldAut_fn (a e : List Int) (s : List (List (List Int))) (ha : a.length ≤ 1099511627776) (he : e.length ≤ 1099511627776) (hs : s.length ≤ 1099511627776) (hm : ∀ i, i < s.length → lenM (matAt s i)) {F : Nat → V} (hF : Bare (.agg 3 F) (autV a e s)) (h1 : ∀ i, i < 3 → (F i).one = true) :
    Fn Try.prog 125 [.agg 3 F] (.many [.pv (.agg 3 (toldF (autB a e s) F)), .pv (vb (autB a e s))]) := by
  refine Fn.of_body_cell2 Try.call125 Try.func125 rfl Try.ntmps125 (t := 2) (ty := 37) (tb := 3) rfl c_aut (by simp) (fun N => ?_)
  have hgood := (isAutomaton_fn a e s ha he hs hm).bare (vs' := [.agg 3 F]) ⟨hF, trivial⟩
  cases hok : autB a e s with
  | true =>
    rw [hok] at hgood
    repeat' (first | (with_reducible first | refine then_normal ?_ | refine then_ret ?_ | refine then_exit ?_ | refine block_normal ?_ | refine block_ret ?_) | ((with_reducible show blockQ _ _ _ _); first | refine block_exit ?_ | refine block_exit_ne rfl ?_) | ((with_reducible show AWP _ _ _ _ _); first | (with_reducible first | refine AWP.seq ?_ | refine AWP.block ?_ | refine AWP.region ?_ | refine AWP.ret ?_ | refine AWP.exit ?_ | refine AWP.skip ?_) | refine AWP.drawn rfl (by kernel_rfl) ?_ | refine AWP.cond rfl ?_ ?_) | with_reducible refine ev_nil ?_ | ((first | ((with_reducible show evOps _ _ _ _ _ _); (first | refine ev_step rfl ?_ | refine ev_undef rfl rfl rfl ?_); intro K hK) | ((with_reducible show EvOpen _ _ _ _ _ _ _); refine ev_open ?_; intro K hK) | ((with_reducible show SkOpen _ _ _ _ _ _ _); refine sk_open ?_; intro K hK) | ((with_reducible show callK _ _ _ _ _ _ _ _); first  | (refine call_scalar (hgood) (Nat.le_of_ble_eq_true rfl) rfl ?_))); simp only [evOp, evQ, withS, opd, kput, putS, upd, lookup, argsK, loadOwn, bringIn, bring, Res.list, Res.slot, slotsOf, storeK, frz, storeV, setBlk, newBlk, boxV, allocK, List.set_cons_zero, List.set_cons_succ, Nat.zero_le, c_aut, z_aut, List.getElem?_cons_zero, List.getElem?_cons_succ, List.reverse_cons, List.reverse_nil, List.nil_append, List.cons_append, List.length_cons, List.length_nil, Nat.reduceEqDiff, Nat.reduceAdd, Nat.reduceLT, Nat.reduceLeDiff, Nat.zero_add, Nat.sub_zero, ↓reduceIte, eq_self, true_and, Bool.not_true]) | refine ev_guard rfl rfl rfl ?_ ?_ | ((with_reducible show retQ _ _ _ _); simp only [eq_self]) | (with_reducible refine hK _ ?_; clear hK K) | (with_reducible refine And.intro ?_ ?_) | (with_reducible intro hc; try simp only [reduceCtorEq] at hc) | omega)
    all_goals first
      | (exfalso; simp_all; done)
      | exact h1 _ (by assumption)
      | rfl
      | (rename_i q; rcases (show q = 0 ∨ q = 1 ∨ q = 2 by omega) with rfl | rfl | rfl <;> rfl)
      | (exact ⟨cellOk_at (id := 1) rfl rfl rfl fun i hi => VE.of_eq (if_pos hi), rfl⟩)
      | trace_state
  | false =>
    rw [hok] at hgood
    repeat' (first | (with_reducible first | refine then_normal ?_ | refine then_ret ?_ | refine then_exit ?_ | refine block_normal ?_ | refine block_ret ?_) | ((with_reducible show blockQ _ _ _ _); first | refine block_exit ?_ | refine block_exit_ne rfl ?_) | ((with_reducible show AWP _ _ _ _ _); first | (with_reducible first | refine AWP.seq ?_ | refine AWP.block ?_ | refine AWP.region ?_ | refine AWP.ret ?_ | refine AWP.exit ?_ | refine AWP.skip ?_) | refine AWP.drawn rfl (by kernel_rfl) ?_ | refine AWP.cond rfl ?_ ?_) | with_reducible refine ev_nil ?_ | ((first | ((with_reducible show evOps _ _ _ _ _ _); (first | refine ev_step rfl ?_ | refine ev_undef rfl rfl rfl ?_); intro K hK) | ((with_reducible show EvOpen _ _ _ _ _ _ _); refine ev_open ?_; intro K hK) | ((with_reducible show SkOpen _ _ _ _ _ _ _); refine sk_open ?_; intro K hK) | ((with_reducible show callK _ _ _ _ _ _ _ _); first  | (refine call_scalar (hgood) (Nat.le_of_ble_eq_true rfl) rfl ?_))); simp only [evOp, evQ, withS, opd, kput, putS, upd, lookup, argsK, loadOwn, bringIn, bring, Res.list, Res.slot, slotsOf, storeK, frz, storeV, setBlk, newBlk, boxV, allocK, buildK, partsK, V.one, Value.oneCell', List.set_cons_zero, List.set_cons_succ, Nat.zero_le, c_aut, z_aut, List.getElem?_cons_zero, List.getElem?_cons_succ, List.reverse_cons, List.reverse_nil, List.nil_append, List.cons_append, List.length_cons, List.length_nil, Nat.reduceEqDiff, Nat.reduceAdd, Nat.reduceLT, Nat.reduceLeDiff, Nat.zero_add, Nat.sub_zero, ↓reduceIte, eq_self, true_and, Bool.not_false]) | refine ev_guard rfl rfl rfl ?_ ?_ | ((with_reducible show retQ _ _ _ _); simp only [eq_self]) | (with_reducible refine hK _ ?_; clear hK K) | (with_reducible refine And.intro ?_ ?_) | (with_reducible intro hc; try simp only [Bool.true_eq_false] at hc) | omega)
    all_goals first
      | (exfalso; simp_all; done)
      | rfl
      | (rename_i q; rcases (show q = 0 ∨ q = 1 ∨ q = 2 by omega) with rfl | rfl | rfl <;> rfl)
      | (refine ⟨cellOk_at (id := 1) rfl rfl rfl fun i hi => ?_, rfl⟩
         rcases (show i = 0 ∨ i = 1 ∨ i = 2 by omega) with rfl | rfl | rfl <;> exact VE.of_eq rfl)
      | trace_state

set_option maxRecDepth 100000 in
theorem auIf_fn (a e : List Int) (s : List (List (List Int))) (ha : a.length ≤ 1099511627776) (he : e.length ≤ 1099511627776) (hs : s.length ≤ 1099511627776) (hm : ∀ i, i < s.length → lenM (matAt s i)) {F : Nat → V} (hF : Bare (.agg 3 F) (autV a e s)) (h1 : ∀ i, i < 3 → (F i).one = true) :
    Fn Try.prog 127 [.agg 3 F] (.many [.pv (.agg 3 (toldF (autB a e s) F)), .pv (vb (autB a e s))]) := by
  refine Fn.of_body_cell2 Try.call127 Try.func127 rfl Try.ntmps127 (t := 2) (ty := 37) (tb := 3) rfl c_aut (by simp) (fun N => ?_)
  have hgood := (auGood_fn a e s ha he hs hm).bare (vs' := [.agg 3 F]) ⟨hF, trivial⟩
  cases hok : autB a e s with
  | true =>
    rw [hok] at hgood
    repeat' (first | (with_reducible first | refine then_normal ?_ | refine then_ret ?_ | refine then_exit ?_ | refine block_normal ?_ | refine block_ret ?_) | ((with_reducible show blockQ _ _ _ _); first | refine block_exit ?_ | refine block_exit_ne rfl ?_) | ((with_reducible show AWP _ _ _ _ _); first | (with_reducible first | refine AWP.seq ?_ | refine AWP.block ?_ | refine AWP.region ?_ | refine AWP.ret ?_ | refine AWP.exit ?_ | refine AWP.skip ?_) | refine AWP.drawn rfl (by kernel_rfl) ?_ | refine AWP.cond rfl ?_ ?_) | with_reducible refine ev_nil ?_ | ((first | ((with_reducible show evOps _ _ _ _ _ _); (first | refine ev_step rfl ?_ | refine ev_undef rfl rfl rfl ?_); intro K hK) | ((with_reducible show EvOpen _ _ _ _ _ _ _); refine ev_open ?_; intro K hK) | ((with_reducible show SkOpen _ _ _ _ _ _ _); refine sk_open ?_; intro K hK) | ((with_reducible show callK _ _ _ _ _ _ _ _); first  | (refine call_scalar (hgood) (Nat.le_of_ble_eq_true rfl) rfl ?_))); simp only [evOp, evQ, withS, opd, kput, putS, upd, lookup, argsK, loadOwn, bringIn, bring, Res.list, Res.slot, slotsOf, storeK, frz, storeV, setBlk, newBlk, boxV, allocK, List.set_cons_zero, List.set_cons_succ, Nat.zero_le, c_aut, z_aut, List.getElem?_cons_zero, List.getElem?_cons_succ, List.reverse_cons, List.reverse_nil, List.nil_append, List.cons_append, List.length_cons, List.length_nil, Nat.reduceEqDiff, Nat.reduceAdd, Nat.reduceLT, Nat.reduceLeDiff, Nat.zero_add, Nat.sub_zero, ↓reduceIte, eq_self, true_and, Bool.not_true]) | refine ev_guard rfl rfl rfl ?_ ?_ | ((with_reducible show retQ _ _ _ _); simp only [eq_self]) | (with_reducible refine hK _ ?_; clear hK K) | (with_reducible refine And.intro ?_ ?_) | (with_reducible intro hc; try simp only [reduceCtorEq] at hc) | omega)
    all_goals first
      | (exfalso; simp_all; done)
      | exact h1 _ (by assumption)
      | rfl
      | (rename_i q; rcases (show q = 0 ∨ q = 1 ∨ q = 2 by omega) with rfl | rfl | rfl <;> rfl)
      | (exact ⟨cellOk_at (id := 1) rfl rfl rfl fun i hi => VE.of_eq (if_pos hi), rfl⟩)
      | trace_state
  | false =>
    rw [hok] at hgood
    repeat' (first | (with_reducible first | refine then_normal ?_ | refine then_ret ?_ | refine then_exit ?_ | refine block_normal ?_ | refine block_ret ?_) | ((with_reducible show blockQ _ _ _ _); first | refine block_exit ?_ | refine block_exit_ne rfl ?_) | ((with_reducible show AWP _ _ _ _ _); first | (with_reducible first | refine AWP.seq ?_ | refine AWP.block ?_ | refine AWP.region ?_ | refine AWP.ret ?_ | refine AWP.exit ?_ | refine AWP.skip ?_) | refine AWP.drawn rfl (by kernel_rfl) ?_ | refine AWP.cond rfl ?_ ?_) | with_reducible refine ev_nil ?_ | ((first | ((with_reducible show evOps _ _ _ _ _ _); (first | refine ev_step rfl ?_ | refine ev_undef rfl rfl rfl ?_); intro K hK) | ((with_reducible show EvOpen _ _ _ _ _ _ _); refine ev_open ?_; intro K hK) | ((with_reducible show SkOpen _ _ _ _ _ _ _); refine sk_open ?_; intro K hK) | ((with_reducible show callK _ _ _ _ _ _ _ _); first  | (refine call_scalar (hgood) (Nat.le_of_ble_eq_true rfl) rfl ?_))); simp only [evOp, evQ, withS, opd, kput, putS, upd, lookup, argsK, loadOwn, bringIn, bring, Res.list, Res.slot, slotsOf, storeK, frz, storeV, setBlk, newBlk, boxV, allocK, buildK, partsK, V.one, Value.oneCell', List.set_cons_zero, List.set_cons_succ, Nat.zero_le, c_aut, z_aut, List.getElem?_cons_zero, List.getElem?_cons_succ, List.reverse_cons, List.reverse_nil, List.nil_append, List.cons_append, List.length_cons, List.length_nil, Nat.reduceEqDiff, Nat.reduceAdd, Nat.reduceLT, Nat.reduceLeDiff, Nat.zero_add, Nat.sub_zero, ↓reduceIte, eq_self, true_and, Bool.not_false]) | refine ev_guard rfl rfl rfl ?_ ?_ | ((with_reducible show retQ _ _ _ _); simp only [eq_self]) | (with_reducible refine hK _ ?_; clear hK K) | (with_reducible refine And.intro ?_ ?_) | (with_reducible intro hc; try simp only [Bool.true_eq_false] at hc) | omega)
    all_goals first
      | (exfalso; simp_all; done)
      | rfl
      | (rename_i q; rcases (show q = 0 ∨ q = 1 ∨ q = 2 by omega) with rfl | rfl | rfl <;> rfl)
      | (refine ⟨cellOk_at (id := 1) rfl rfl rfl fun i hi => ?_, rfl⟩
         rcases (show i = 0 ∨ i = 1 ∨ i = 2 by omega) with rfl | rfl | rfl <;> exact VE.of_eq rfl)
      | trace_state

def twoB (a e : List Int) (s : List (List (List Int))) (a' e' : List Int) (s' : List (List (List Int))) : Bool := autB a e s && autB a' e' s' && ((s.length : Int) == (s'.length : Int))
theorem twoAutomata_fn (a e : List Int) (s : List (List (List Int))) (a' e' : List Int) (s' : List (List (List Int))) (l : a.length ≤ 1099511627776 ∧ e.length ≤ 1099511627776 ∧ s.length ≤ 1099511627776 ∧ ∀ i, i < s.length → lenM (matAt s i)) (l' : a'.length ≤ 1099511627776 ∧ e'.length ≤ 1099511627776 ∧ s'.length ≤ 1099511627776 ∧ ∀ i, i < s'.length → lenM (matAt s' i)) :
    Fn Try.prog 122 [autV a e s, autV a' e' s'] (.one (.pv (vb (twoB a e s a' e' s')))) := by
  refine Fn.of_body Try.call122 Try.func122 rfl Try.ntmps122 (ts := [4]) rfl (by simp) rfl (fun N => ?_)
  repeat' (first | (with_reducible first | refine then_normal ?_ | refine then_ret ?_ | refine then_exit ?_ | refine block_normal ?_ | refine block_ret ?_) | ((with_reducible show blockQ _ _ _ _); first | refine block_exit ?_ | refine block_exit_ne rfl ?_) | ((with_reducible show AWP _ _ _ _ _); first | (with_reducible first | refine AWP.seq ?_ | refine AWP.block ?_ | refine AWP.region ?_ | refine AWP.ret ?_ | refine AWP.exit ?_ | refine AWP.skip ?_) | refine AWP.drawn rfl (by kernel_rfl) ?_ | refine AWP.cond rfl ?_ ?_) | with_reducible refine ev_nil ?_ | ((first | ((with_reducible show evOps _ _ _ _ _ _); (first | refine ev_step rfl ?_ | refine ev_undef rfl rfl rfl ?_); intro K hK) | ((with_reducible show EvOpen _ _ _ _ _ _ _); refine ev_open ?_; intro K hK) | ((with_reducible show SkOpen _ _ _ _ _ _ _); refine sk_open ?_; intro K hK) | ((with_reducible show callK _ _ _ _ _ _ _ _); first  | (refine call_scalar (isAutomaton_fn a e s l.1 l.2.1 l.2.2.1 l.2.2.2) (Nat.le_of_ble_eq_true rfl) rfl ?_) | (refine call_scalar (isAutomaton_fn a' e' s' l'.1 l'.2.1 l'.2.2.1 l'.2.2.2) (Nat.le_of_ble_eq_true rfl) rfl ?_))); simp only [evOp, evQ, evB, binK, withS, opd, kput, putS, upd, lookup, skipOp, argsK, loadOwn, bringIn, bring, Res.list, Res.slot, slotsOf, frz, newBlk, boxV, sz_mats, c_mats, c_aut, fa2, autF_2, List.getElem?_cons_zero, List.getElem?_cons_succ, List.reverse_cons, List.reverse_nil, List.nil_append, List.cons_append, List.length_cons, List.length_nil, Nat.reduceEqDiff, Nat.reduceLT, Nat.reduceLeDiff, Nat.zero_add, ↓reduceIte, eq_self, true_and, and_true, Bool.not_true, Bool.true_eq_false, Bool.false_eq_true, false_implies, forall_const, Option.isSome_some]) | refine ev_guard rfl rfl rfl ?_ ?_ | ((with_reducible show retQ _ _ _ _); simp only [retQ, retOk, getL, lookup, Option.map_some, fitsL, fits, ND, srcs, Res.list, VE, Value.bool.injEq, Nat.reduceEqDiff, ↓reduceIte, and_true]) | (with_reducible refine hK _ ?_; clear hK K) | (with_reducible refine And.intro ?_ ?_) | (with_reducible intro hc; try simp only [Bool.not_true, reduceCtorEq, Bool.true_eq_false] at hc) | omega)
  all_goals first
    | (exfalso; omega)
    | (unfold twoB; simp_all; done)
    | (rename_i q; rcases (show q = 0 ∨ q = 1 ∨ q = 2 by omega) with rfl | rfl | rfl <;> rfl)
    | trace_state

open Go.RowKit Go.Proofs
set_option linter.unusedSimpArgs false
set_option linter.unusedVariables false

def pairsL (u v : List Int) : List Int := (List.range (u.length * v.length)).map fun q => plusI (u.getD (q / v.length) 0) (v.getD (q % v.length) 0)
theorem pairsL_len (u v : List Int) : (pairsL u v).length = u.length * v.length := by simp [pairsL]
theorem pair_lt {i j n k : Nat} (hi : i < k) (hj : j < n) : i * n + j < k * n := by
  have : (i + 1) * n ≤ k * n := Nat.mul_le_mul_right _ hi
  rw [Nat.succ_mul] at this; omega
theorem pair_div {i j n : Nat} (hj : j < n) : (i * n + j) / n = i ∧ (i * n + j) % n = j := by
  rw [Nat.add_comm, Nat.mul_comm]
  exact ⟨by rw [Nat.add_mul_div_left _ _ (by omega), Nat.div_eq_of_lt hj, Nat.zero_add], by rw [Nat.add_mul_mod_self_left, Nat.mod_eq_of_lt hj]⟩
theorem pairsL_get {u v : List Int} {i j : Nat} (hi : i < u.length) (hj : j < v.length) : (pairsL u v).getD (i * v.length + j) 0 = plusI (u.getD i 0) (v.getD j 0) := by
  have h := pair_lt hi hj
  obtain ⟨h1, h2⟩ := pair_div (i := i) hj
  have e : (pairsL u v).getD (i * v.length + j) 0 = plusI (u.getD ((i * v.length + j) / v.length) 0) (v.getD ((i * v.length + j) % v.length) 0) := by
    unfold pairsL
    rw [List.getD, List.getElem?_map, List.getElem?_range h]; rfl
  rw [e, h1, h2]
theorem plusI_comm (a b : Int) : plusI a b = plusI b a := by unfold plusI; by_cases h : a = 1000000000 <;> by_cases h2 : b = 1000000000 <;> simp [h, h2, Int.add_comm]
/-- Numbers that can be added. -/
def sumsOk (l : List Int) : Prop := ∀ i, -1000000 ≤ l.getD i 0 ∧ l.getD i 0 ≤ 1000000000

theorem nuPlus_fn' (a b : Int) (ha : -1000000 ≤ a ∧ a ≤ 1000000000) (hb : -1000000 ≤ b ∧ b ≤ 1000000000) : Fn Try.prog 109 [vi a, vi b] (.one (.pv (vi (plusI a b)))) := by
  refine Fn.of_body Try.call109 Try.func109 rfl Try.ntmps109 (ts := [4]) rfl (by simp) rfl (fun N => ?_)
  repeat' (first | (with_reducible first | refine then_normal ?_ | refine then_ret ?_ | refine then_exit ?_ | refine block_normal ?_ | refine block_ret ?_) | ((with_reducible show blockQ _ _ _ _); first | refine block_exit ?_ | refine block_exit_ne rfl ?_) | ((with_reducible show AWP _ _ _ _ _); first | (with_reducible first | refine AWP.seq ?_ | refine AWP.block ?_ | refine AWP.region ?_ | refine AWP.ret ?_ | refine AWP.exit ?_ | refine AWP.skip ?_) | refine AWP.drawn rfl (by kernel_rfl) ?_ | refine AWP.cond rfl ?_ ?_) | with_reducible refine ev_nil ?_ | ((first | ((with_reducible show evOps _ _ _ _ _ _); (first | refine ev_step rfl ?_ | refine ev_undef rfl rfl rfl ?_); intro K hK) | ((with_reducible show EvOpen _ _ _ _ _ _ _); refine ev_open ?_; intro K hK) | ((with_reducible show SkOpen _ _ _ _ _ _ _); refine sk_open ?_; intro K hK) | ((with_reducible show callK _ _ _ _ _ _ _ _); first | fail)); simp only [evOp, evQ, binK, withS, opd, kput, putS, upd, lookup, skipOp, slotsOf, InK_i64, Nat.reduceEqDiff, Nat.reduceLT, Nat.zero_add, ↓reduceIte, eq_self, true_and, and_true, Bool.not_false, Bool.true_eq_false, Bool.false_eq_true, false_implies, forall_const]) | refine ev_guard rfl rfl rfl ?_ ?_ | ((with_reducible show retQ _ _ _ _); simp only [retQ, retOk, getL, lookup, Option.map_some, fitsL, fits, ND, srcs, Res.list, VE, Value.int.injEq, Nat.reduceEqDiff, ↓reduceIte, and_true, true_and]) | (with_reducible refine hK _ ?_; clear hK K) | (with_reducible refine And.intro ?_ ?_) | (with_reducible intro hc; try simp only [beq_iff_eq, beq_eq_false_iff_ne, Bool.not_false, ne_eq, reduceCtorEq, Bool.true_eq_false] at hc) | omega)
  all_goals first | (rw [plusI_a ‹_›]; done) | (rw [plusI_b ‹_›]; done) | (rw [plusI_ab ‹_› ‹_›]; done) | trace_state
theorem product_fn' (a b : Int) (ha : -1000000 ≤ a ∧ a ≤ 1000000000) (hb : -1000000 ≤ b ∧ b ≤ 1000000000) : Fn Try.prog 106 [vi a, vi b] (.one (.pv (vi (plusI a b)))) := by
  refine Fn.of_body Try.call106 Try.func106 rfl Try.ntmps106 (ts := [4]) rfl (by simp) rfl (fun N => ?_)
  repeat' (first | (with_reducible first | refine then_normal ?_ | refine then_ret ?_ | refine then_exit ?_ | refine block_normal ?_ | refine block_ret ?_) | ((with_reducible show blockQ _ _ _ _); first | refine block_exit ?_ | refine block_exit_ne rfl ?_) | ((with_reducible show AWP _ _ _ _ _); first | (with_reducible first | refine AWP.seq ?_ | refine AWP.block ?_ | refine AWP.region ?_ | refine AWP.ret ?_ | refine AWP.exit ?_ | refine AWP.skip ?_) | refine AWP.drawn rfl (by kernel_rfl) ?_ | refine AWP.cond rfl ?_ ?_) | with_reducible refine ev_nil ?_ | ((first | ((with_reducible show evOps _ _ _ _ _ _); (first | refine ev_step rfl ?_ | refine ev_undef rfl rfl rfl ?_); intro K hK) | ((with_reducible show EvOpen _ _ _ _ _ _ _); refine ev_open ?_; intro K hK) | ((with_reducible show SkOpen _ _ _ _ _ _ _); refine sk_open ?_; intro K hK) | ((with_reducible show callK _ _ _ _ _ _ _ _); first | fail)); simp only [evOp, evQ, binK, withS, opd, kput, putS, upd, lookup, skipOp, slotsOf, InK_i64, Nat.reduceEqDiff, Nat.reduceLT, Nat.zero_add, ↓reduceIte, eq_self, true_and, and_true, Bool.not_false, Bool.true_eq_false, Bool.false_eq_true, false_implies, forall_const]) | refine ev_guard rfl rfl rfl ?_ ?_ | ((with_reducible show retQ _ _ _ _); simp only [retQ, retOk, getL, lookup, Option.map_some, fitsL, fits, ND, srcs, Res.list, VE, Value.int.injEq, Nat.reduceEqDiff, ↓reduceIte, and_true, true_and]) | (with_reducible refine hK _ ?_; clear hK K) | (with_reducible refine And.intro ?_ ?_) | (with_reducible intro hc; try simp only [beq_iff_eq, beq_eq_false_iff_ne, Bool.not_false, ne_eq, reduceCtorEq, Bool.true_eq_false] at hc) | omega)
  all_goals first | (rw [plusI_a ‹_›]; done) | (rw [plusI_b ‹_›]; done) | (rw [plusI_ab ‹_› ‹_›]; done) | trace_state

theorem shifted_fn (v : List Int) (b : Int) (hl : v.length ≤ 1000000) (hv : sumsOk v) (hb : -1000000 ≤ b ∧ b ≤ 1000000000) :
    Fn Try.prog 204 [ints v, vi b] (.one (.fr 1 v.length ⟨3, v.length, fun j => vi (plusI (v.getD j 0) b)⟩)) := by
  refine Fn.of_body Try.call204 Try.func204 rfl Try.ntmps204 (ts := [4]) rfl (by simp) rfl (fun N => ?_)
  repeat' (first | (with_reducible first | refine then_normal ?_ | refine then_ret ?_ | refine then_exit ?_ | refine block_normal ?_ | refine block_ret ?_) | ((with_reducible show blockQ _ _ _ _); first | refine block_exit ?_ | refine block_exit_ne rfl ?_) | ((with_reducible show AWP _ _ _ _ _); first | (with_reducible first | refine AWP.seq ?_ | refine AWP.block ?_ | refine AWP.region ?_ | refine AWP.ret ?_ | refine AWP.exit ?_ | refine AWP.skip ?_) | refine AWP.drawn rfl (by kernel_rfl) ?_ | refine AWP.cond rfl ?_ ?_) | with_reducible refine ev_nil ?_ | ((first | ((with_reducible show evOps _ _ _ _ _ _); (first | refine ev_step rfl ?_ | refine ev_undef rfl rfl rfl ?_); intro K hK) | ((with_reducible show EvOpen _ _ _ _ _ _ _); refine ev_open ?_; intro K hK) | ((with_reducible show SkOpen _ _ _ _ _ _ _); refine sk_open ?_; intro K hK) | ((with_reducible show callK _ _ _ _ _ _ _ _); first | fail)); simp only [evOp, evQ, evB, withS, opd, kput, putS, upd, lookup, slotsOf, makeK, newBlk, sz_ints, ei_ints, List.nil_append, List.length_cons, List.length_nil, Nat.reduceEqDiff, Nat.reduceLT, Nat.mul_one, Nat.zero_add, Nat.mod_one, List.getD_cons_zero, ↓reduceIte, eq_self, true_and, Int.toNat_zero, Option.isSome_some]) | refine ev_guard rfl rfl rfl ?_ ?_ | ((with_reducible show retQ _ _ _ _); simp only [eq_self]) | (with_reducible refine hK _ ?_; clear hK K) | (with_reducible refine And.intro ?_ ?_) | (with_reducible intro hc; try simp only [eq_self] at hc) | omega)
  all_goals try (exfalso; omega; done)
  all_goals try (omega; done)
  refine AWP.loop_entR [0] (fun j : Nat => ⟨[(1, sc (.int .i64 b)), (5, .one (.own 0 1 0 j)), (11, .one (.pv (ints v))), (12, sc (.int .i64 v.length)), (13, sc (.int .i64 j))], [some ⟨3, j, fun i => vi (plusI (v.getD i 0) b)⟩], 25⟩)
    (fun j => j ≤ v.length) (fun j => v.length - j) 0 (by omega) (by simp [EntR, EntSR, EntHR, SlR, VE, VE.rfl', lookup, BE, upd, sc]) ?_
  intro j hj
  by_cases hjv : j < v.length
  · repeat' (first | (with_reducible first | refine then_normal ?_ | refine then_ret ?_ | refine then_exit ?_ | refine block_normal ?_ | refine block_ret ?_) | ((with_reducible show blockQ _ _ _ _); first | refine block_exit ?_ | refine block_exit_ne rfl ?_) | ((with_reducible show AWP _ _ _ _ _); first | (with_reducible first | refine AWP.seq ?_ | refine AWP.block ?_ | refine AWP.region ?_ | refine AWP.ret ?_ | refine AWP.exit ?_ | refine AWP.skip ?_) | refine AWP.drawn rfl (by kernel_rfl) ?_ | refine AWP.cond rfl ?_ ?_) | with_reducible refine ev_nil ?_ | ((first | ((with_reducible show evOps _ _ _ _ _ _); (first | refine ev_step rfl ?_ | refine ev_undef rfl rfl rfl ?_); intro K hK) | ((with_reducible show EvOpen _ _ _ _ _ _ _); refine ev_open ?_; intro K hK) | ((with_reducible show SkOpen _ _ _ _ _ _ _); refine sk_open ?_; intro K hK) | ((with_reducible show callK _ _ _ _ _ _ _ _); first  | (refine call_scalar (product_fn' _ _ (hv j) hb) (Nat.le_of_ble_eq_true rfl) rfl ?_))); simp only [evOp, evQ, binK, withS, opd, kput, putS, upd, lookup, argsK, bringIn, bring, Res.list, Res.slot, InK_i64, appendK, srcK, growK, frz, newBlk, partsK, buildSliceK, plSlice, V.one, Value.oneCell', List.set_cons_zero, sz_ints, c_int, ei_ints, ea_ints, List.getElem?_cons_zero, List.getElem?_cons_succ, List.reverse_cons, List.reverse_nil, List.nil_append, List.cons_append, List.length_cons, List.length_nil, Nat.reduceEqDiff, Nat.reduceAdd, Nat.reduceLT, Nat.reduceLeDiff, Nat.mul_one, Nat.add_zero, Nat.zero_add, Nat.mod_one, List.getD_cons_zero, ↓reduceIte, eq_self, true_and, Bool.false_eq_true, forall_const, implies_true, Int.toNat_natCast]) | refine ev_guard rfl rfl rfl ?_ ?_ | ((with_reducible show retQ _ _ _ _); simp only [retQ, retOk, getL, lookup, Option.map_some, fitsL, fits, ND, srcs, Res.list, List.getElem?_cons_zero, Nat.reduceEqDiff, ↓reduceIte, and_true, true_and]) | (with_reducible refine hK _ ?_; clear hK K) | (with_reducible refine And.intro ?_ ?_) | (with_reducible intro hc; try simp only [decide_eq_true_eq, decide_eq_false_iff_not, Int.not_lt] at hc) | omega)
    all_goals first
      | (exfalso; omega)
      | (rename_i q; obtain rfl : q = 0 := (by omega); rfl)
      | (exact ⟨j + 1, by omega, by omega, [2], rfl, by decide, by simp [EntSR, SlR, VE, VE.rfl', lookup, sc], grow_be (VE.of_eq (by simp)), trivial⟩)
      | trace_state
  · obtain rfl : j = v.length := by omega
    repeat' (first | (with_reducible first | refine then_normal ?_ | refine then_ret ?_ | refine then_exit ?_ | refine block_normal ?_ | refine block_ret ?_) | ((with_reducible show blockQ _ _ _ _); first | refine block_exit ?_ | refine block_exit_ne rfl ?_) | ((with_reducible show AWP _ _ _ _ _); first | (with_reducible first | refine AWP.seq ?_ | refine AWP.block ?_ | refine AWP.region ?_ | refine AWP.ret ?_ | refine AWP.exit ?_ | refine AWP.skip ?_) | refine AWP.drawn rfl (by kernel_rfl) ?_ | refine AWP.cond rfl ?_ ?_) | with_reducible refine ev_nil ?_ | ((first | ((with_reducible show evOps _ _ _ _ _ _); (first | refine ev_step rfl ?_ | refine ev_undef rfl rfl rfl ?_); intro K hK) | ((with_reducible show EvOpen _ _ _ _ _ _ _); refine ev_open ?_; intro K hK) | ((with_reducible show SkOpen _ _ _ _ _ _ _); refine sk_open ?_; intro K hK) | ((with_reducible show callK _ _ _ _ _ _ _ _); first | fail)); simp only [evOp, evQ, binK, withS, opd, kput, putS, upd, lookup, argsK, sz_ints, c_int, List.reverse_cons, List.reverse_nil, List.nil_append, List.cons_append, Nat.reduceEqDiff, Nat.reduceLT, Nat.mul_one, Nat.add_zero, ↓reduceIte, eq_self, true_and, Int.toNat_natCast]) | refine ev_guard rfl rfl rfl ?_ ?_ | ((with_reducible show retQ _ _ _ _); simp only [retQ, retOk, getL, lookup, Option.map_some, fitsL, fits, ND, srcs, Res.list, List.getElem?_cons_zero, Nat.reduceEqDiff, ↓reduceIte, and_true, true_and]) | (with_reducible refine hK _ ?_; clear hK K) | (with_reducible refine And.intro ?_ ?_) | (with_reducible intro hc; try simp only [decide_eq_true_eq, decide_eq_false_iff_not, Int.not_lt] at hc) | omega)
    all_goals first
      | (exfalso; omega)
      | (exact ⟨_, rfl, BE.rfl' _⟩)
      | (simp; done)
      | trace_state

theorem sums_fn (u v : List Int) (h1 : u.length ≤ 1000) (h2 : v.length ≤ 1000) (hu : sumsOk u) (hv : sumsOk v) :
    Fn Try.prog 128 [ints u, ints v] (.one (.fr 1 (pairsL u v).length (bints (pairsL u v)))) := by
  have hle : u.length * v.length ≤ 1000 * 1000 := Nat.mul_le_mul h1 h2
  refine Fn.of_body Try.call128 Try.func128 rfl Try.ntmps128 (ts := [4]) rfl (by simp) rfl (fun N => ?_)
  repeat' (first | (with_reducible first | refine then_normal ?_ | refine then_ret ?_ | refine then_exit ?_ | refine block_normal ?_ | refine block_ret ?_) | ((with_reducible show blockQ _ _ _ _); first | refine block_exit ?_ | refine block_exit_ne rfl ?_) | ((with_reducible show AWP _ _ _ _ _); first | (with_reducible first | refine AWP.seq ?_ | refine AWP.block ?_ | refine AWP.region ?_ | refine AWP.ret ?_ | refine AWP.exit ?_ | refine AWP.skip ?_) | refine AWP.drawn rfl (by kernel_rfl) ?_ | refine AWP.cond rfl ?_ ?_) | with_reducible refine ev_nil ?_ | ((first | ((with_reducible show evOps _ _ _ _ _ _); (first | refine ev_step rfl ?_ | refine ev_undef rfl rfl rfl ?_); intro K hK) | ((with_reducible show EvOpen _ _ _ _ _ _ _); refine ev_open ?_; intro K hK) | ((with_reducible show SkOpen _ _ _ _ _ _ _); refine sk_open ?_; intro K hK) | ((with_reducible show callK _ _ _ _ _ _ _ _); first | fail)); simp only [evOp, evQ, evB, withS, opd, kput, putS, upd, lookup, slotsOf, newBlk, partsK, buildSliceK, sz_ints, ei_ints, ea_ints, Nat.zero_le, List.nil_append, List.length_cons, List.length_nil, Nat.reduceEqDiff, Nat.reduceLT, Nat.reduceLeDiff, Nat.mul_one, Nat.zero_add, Nat.mod_one, List.getD_cons_zero, ↓reduceIte, eq_self, true_and, Option.isSome_some]) | refine ev_guard rfl rfl rfl ?_ ?_ | ((with_reducible show retQ _ _ _ _); simp only [eq_self]) | (with_reducible refine hK _ ?_; clear hK K) | (with_reducible refine And.intro ?_ ?_) | (with_reducible intro hc; try simp only [eq_self] at hc) | omega)
  all_goals try (exfalso; omega; done)
  refine AWP.loop_entR [0] (fun i : Nat => ⟨[(1, .one (.pv (ints v))), (5, .one (.own 0 1 0 (i * v.length))), (9, .one (.pv (ints u))), (10, sc (.int .i64 u.length)), (11, sc (.int .i64 i))], [some ⟨3, i * v.length, fun q => vi ((pairsL u v).getD q 0)⟩], 22⟩)
    (fun i => i ≤ u.length) (fun i => u.length - i) 0 (by omega) (by simp [EntR, EntSR, EntHR, SlR, VE, VE.rfl', lookup, BE, upd, sc]) ?_
  intro i hi
  by_cases hiu : i < u.length
  · have hmul : (i + 1) * v.length ≤ u.length * v.length := Nat.mul_le_mul_right _ hiu
    rw [Nat.succ_mul] at hmul
    repeat' (first | (with_reducible first | refine then_normal ?_ | refine then_ret ?_ | refine then_exit ?_ | refine block_normal ?_ | refine block_ret ?_) | ((with_reducible show blockQ _ _ _ _); first | refine block_exit ?_ | refine block_exit_ne rfl ?_) | ((with_reducible show AWP _ _ _ _ _); first | (with_reducible first | refine AWP.seq ?_ | refine AWP.block ?_ | refine AWP.region ?_ | refine AWP.ret ?_ | refine AWP.exit ?_ | refine AWP.skip ?_) | refine AWP.drawn rfl (by kernel_rfl) ?_ | refine AWP.cond rfl ?_ ?_) | with_reducible refine ev_nil ?_ | ((first | ((with_reducible show evOps _ _ _ _ _ _); (first | refine ev_step rfl ?_ | refine ev_undef rfl rfl rfl ?_); intro K hK) | ((with_reducible show EvOpen _ _ _ _ _ _ _); refine ev_open ?_; intro K hK) | ((with_reducible show SkOpen _ _ _ _ _ _ _); refine sk_open ?_; intro K hK) | ((with_reducible show callK _ _ _ _ _ _ _ _); first  | (refine call_safe ( shifted_fn v (u.getD i 0) (by omega) hv (hu i)) (Nat.le_of_ble_eq_true rfl) (by repeat' (first | exact trivial | refine ⟨fun _ _ => ⟨_, rfl⟩, ?_⟩)) ?_))); simp only [evOp, evQ, binK, withS, opd, kput, putS, upd, lookup, argsK, bringIn, bring, Res.list, Res.slot, InK_i64, appendK, srcK, growK, V.one, Value.oneCell', List.set_cons_zero, sz_ints, c_int, ei_ints, List.getElem?_cons_zero, List.getElem?_cons_succ, List.reverse_cons, List.reverse_nil, List.nil_append, List.cons_append, List.length_cons, List.length_nil, Nat.reduceEqDiff, Nat.reduceAdd, Nat.reduceLT, Nat.mul_one, Nat.add_zero, Nat.zero_add, ↓reduceIte, eq_self, true_and, forall_const, implies_true, Int.toNat_natCast]) | refine ev_guard rfl rfl rfl ?_ ?_ | ((with_reducible show retQ _ _ _ _); simp only [retQ, retOk, getL, lookup, Option.map_some, fitsL, fits, ND, srcs, Res.list, List.getElem?_cons_zero, Nat.reduceEqDiff, ↓reduceIte, and_true, true_and]) | (with_reducible refine hK _ ?_; clear hK K) | (with_reducible refine And.intro ?_ ?_) | (with_reducible intro hc; try simp only [decide_eq_true_eq, decide_eq_false_iff_not, Int.not_lt] at hc) | omega)
    all_goals first
      | (exfalso; omega)
      | omega
      | rfl
      | (refine ⟨i + 1, by omega, by omega, [2], rfl, by decide, by simp [EntSR, SlR, VE, VE.rfl', lookup, sc, Nat.succ_mul], ⟨rfl, by show (i + 1) * v.length ≤ _; rw [Nat.succ_mul]; simp, fun q hq => VE.of_eq ?_⟩, trivial⟩
         have hq : q < (i + 1) * v.length := hq
         rw [Nat.succ_mul] at hq
         show (if q < i * v.length then vi ((pairsL u v).getD q 0) else vi (plusI (v.getD (q - i * v.length) 0) (u.getD i 0))) = vi ((pairsL u v).getD q 0)
         by_cases h : q < i * v.length
         · rw [if_pos h]
         · obtain ⟨j, rfl⟩ : ∃ j, q = i * v.length + j := ⟨q - i * v.length, by omega⟩
           rw [if_neg h, pairsL_get hiu (by omega), Nat.add_sub_cancel_left, plusI_comm])
      | trace_state
  · obtain rfl : i = u.length := by omega
    repeat' (first | (with_reducible first | refine then_normal ?_ | refine then_ret ?_ | refine then_exit ?_ | refine block_normal ?_ | refine block_ret ?_) | ((with_reducible show blockQ _ _ _ _); first | refine block_exit ?_ | refine block_exit_ne rfl ?_) | ((with_reducible show AWP _ _ _ _ _); first | (with_reducible first | refine AWP.seq ?_ | refine AWP.block ?_ | refine AWP.region ?_ | refine AWP.ret ?_ | refine AWP.exit ?_ | refine AWP.skip ?_) | refine AWP.drawn rfl (by kernel_rfl) ?_ | refine AWP.cond rfl ?_ ?_) | with_reducible refine ev_nil ?_ | ((first | ((with_reducible show evOps _ _ _ _ _ _); (first | refine ev_step rfl ?_ | refine ev_undef rfl rfl rfl ?_); intro K hK) | ((with_reducible show EvOpen _ _ _ _ _ _ _); refine ev_open ?_; intro K hK) | ((with_reducible show SkOpen _ _ _ _ _ _ _); refine sk_open ?_; intro K hK) | ((with_reducible show callK _ _ _ _ _ _ _ _); first | fail)); simp only [evOp, evQ, binK, withS, opd, kput, putS, upd, lookup, argsK, sz_ints, c_int, List.reverse_cons, List.reverse_nil, List.nil_append, List.cons_append, Nat.reduceEqDiff, Nat.reduceLT, Nat.mul_one, Nat.add_zero, ↓reduceIte, eq_self, true_and, Int.toNat_natCast]) | refine ev_guard rfl rfl rfl ?_ ?_ | ((with_reducible show retQ _ _ _ _); simp only [retQ, retOk, getL, lookup, Option.map_some, fitsL, fits, ND, srcs, Res.list, List.getElem?_cons_zero, Nat.reduceEqDiff, ↓reduceIte, and_true, true_and]) | (with_reducible refine hK _ ?_; clear hK K) | (with_reducible refine And.intro ?_ ?_) | (with_reducible intro hc; try simp only [decide_eq_true_eq, decide_eq_false_iff_not, Int.not_lt] at hc) | omega)
    all_goals first
      | (exfalso; omega)
      | (rw [pairsL_len])
      | (exact ⟨_, rfl, rfl, by simp [bints, pairsL_len], fun q _ => VE.rfl' _⟩)
      | (simp; done)
      | trace_state

set_option maxRecDepth 100000 in
theorem auPairs_fn (u v : List Int) (h1 : u.length ≤ 1000) (h2 : v.length ≤ 1000) (hu : sumsOk u) (hv : sumsOk v) :
    Fn Try.prog 129 [ints u, ints v] (.one (.fr 1 (pairsL u v).length (bints (pairsL u v)))) := by
  have hle : u.length * v.length ≤ 1000 * 1000 := Nat.mul_le_mul h1 h2
  refine Fn.of_body Try.call129 Try.func129 rfl Try.ntmps129 (ts := [4]) rfl (by simp) rfl (fun N => ?_)
  repeat' (first | (with_reducible first | refine then_normal ?_ | refine then_ret ?_ | refine then_exit ?_ | refine block_normal ?_ | refine block_ret ?_) | ((with_reducible show blockQ _ _ _ _); first | refine block_exit ?_ | refine block_exit_ne rfl ?_) | ((with_reducible show AWP _ _ _ _ _); first | (with_reducible first | refine AWP.seq ?_ | refine AWP.block ?_ | refine AWP.region ?_ | refine AWP.ret ?_ | refine AWP.exit ?_ | refine AWP.skip ?_) | refine AWP.drawn rfl (by kernel_rfl) ?_ | refine AWP.cond rfl ?_ ?_) | with_reducible refine ev_nil ?_ | ((first | ((with_reducible show evOps _ _ _ _ _ _); (first | refine ev_step rfl ?_ | refine ev_undef rfl rfl rfl ?_); intro K hK) | ((with_reducible show EvOpen _ _ _ _ _ _ _); refine ev_open ?_; intro K hK) | ((with_reducible show SkOpen _ _ _ _ _ _ _); refine sk_open ?_; intro K hK) | ((with_reducible show callK _ _ _ _ _ _ _ _); first | fail)); simp only [evOp, evQ, evB, withS, opd, kput, putS, upd, lookup, slotsOf, sz_ints, Nat.reduceEqDiff, Nat.reduceLT, Nat.zero_add, ↓reduceIte, eq_self, true_and, Option.isSome_some]) | refine ev_guard rfl rfl rfl ?_ ?_ | ((with_reducible show retQ _ _ _ _); simp only [eq_self]) | (with_reducible refine hK _ ?_; clear hK K) | (with_reducible refine And.intro ?_ ?_) | (with_reducible intro hc; try simp only [eq_self] at hc) | omega)
  all_goals try (exfalso; omega; done)
  refine AWP.virtual 5 3 1 rfl ?_
  refine AWP.loop_entR [0] (fun i : Nat => ⟨[(1, .one (.pv (ints v))), (5, .one (.own 0 1 0 (i * v.length))), (10, .one (.pv (ints u))), (11, sc (.int .i64 u.length)), (12, sc (.int .i64 i))], [some ⟨3, i * v.length, fun q => vi ((pairsL u v).getD q 0)⟩], 31⟩)
    (fun i => i ≤ u.length) (fun i => u.length - i) 0 (by omega) (by simp [EntR, EntSR, EntHR, SlR, VE, VE.rfl', lookup, BE, upd, sc]) ?_
  intro i hi
  by_cases hiu : i < u.length
  · have hmul : (i + 1) * v.length ≤ u.length * v.length := Nat.mul_le_mul_right _ hiu
    rw [Nat.succ_mul] at hmul
    repeat' (first | (with_reducible first | refine then_normal ?_ | refine then_ret ?_ | refine then_exit ?_ | refine block_normal ?_ | refine block_ret ?_) | ((with_reducible show blockQ _ _ _ _); first | refine block_exit ?_ | refine block_exit_ne rfl ?_) | ((with_reducible show AWP _ _ _ _ _); first | (with_reducible first | refine AWP.seq ?_ | refine AWP.block ?_ | refine AWP.region ?_ | refine AWP.ret ?_ | refine AWP.exit ?_ | refine AWP.skip ?_) | refine AWP.drawn rfl (by kernel_rfl) ?_ | refine AWP.cond rfl ?_ ?_) | with_reducible refine ev_nil ?_ | ((first | ((with_reducible show evOps _ _ _ _ _ _); (first | refine ev_step rfl ?_ | refine ev_undef rfl rfl rfl ?_); intro K hK) | ((with_reducible show EvOpen _ _ _ _ _ _ _); refine ev_open ?_; intro K hK) | ((with_reducible show SkOpen _ _ _ _ _ _ _); refine sk_open ?_; intro K hK) | ((with_reducible show callK _ _ _ _ _ _ _ _); first | fail)); simp only [evOp, evQ, evB, binK, withS, opd, kput, putS, upd, lookup, sz_ints, c_int, Nat.reduceEqDiff, Nat.reduceLT, Nat.mul_one, Nat.add_zero, ↓reduceIte, eq_self, true_and, Int.toNat_natCast, Option.isSome_some]) | refine ev_guard rfl rfl rfl ?_ ?_ | ((with_reducible show retQ _ _ _ _); simp only [retQ, retOk, getL, lookup, Option.map_some, fitsL, fits, ND, srcs, Res.list, List.getElem?_cons_zero, Nat.reduceEqDiff, ↓reduceIte, and_true, true_and]) | (with_reducible refine hK _ ?_; clear hK K) | (with_reducible refine And.intro ?_ ?_) | (with_reducible intro hc; try simp only [decide_eq_true_eq, decide_eq_false_iff_not, Int.not_lt] at hc) | omega)
    all_goals try (exfalso; omega; done)
    refine AWP.loop_entR [0] (fun j : Nat => ⟨[(1, .one (.pv (ints v))), (5, .one (.own 0 1 0 (i * v.length + j))), (7, sc (.int .i64 (u.getD i 0))), (10, .one (.pv (ints u))), (11, sc (.int .i64 u.length)), (12, sc (.int .i64 i)), (16, .one (.pv (ints v))), (17, sc (.int .i64 v.length)), (18, sc (.int .i64 j))], [some ⟨3, i * v.length + j, fun q => vi ((pairsL u v).getD q 0)⟩], 31⟩)
      (fun j => j ≤ v.length) (fun j => v.length - j) 0 (by omega) (by simp [EntR, EntSR, EntHR, SlR, VE, VE.rfl', lookup, BE, upd, sc]) ?_
    intro j hj
    by_cases hjv : j < v.length
    · repeat' (first | (with_reducible first | refine then_normal ?_ | refine then_ret ?_ | refine then_exit ?_ | refine block_normal ?_ | refine block_ret ?_) | ((with_reducible show blockQ _ _ _ _); first | refine block_exit ?_ | refine block_exit_ne rfl ?_) | ((with_reducible show AWP _ _ _ _ _); first | (with_reducible first | refine AWP.seq ?_ | refine AWP.block ?_ | refine AWP.region ?_ | refine AWP.ret ?_ | refine AWP.exit ?_ | refine AWP.skip ?_) | refine AWP.drawn rfl (by kernel_rfl) ?_ | refine AWP.cond rfl ?_ ?_) | with_reducible refine ev_nil ?_ | ((first | ((with_reducible show evOps _ _ _ _ _ _); (first | refine ev_step rfl ?_ | refine ev_undef rfl rfl rfl ?_); intro K hK) | ((with_reducible show EvOpen _ _ _ _ _ _ _); refine ev_open ?_; intro K hK) | ((with_reducible show SkOpen _ _ _ _ _ _ _); refine sk_open ?_; intro K hK) | ((with_reducible show callK _ _ _ _ _ _ _ _); first  | (refine call_scalar (nuPlus_fn' _ _ (hu i) (hv j)) (Nat.le_of_ble_eq_true rfl) rfl ?_))); simp only [evOp, evQ, binK, withS, opd, kput, putS, upd, lookup, argsK, bringIn, bring, Res.list, Res.slot, InK_i64, appendK, srcK, growK, frz, newBlk, partsK, buildSliceK, plSlice, V.one, Value.oneCell', List.set_cons_zero, sz_ints, c_int, ei_ints, ea_ints, List.getElem?_cons_zero, List.getElem?_cons_succ, List.reverse_cons, List.reverse_nil, List.nil_append, List.cons_append, List.length_cons, List.length_nil, Nat.reduceEqDiff, Nat.reduceAdd, Nat.reduceLT, Nat.reduceLeDiff, Nat.mul_one, Nat.add_zero, Nat.zero_add, Nat.mod_one, List.getD_cons_zero, ↓reduceIte, eq_self, true_and, Bool.false_eq_true, forall_const, implies_true, Int.toNat_natCast]) | refine ev_guard rfl rfl rfl ?_ ?_ | ((with_reducible show retQ _ _ _ _); simp only [eq_self]) | (with_reducible refine hK _ ?_; clear hK K) | (with_reducible refine And.intro ?_ ?_) | (with_reducible intro hc; try simp only [decide_eq_true_eq, decide_eq_false_iff_not, Int.not_lt] at hc) | omega)
      all_goals first
        | (exfalso; omega)
        | omega
        | (rename_i q; obtain rfl : q = 0 := (by omega); rfl)
        | (exact ⟨j + 1, by omega, by omega, [2], rfl, by decide, by simp [EntSR, SlR, VE, VE.rfl', lookup, sc, Nat.add_assoc], grow_be (VE.of_eq (by show _ = vi ((pairsL u v).getD (i * v.length + j) 0); rw [pairsL_get hiu hjv])), trivial⟩)
        | trace_state
    · obtain rfl : j = v.length := by omega
      repeat' (first | (with_reducible first | refine then_normal ?_ | refine then_ret ?_ | refine then_exit ?_ | refine block_normal ?_ | refine block_ret ?_) | ((with_reducible show blockQ _ _ _ _); first | refine block_exit ?_ | refine block_exit_ne rfl ?_) | ((with_reducible show AWP _ _ _ _ _); first | (with_reducible first | refine AWP.seq ?_ | refine AWP.block ?_ | refine AWP.region ?_ | refine AWP.ret ?_ | refine AWP.exit ?_ | refine AWP.skip ?_) | refine AWP.drawn rfl (by kernel_rfl) ?_ | refine AWP.cond rfl ?_ ?_) | with_reducible refine ev_nil ?_ | ((first | ((with_reducible show evOps _ _ _ _ _ _); (first | refine ev_step rfl ?_ | refine ev_undef rfl rfl rfl ?_); intro K hK) | ((with_reducible show EvOpen _ _ _ _ _ _ _); refine ev_open ?_; intro K hK) | ((with_reducible show SkOpen _ _ _ _ _ _ _); refine sk_open ?_; intro K hK) | ((with_reducible show callK _ _ _ _ _ _ _ _); first | fail)); simp only [evOp, evQ, binK, withS, opd, kput, putS, upd, lookup, argsK, InK_i64, sz_ints, c_int, List.reverse_cons, List.reverse_nil, List.nil_append, List.cons_append, Nat.reduceEqDiff, Nat.reduceLT, Nat.mul_one, Nat.add_zero, ↓reduceIte, eq_self, true_and, Int.toNat_natCast]) | refine ev_guard rfl rfl rfl ?_ ?_ | ((with_reducible show retQ _ _ _ _); simp only [eq_self]) | (with_reducible refine hK _ ?_; clear hK K) | (with_reducible refine And.intro ?_ ?_) | (with_reducible intro hc; try simp only [decide_eq_true_eq, decide_eq_false_iff_not, Int.not_lt] at hc) | omega)
      all_goals first
        | (exfalso; omega)
        | (refine ⟨i + 1, by omega, by omega, [0], rfl, by decide, by simp [EntSR, SlR, VE, VE.rfl', lookup, sc, Nat.succ_mul], ⟨rfl, by show (i + 1) * v.length ≤ _; rw [Nat.succ_mul]; exact Nat.le_refl _, fun q hq => VE.rfl' _⟩, trivial⟩)
        | trace_state
  · obtain rfl : i = u.length := by omega
    repeat' (first | (with_reducible first | refine then_normal ?_ | refine then_ret ?_ | refine then_exit ?_ | refine block_normal ?_ | refine block_ret ?_) | ((with_reducible show blockQ _ _ _ _); first | refine block_exit ?_ | refine block_exit_ne rfl ?_) | ((with_reducible show AWP _ _ _ _ _); first | (with_reducible first | refine AWP.seq ?_ | refine AWP.block ?_ | refine AWP.region ?_ | refine AWP.ret ?_ | refine AWP.exit ?_ | refine AWP.skip ?_) | refine AWP.drawn rfl (by kernel_rfl) ?_ | refine AWP.cond rfl ?_ ?_) | with_reducible refine ev_nil ?_ | ((first | ((with_reducible show evOps _ _ _ _ _ _); (first | refine ev_step rfl ?_ | refine ev_undef rfl rfl rfl ?_); intro K hK) | ((with_reducible show EvOpen _ _ _ _ _ _ _); refine ev_open ?_; intro K hK) | ((with_reducible show SkOpen _ _ _ _ _ _ _); refine sk_open ?_; intro K hK) | ((with_reducible show callK _ _ _ _ _ _ _ _); first | fail)); simp only [evOp, evQ, evB, binK, withS, opd, kput, putS, upd, lookup, sz_ints, c_int, Nat.reduceEqDiff, Nat.reduceLT, Nat.mul_one, Nat.add_zero, ↓reduceIte, eq_self, true_and, Int.toNat_natCast, Option.isSome_some]) | refine ev_guard rfl rfl rfl ?_ ?_ | ((with_reducible show retQ _ _ _ _); simp only [retQ, retOk, getL, lookup, Option.map_some, fitsL, fits, ND, srcs, Res.list, List.getElem?_cons_zero, Nat.reduceEqDiff, ↓reduceIte, and_true, true_and]) | (with_reducible refine hK _ ?_; clear hK K) | (with_reducible refine And.intro ?_ ?_) | (with_reducible intro hc; try simp only [decide_eq_true_eq, decide_eq_false_iff_not, Int.not_lt] at hc) | omega)
    all_goals first
      | (exfalso; omega)
      | (rw [pairsL_len])
      | (exact ⟨_, rfl, rfl, by simp [bints, pairsL_len], fun q _ => VE.rfl' _⟩)
      | (simp; done)
      | trace_state

end Go.Proofs.Ytpimjkhfookipaa
