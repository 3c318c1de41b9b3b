/- slices.Grow at a nil slice (out of the library's shelf) and slices.Concat of two lists of integers. Conditions: lists no longer than 2^30. -/
import Derived.Test.YtpimjkhfookipaaFnA
import Derived.Test.YtpimjkhfookipaaEngH
import Derived.Shelf.Spec.SlicesGrow
import Derived.Test.YtpimjkhfookipaaTurnH
namespace Go.Proofs.Ytpimjkhfookipaa
namespace Go.Proofs
open Go.Shelf
def Try.growI_ren : Go.Shelf.Ren := ⟨fun | 4 => 201 | n => n, fun | 22 => 34 | 25 => 3 | 3 => 3 | 4 => 4 | 9 => 9 | 20 => 20 | 0 => 0 | n => n, fun | n => n⟩
theorem Try.growI : Lays8.n4 Try.prog Try.growI_ren := {
  mixed := by kernel_rfl
  f4 := ⟨Try.f201.name, by decide, Try.func201.trans (congrArg some (by kernel_rfl))⟩
  t0 := Try.underlying0
  a0 := Try.isAgg0
  z0 := Try.sizeOf0
  v0 := Try.zeroValue0
  t3 := Try.underlying3
  a3 := Try.isAgg3
  z3 := Try.sizeOf3
  v3 := Try.zeroValue3
  t4 := Try.underlying4
  a4 := Try.isAgg4
  z4 := Try.sizeOf4
  v4 := Try.zeroValue4
  t9 := Try.underlying9
  a9 := Try.isAgg9
  z9 := Try.sizeOf9
  v9 := Try.zeroValue9
  t20 := Try.underlying20
  a20 := Try.isAgg20
  z20 := Try.sizeOf20
  v20 := Try.zeroValue20
  t22 := Try.underlying34
  a22 := Try.isAgg34
  z22 := Try.sizeOf34
  v22 := Try.zeroValue34 }
end Go.Proofs
open Go.RowKit Go.Proofs
set_option linter.unusedSimpArgs false
set_option linter.unusedVariables false

theorem info_int : ∃ i, Try.prog.info? 3 = some i ∧ i.zero = some (.int .i64 0) ∧ i.size = 1 ∧ i.bytes = 8 :=
  ⟨(Try.prog.info? 3).get (by kernel_rfl), (Option.some_get _).symm, by kernel_rfl, by kernel_rfl, by kernel_rfl⟩
theorem zero_cells_size (k : Nat) : (Builtin.zeroCells (Value.int .i64 0).cells k).size = k := by
  simp [Builtin.zeroCells, Value.cells]

theorem grow_fn (n : Nat) (hn : n ≤ 4294967296) : Fn Try.prog 201 [.val (.slice none 0 0), vi n] (.one (.fr 1 0 ⟨3, 0, fun _ => vi 0⟩)) := by
  refine ⟨Try.call201, fun w S0 us hus => ?_⟩
  match us, hus with
  | [u0, u1], ⟨h0, h1, _⟩ =>
    obtain rfl : u0 = .slice none 0 0 := h0
    obtain rfl : u1 = .int .i64 n := h1
    rcases Nat.eq_zero_or_pos n with h | h
    · subst h
      refine (Any8.slices_Grow_room Try.growI none 0 0 0 w (by omega) (by omega) (by omega) (by omega)).mono ?_
      rintro e w' ⟨rfl, rfl⟩
      refine ⟨_, [none], rfl, ⟨rfl, Below.refl _ _, fun id blk hi => ?_, fun i j bi bj b z z' hi hj hb => ?_⟩, .inl ⟨rfl, rfl, rfl, rfl⟩⟩
      · cases id with
        | zero => cases hi; exact .inl ⟨rfl, rfl⟩
        | succ id => simp [bring, Res.list] at hi
      · cases i with
        | zero => simp at hb
        | succ i => simp at hb
    · obtain ⟨i0, hi, hz, hs, hb⟩ := info_int
      refine (Any8.slices_Grow_grow Try.growI i0 _ hi hz (by omega) none 0 0 n [] w (by omega) (by omega) (by rw [hb]; omega) (by omega) (by simp) (fun _ => rfl) (fun a ha => by cases ha)).mono ?_
      rintro e w' ⟨rfl, rfl⟩
      have hG := grownCap_le_maxLen w (0 + n) 0 3 (by unfold maxLen; omega)
      have hG' := grownCap_ge w (0 + n) 0 3
      change grownCap w (0 + n) 0 (Try.growI_ren.t 25) ≤ maxLen at hG
      change 0 + n ≤ grownCap w (0 + n) 0 (Try.growI_ren.t 25) at hG'
      generalize grownCap w (0 + n) 0 (Try.growI_ren.t 25) = G at hG hG' ⊢
      generalize hcur : ([] : List Value).toArray ++ Builtin.zeroCells (Value.int .i64 0).cells (0 + n - 0) ++ Builtin.zeroCells (Value.int .i64 0).cells (G - (0 + n)) = cur
      have hsz : cur.size = G := by
        rw [← hcur, Array.size_append, Array.size_append, zero_cells_size, zero_cells_size]
        simp; omega
      refine ⟨_, [some (w.heap.size, cur.size)], rfl, ⟨rfl, ?_, fun id blk hi => ?_, fun i j bi bj b z z' hi hj hb => ?_⟩, .inr ⟨w.heap.size, G, cur.size, rfl, rfl, Nat.zero_le _, hG, by rw [hsz]; omega⟩⟩
      · exact (Below.drew (Below.refl _ _)).alloc (Nat.le_refl _) _
      · cases id with
        | zero =>
          cases hi
          exact .inr ⟨w.heap.size, cur, rfl, Nat.le_refl _, heap_alloc_new w.drew _, Nat.zero_le _, fun i hi => by cases hi⟩
        | succ id => simp [bring, Res.list] at hi
      · cases i with
        | zero =>
          cases j with
          | zero => intro _; rfl
          | succ j => simp [bring, Res.list] at hj
        | succ i => simp [bring, Res.list] at hi

def catF (u v : List Int) : Nat → V := fun j => vi ((u ++ v).getD j 0)

/-- How much stands in the first k of two lists. -/
def preN (u v : List Int) (k : Nat) : Nat := if k = 0 then 0 else if k = 1 then u.length else u.length + v.length
theorem preN_le (u v : List Int) (k : Nat) : preN u v k ≤ u.length + v.length := by unfold preN; split <;> (try split) <;> omega
theorem preN_succ (u v : List Int) {k : Nat} (h : k < 2) : preN u v (k + 1) = preN u v k + (rowAt [u, v] k).length := by
  rcases (show k = 0 ∨ k = 1 by omega) with rfl | rfl <;> simp [preN, rowAt]
theorem cat_at (u v : List Int) {k q : Nat} (h : k < 2) (hq : q < (rowAt [u, v] k).length) : catF u v (preN u v k + q) = vi ((rowAt [u, v] k).getD q 0) := by
  rcases (show k = 0 ∨ k = 1 by omega) with rfl | rfl
  · have hq : q < u.length := hq
    show vi ((u ++ v).getD (0 + q) 0) = vi (u.getD q 0)
    rw [Nat.zero_add, List.getD, List.getElem?_append_left hq]; rfl
  · show vi ((u ++ v).getD (u.length + q) 0) = vi (v.getD q 0)
    rw [List.getD, List.getElem?_append_right (by omega), Nat.add_sub_cancel_left]; rfl

set_option maxRecDepth 100000 in
theorem concat_fn (u v : List Int) (hu : u.length ≤ 1073741824) (hv : v.length ≤ 1073741824) : Fn Try.prog 123 [rows [u, v]] (.one (.fr 1 (u.length + v.length) ⟨3, u.length + v.length, catF u v⟩)) := by
  have hg := grow_fn (u.length + v.length) (by omega)
  have hR : ∀ k, (rowAt [u, v] k).length ≤ 1073741824 := fun k => by
    match k with
    | 0 => exact hu
    | 1 => exact hv
    | k + 2 => simp [rowAt]
  have e2 : ([u, v] : List (List Int)).length = 2 := rfl
  have p2 : preN u v 2 = u.length + v.length := rfl
  generalize hl : ([u, v] : List (List Int)) = l at hR e2
  have hpl := fun k => preN_le u v k
  refine Fn.of_body Try.call123 Try.func123 rfl Try.ntmps123 (ts := [2]) rfl (by simp) rfl (fun N => ?_)
  repeat' (first | (with_reducible first | refine then_normal ?_ | refine then_ret ?_ | refine then_exit ?_ | refine block_normal ?_ | refine block_ret ?_) | ((with_reducible show blockQ _ _ _ _); first | refine block_exit ?_ | refine block_exit_ne rfl ?_) | ((with_reducible show AWP _ _ _ _ _); first | (with_reducible first | refine AWP.seq ?_ | refine AWP.block ?_ | refine AWP.region ?_ | refine AWP.ret ?_ | refine AWP.exit ?_ | refine AWP.skip ?_) | refine AWP.drawn rfl (by kernel_rfl) ?_ | refine AWP.cond rfl ?_ ?_) | with_reducible refine ev_nil ?_ | ((first | ((with_reducible show evOps _ _ _ _ _ _); (first | refine ev_step rfl ?_ | refine ev_undef rfl rfl rfl ?_); intro K hK) | ((with_reducible show EvOpen _ _ _ _ _ _ _); refine ev_open ?_; intro K hK) | ((with_reducible show SkOpen _ _ _ _ _ _ _); refine sk_open ?_; intro K hK) | ((with_reducible show callK _ _ _ _ _ _ _ _); first | fail)); simp only [evOp, evQ, evB, withS, opd, kput, putS, upd, lookup, slotsOf, sz_rows, Nat.reduceEqDiff, Nat.reduceLT, ↓reduceIte, eq_self, true_and, Option.isSome_some]) | refine ev_guard rfl rfl rfl ?_ ?_ | ((with_reducible show retQ _ _ _ _); simp only [eq_self]) | (with_reducible refine hK _ ?_; clear hK K) | (with_reducible refine And.intro ?_ ?_) | (with_reducible intro hc; try simp only [eq_self] at hc) | omega)
  refine AWP.loop_entR [] (fun k : Nat => ⟨[(0, .one (.pv (rows l))), (3, sc (.int .i64 (preN u v k))), (9, .one (.pv (rows l))), (10, sc (.int .i64 l.length)), (11, sc (.int .i64 k))], [], 36⟩)
    (fun k => k ≤ 2) (fun k => 2 - k) 0 (by omega) (by simp [EntR, EntSR, EntHR, SlR, VE, VE.rfl', lookup, BE, upd, sc, preN]) ?_
  intro k hk
  have hrk := hR k
  have hpk := hpl k
  by_cases hk2 : k < 2
  · have hs := preN_succ u v hk2
    rw [hl] at hs
    repeat' (first | (with_reducible first | refine then_normal ?_ | refine then_ret ?_ | refine then_exit ?_ | refine block_normal ?_ | refine block_ret ?_) | ((with_reducible show blockQ _ _ _ _); first | refine block_exit ?_ | refine block_exit_ne rfl ?_) | ((with_reducible show AWP _ _ _ _ _); first | (with_reducible first | refine AWP.seq ?_ | refine AWP.block ?_ | refine AWP.region ?_ | refine AWP.ret ?_ | refine AWP.exit ?_ | refine AWP.skip ?_) | refine AWP.drawn rfl (by kernel_rfl) ?_ | refine AWP.cond rfl ?_ ?_) | with_reducible refine ev_nil ?_ | ((first | ((with_reducible show evOps _ _ _ _ _ _); (first | refine ev_step rfl ?_ | refine ev_undef rfl rfl rfl ?_); intro K hK) | ((with_reducible show EvOpen _ _ _ _ _ _ _); refine ev_open ?_; intro K hK) | ((with_reducible show SkOpen _ _ _ _ _ _ _); refine sk_open ?_; intro K hK) | ((with_reducible show callK _ _ _ _ _ _ _ _); first | fail)); simp only [evOp, evQ, evB, binK, withS, opd, kput, putS, upd, lookup, argsK, InK_i64, sz_ints, sz_rows, c_ints, List.reverse_cons, List.reverse_nil, List.nil_append, List.cons_append, Nat.reduceEqDiff, Nat.reduceLT, Nat.mul_one, Nat.add_zero, ↓reduceIte, eq_self, true_and, Int.toNat_natCast, Option.isSome_some]) | refine ev_guard rfl rfl rfl ?_ ?_ | ((with_reducible show retQ _ _ _ _); simp only [eq_self]) | (with_reducible refine hK _ ?_; clear hK K) | (with_reducible refine And.intro ?_ ?_) | (with_reducible intro hc; try simp only [decide_eq_true_eq, decide_eq_false_iff_not, Int.not_lt] at hc) | omega)
    all_goals first
      | (exfalso; omega)
      | omega
      | (exact ⟨k + 1, by omega, by omega, [], rfl, by decide, by simp [EntSR, SlR, VE, VE.rfl', lookup, sc, hs], trivial⟩)
      | trace_state
  · obtain rfl : k = 2 := by omega
    rw [p2] at *
    repeat' (first | (with_reducible first | refine then_normal ?_ | refine then_ret ?_ | refine then_exit ?_ | refine block_normal ?_ | refine block_ret ?_) | ((with_reducible show blockQ _ _ _ _); first | refine block_exit ?_ | refine block_exit_ne rfl ?_) | ((with_reducible show AWP _ _ _ _ _); first | (with_reducible first | refine AWP.seq ?_ | refine AWP.block ?_ | refine AWP.region ?_ | refine AWP.ret ?_ | refine AWP.exit ?_ | refine AWP.skip ?_) | refine AWP.drawn rfl (by kernel_rfl) ?_ | refine AWP.cond rfl ?_ ?_) | with_reducible refine ev_nil ?_ | ((first | ((with_reducible show evOps _ _ _ _ _ _); (first | refine ev_step rfl ?_ | refine ev_undef rfl rfl rfl ?_); intro K hK) | ((with_reducible show EvOpen _ _ _ _ _ _ _); refine ev_open ?_; intro K hK) | ((with_reducible show SkOpen _ _ _ _ _ _ _); refine sk_open ?_; intro K hK) | ((with_reducible show callK _ _ _ _ _ _ _ _); first  | (refine call_pure ( hg) (Nat.le_of_ble_eq_true rfl) ?_))); simp only [evOp, evQ, evB, binK, withS, opd, kput, putS, upd, lookup, argsK, bringIn, bring, Res.list, Res.slot, InK_i64, sz_ints, sz_rows, c_ints, List.reverse_cons, List.reverse_nil, List.nil_append, List.cons_append, List.length_nil, Nat.reduceEqDiff, Nat.reduceLT, Nat.mul_one, Nat.add_zero, ↓reduceIte, eq_self, true_and, Int.toNat_natCast, Option.isSome_some]) | refine ev_guard rfl rfl rfl ?_ ?_ | ((with_reducible show retQ _ _ _ _); simp only [eq_self]) | (with_reducible refine hK _ ?_; clear hK K) | (with_reducible refine And.intro ?_ ?_) | (with_reducible intro hc; try simp only [decide_eq_true_eq, decide_eq_false_iff_not, Int.not_lt] at hc) | omega)
    all_goals try (exfalso; omega; done)
    refine AWP.loop_entR [0] (fun k : Nat => ⟨[(6, .one (.own 0 1 0 (preN u v k))), (25, .one (.pv (rows l))), (26, sc (.int .i64 l.length)), (27, sc (.int .i64 k))], [some ⟨3, preN u v k, catF u v⟩], 36⟩)
      (fun k => k ≤ 2) (fun k => 2 - k) 0 (by omega) (by simp [EntR, EntSR, EntHR, SlR, VE, VE.rfl', lookup, BE, upd, sc, preN]) ?_
    intro k hk
    have hrk := hR k
    have hpk := hpl k
    by_cases hk2 : k < 2
    · have hs := preN_succ u v hk2
      have hat := fun q => cat_at u v (q := q) hk2
      rw [hl] at hs hat
      repeat' (first | (with_reducible first | refine then_normal ?_ | refine then_ret ?_ | refine then_exit ?_ | refine block_normal ?_ | refine block_ret ?_) | ((with_reducible show blockQ _ _ _ _); first | refine block_exit ?_ | refine block_exit_ne rfl ?_) | ((with_reducible show AWP _ _ _ _ _); first | (with_reducible first | refine AWP.seq ?_ | refine AWP.block ?_ | refine AWP.region ?_ | refine AWP.ret ?_ | refine AWP.exit ?_ | refine AWP.skip ?_) | refine AWP.drawn rfl (by kernel_rfl) ?_ | refine AWP.cond rfl ?_ ?_) | with_reducible refine ev_nil ?_ | ((first | ((with_reducible show evOps _ _ _ _ _ _); (first | refine ev_step rfl ?_ | refine ev_undef rfl rfl rfl ?_); intro K hK) | ((with_reducible show EvOpen _ _ _ _ _ _ _); refine ev_open ?_; intro K hK) | ((with_reducible show SkOpen _ _ _ _ _ _ _); refine sk_open ?_; intro K hK) | ((with_reducible show callK _ _ _ _ _ _ _ _); first | fail)); simp only [evOp, evQ, binK, withS, opd, kput, putS, upd, lookup, InK_i64, appendK, srcK, growK, V.one, Value.oneCell', List.set_cons_zero, ei_ints, sz_rows, c_ints, List.getElem?_cons_zero, List.nil_append, List.cons_append, List.length_cons, List.length_nil, Nat.reduceEqDiff, Nat.reduceLT, Nat.mul_one, Nat.add_zero, Nat.zero_add, ↓reduceIte, eq_self, true_and, forall_const, implies_true, Int.toNat_natCast]) | refine ev_guard rfl rfl rfl ?_ ?_ | ((with_reducible show retQ _ _ _ _); simp only [retQ, retOk, getL, lookup, Option.map_some, fitsL, fits, ND, srcs, Res.list, List.getElem?_cons_zero, Nat.reduceEqDiff, ↓reduceIte, and_true, true_and]) | (with_reducible refine hK _ ?_; clear hK K) | (with_reducible refine And.intro ?_ ?_) | (with_reducible intro hc; try simp only [decide_eq_true_eq, decide_eq_false_iff_not, Int.not_lt] at hc) | omega)
      all_goals first
        | (exfalso; omega)
        | omega
        | rfl
        | (exact ⟨k + 1, by omega, by omega, [1], rfl, by decide, by simp [EntSR, SlR, VE, VE.rfl', lookup, sc, hs], ⟨rfl, by show preN u v (k + 1) ≤ _; rw [hs]; exact Nat.le_refl _, fun q hq => VE.of_eq (by
            have hq : q < preN u v (k + 1) := hq
            show (if q < preN u v k then catF u v q else vi ((rowAt l k).getD (q - preN u v k) 0)) = catF u v q
            by_cases h : q < preN u v k
            · rw [if_pos h]
            · rw [if_neg h, ← hat (q - preN u v k) (by omega), show preN u v k + (q - preN u v k) = q by omega])⟩, trivial⟩)
        | trace_state
    · obtain rfl : k = 2 := by omega
      have p3 : preN u v 2 = u.length + v.length := rfl
      repeat' (first | (with_reducible first | refine then_normal ?_ | refine then_ret ?_ | refine then_exit ?_ | refine block_normal ?_ | refine block_ret ?_) | ((with_reducible show blockQ _ _ _ _); first | refine block_exit ?_ | refine block_exit_ne rfl ?_) | ((with_reducible show AWP _ _ _ _ _); first | (with_reducible first | refine AWP.seq ?_ | refine AWP.block ?_ | refine AWP.region ?_ | refine AWP.ret ?_ | refine AWP.exit ?_ | refine AWP.skip ?_) | refine AWP.drawn rfl (by kernel_rfl) ?_ | refine AWP.cond rfl ?_ ?_) | with_reducible refine ev_nil ?_ | ((first | ((with_reducible show evOps _ _ _ _ _ _); (first | refine ev_step rfl ?_ | refine ev_undef rfl rfl rfl ?_); intro K hK) | ((with_reducible show EvOpen _ _ _ _ _ _ _); refine ev_open ?_; intro K hK) | ((with_reducible show SkOpen _ _ _ _ _ _ _); refine sk_open ?_; intro K hK) | ((with_reducible show callK _ _ _ _ _ _ _ _); first | fail)); simp only [evOp, evQ, binK, withS, opd, kput, putS, upd, lookup, InK_i64, appendK, srcK, growK, V.one, Value.oneCell', List.set_cons_zero, ei_ints, sz_rows, c_ints, List.getElem?_cons_zero, List.nil_append, List.cons_append, List.length_cons, List.length_nil, Nat.reduceEqDiff, Nat.reduceLT, Nat.mul_one, Nat.add_zero, Nat.zero_add, ↓reduceIte, eq_self, true_and, forall_const, implies_true, Int.toNat_natCast]) | refine ev_guard rfl rfl rfl ?_ ?_ | ((with_reducible show retQ _ _ _ _); simp only [retQ, retOk, getL, lookup, Option.map_some, fitsL, fits, ND, srcs, Res.list, List.getElem?_cons_zero, Nat.reduceEqDiff, ↓reduceIte, and_true, true_and]) | (with_reducible refine hK _ ?_; clear hK K) | (with_reducible refine And.intro ?_ ?_) | (with_reducible intro hc; try simp only [decide_eq_true_eq, decide_eq_false_iff_not, Int.not_lt] at hc) | omega)
      all_goals first
        | (exfalso; omega)
        | exact p3
        | (exact ⟨_, rfl, rfl, Nat.le_of_eq p3.symm, fun q _ => VE.rfl' _⟩)
        | (simp; done)
        | trace_state

open Go.RowKit Go.Proofs
set_option linter.unusedSimpArgs false
set_option linter.unusedVariables false

def infL (n : Nat) : List Int := List.replicate n 1000000000
theorem infL_len (n : Nat) : (infL n).length = n := List.length_replicate
theorem infL_at {n i : Nat} (h : i < n) : (infL n).getD i 0 = 1000000000 := by simp [infL, List.getD, h]

set_option maxRecDepth 100000 in
theorem infinities_fn (n : Nat) (hn : n ≤ 1073741824) : Fn Try.prog 203 [vi n] (.one (.fr 1 n ⟨3, n, fun _ => vi 1000000000⟩)) := by
  refine Fn.of_body Try.call203 Try.func203 rfl Try.ntmps203 (ts := [2]) rfl (by simp) rfl (fun N => ?_)
  repeat' (first | (with_reducible first | refine then_normal ?_ | refine then_ret ?_ | refine then_exit ?_ | refine block_normal ?_ | refine block_ret ?_) | ((with_reducible show blockQ _ _ _ _); first | refine block_exit ?_ | refine block_exit_ne rfl ?_) | ((with_reducible show AWP _ _ _ _ _); first | (with_reducible first | refine AWP.seq ?_ | refine AWP.block ?_ | refine AWP.region ?_ | refine AWP.ret ?_ | refine AWP.exit ?_ | refine AWP.skip ?_) | refine AWP.drawn rfl (by kernel_rfl) ?_ | refine AWP.cond rfl ?_ ?_) | with_reducible refine ev_nil ?_ | ((first | ((with_reducible show evOps _ _ _ _ _ _); (first | refine ev_step rfl ?_ | refine ev_undef rfl rfl rfl ?_); intro K hK) | ((with_reducible show EvOpen _ _ _ _ _ _ _); refine ev_open ?_; intro K hK) | ((with_reducible show SkOpen _ _ _ _ _ _ _); refine sk_open ?_; intro K hK) | ((with_reducible show callK _ _ _ _ _ _ _ _); first | fail)); simp only [evOp, evQ, evB, withS, opd, kput, putS, upd, lookup, slotsOf, makeK, newBlk, sz_ints, ei_ints, List.nil_append, List.length_cons, List.length_nil, Nat.reduceEqDiff, Nat.reduceLT, Nat.mul_one, Nat.zero_add, Nat.mod_one, List.getD_cons_zero, ↓reduceIte, eq_self, true_and, Int.toNat_natCast, Option.isSome_some]) | refine ev_guard rfl rfl rfl ?_ ?_ | ((with_reducible show retQ _ _ _ _); simp only [eq_self]) | (with_reducible refine hK _ ?_; clear hK K) | (with_reducible refine And.intro ?_ ?_) | (with_reducible intro hc; try simp only [eq_self] at hc) | omega)
  all_goals try (exfalso; omega; done)
  all_goals try (omega; done)
  refine AWP.loop_entR [0] (fun k : Nat => ⟨[(3, .one (.own 0 1 0 n)), (7, .one (.own 0 1 0 n)), (8, sc (.int .i64 n)), (9, sc (.int .i64 k))], [some ⟨3, n, fun i => if i < k then vi 1000000000 else vi 0⟩], 17⟩)
    (fun k => k ≤ n) (fun k => n - k) 0 (by omega) ?_ ?_
  · simp [EntR, EntSR, EntHR, SlR, VE, VE.rfl', lookup, BE, upd, sc]
  intro k hk
  by_cases hkn : k < n
  · repeat' (first | (with_reducible first | refine then_normal ?_ | refine then_ret ?_ | refine then_exit ?_ | refine block_normal ?_ | refine block_ret ?_) | ((with_reducible show blockQ _ _ _ _); first | refine block_exit ?_ | refine block_exit_ne rfl ?_) | ((with_reducible show AWP _ _ _ _ _); first | (with_reducible first | refine AWP.seq ?_ | refine AWP.block ?_ | refine AWP.region ?_ | refine AWP.ret ?_ | refine AWP.exit ?_ | refine AWP.skip ?_) | refine AWP.drawn rfl (by kernel_rfl) ?_ | refine AWP.cond rfl ?_ ?_) | with_reducible refine ev_nil ?_ | ((first | ((with_reducible show evOps _ _ _ _ _ _); (first | refine ev_step rfl ?_ | refine ev_undef rfl rfl rfl ?_); intro K hK) | ((with_reducible show EvOpen _ _ _ _ _ _ _); refine ev_open ?_; intro K hK) | ((with_reducible show SkOpen _ _ _ _ _ _ _); refine sk_open ?_; intro K hK) | ((with_reducible show callK _ _ _ _ _ _ _ _); first | fail)); simp only [evOp, evQ, binK, withS, opd, kput, putS, upd, lookup, InK_i64, storeK, frz, storeV, setBlk, V.one, Value.oneCell', List.set_cons_zero, sz_ints, c_int, List.getElem?_cons_zero, Nat.reduceEqDiff, Nat.reduceLT, Nat.mul_one, Nat.zero_add, ↓reduceIte, eq_self, true_and, Int.toNat_natCast]) | refine ev_guard rfl rfl rfl ?_ ?_ | ((with_reducible show retQ _ _ _ _); simp only [retQ, retOk, getL, lookup, Option.map_some, fitsL, fits, ND, srcs, Res.list, List.getElem?_cons_zero, Nat.reduceEqDiff, ↓reduceIte, and_true, true_and]) | (with_reducible refine hK _ ?_; clear hK K) | (with_reducible refine And.intro ?_ ?_) | (with_reducible intro hc; try simp only [decide_eq_true_eq, decide_eq_false_iff_not, Int.not_lt] at hc) | omega)
    all_goals first
      | (exfalso; omega)
      | omega
      | (refine ⟨k + 1, by omega, by omega, [0], rfl, by decide, by simp [EntSR, SlR, VE, VE.rfl', lookup, sc], ⟨rfl, Nat.le_refl _, fun q hq => VE.of_eq ?_⟩, trivial⟩
         show (if q = k then vi 1000000000 else if q < k then vi 1000000000 else vi 0) = (if q < k + 1 then vi 1000000000 else vi 0)
         by_cases h1 : q = k
         · rw [if_pos h1, if_pos (by omega)]
         · by_cases h2 : q < k
           · rw [if_neg h1, if_pos h2, if_pos (by omega)]
           · rw [if_neg h1, if_neg h2, if_neg (by omega)])
      | trace_state
  · obtain rfl : k = n := by omega
    repeat' (first | (with_reducible first | refine then_normal ?_ | refine then_ret ?_ | refine then_exit ?_ | refine block_normal ?_ | refine block_ret ?_) | ((with_reducible show blockQ _ _ _ _); first | refine block_exit ?_ | refine block_exit_ne rfl ?_) | ((with_reducible show AWP _ _ _ _ _); first | (with_reducible first | refine AWP.seq ?_ | refine AWP.block ?_ | refine AWP.region ?_ | refine AWP.ret ?_ | refine AWP.exit ?_ | refine AWP.skip ?_) | refine AWP.drawn rfl (by kernel_rfl) ?_ | refine AWP.cond rfl ?_ ?_) | with_reducible refine ev_nil ?_ | ((first | ((with_reducible show evOps _ _ _ _ _ _); (first | refine ev_step rfl ?_ | refine ev_undef rfl rfl rfl ?_); intro K hK) | ((with_reducible show EvOpen _ _ _ _ _ _ _); refine ev_open ?_; intro K hK) | ((with_reducible show SkOpen _ _ _ _ _ _ _); refine sk_open ?_; intro K hK) | ((with_reducible show callK _ _ _ _ _ _ _ _); first | fail)); simp only [evOp, evQ, binK, withS, opd, kput, putS, upd, lookup, InK_i64, storeK, frz, storeV, setBlk, V.one, Value.oneCell', List.set_cons_zero, sz_ints, c_int, List.getElem?_cons_zero, Nat.reduceEqDiff, Nat.reduceLT, Nat.mul_one, Nat.zero_add, ↓reduceIte, eq_self, true_and, Int.toNat_natCast]) | refine ev_guard rfl rfl rfl ?_ ?_ | ((with_reducible show retQ _ _ _ _); simp only [retQ, retOk, getL, lookup, Option.map_some, fitsL, fits, ND, srcs, Res.list, List.getElem?_cons_zero, Nat.reduceEqDiff, ↓reduceIte, and_true, true_and]) | (with_reducible refine hK _ ?_; clear hK K) | (with_reducible refine And.intro ?_ ?_) | (with_reducible intro hc; try simp only [decide_eq_true_eq, decide_eq_false_iff_not, Int.not_lt] at hc) | omega)
    all_goals first
      | (exfalso; omega)
      | (exact ⟨_, rfl, rfl, Nat.le_refl _, fun q hq => VE.of_eq (if_pos hq)⟩)
      | (simp; done)
      | trace_state

open Go.RowKit Go.Proofs
set_option linter.unusedSimpArgs false
set_option linter.unusedVariables false

def besM (m m' : List (List Int)) : List (List Int) := (m.map fun r => r ++ infL m'.length) ++ (m'.map fun r => infL m.length ++ r)
theorem besM_len (m m' : List (List Int)) : (besM m m').length = m.length + m'.length := by simp [besM]
theorem besM_lo {m m' : List (List Int)} {i : Nat} (h : i < m.length) : rowAt (besM m m') i = rowAt m i ++ infL m'.length := by
  unfold besM rowAt
  rw [List.getD, List.getElem?_append_left (by simpa using h), List.getElem?_map, List.getD, List.getElem?_eq_getElem h]; rfl
theorem besM_hi {m m' : List (List Int)} {i : Nat} (h : i < m'.length) : rowAt (besM m m') (m.length + i) = infL m.length ++ rowAt m' i := by
  unfold besM rowAt
  rw [List.getD, List.getElem?_append_right (by simp), List.length_map, Nat.add_sub_cancel_left, List.getElem?_map, List.getD, List.getElem?_eq_getElem h]; rfl

/-- The row that is made out of a list and infinities behind it. -/
theorem lo_ve {u : Value} {Z : Nat → Prop} {r : List Int} {n : Nat} {f : Nat → V} (hf : ∀ j, j < r.length + n → f j = if j < r.length then vi (r.getD j 0) else vi 1000000000) :
    VE (.row u Z 1 (r.length + n) f) (.row u Z 1 (r ++ infL n).length fun j => vi ((r ++ infL n).getD j 0)) := by
  refine ⟨rfl, rfl, rfl, by rw [List.length_append, infL_len], fun j hj => VE.of_eq ?_⟩
  have hj : j < (r.length + n) * 1 := hj
  rw [hf j (by omega)]
  by_cases h : j < r.length
  · have e : (r ++ infL n).getD j 0 = r.getD j 0 := by rw [List.getD, List.getElem?_append_left h]; rfl
    show _ = vi ((r ++ infL n).getD j 0)
    rw [if_pos h, e]
  · have e : (r ++ infL n).getD j 0 = (infL n).getD (j - r.length) 0 := by rw [List.getD, List.getElem?_append_right (by omega)]; rfl
    show _ = vi ((r ++ infL n).getD j 0)
    rw [if_neg h, e, infL_at (by omega)]
theorem hi_ve {u : Value} {Z : Nat → Prop} {r : List Int} {n : Nat} {f : Nat → V} (hf : ∀ j, j < n + r.length → f j = if j < n then vi 1000000000 else vi (r.getD (j - n) 0)) :
    VE (.row u Z 1 (n + r.length) f) (.row u Z 1 (infL n ++ r).length fun j => vi ((infL n ++ r).getD j 0)) := by
  refine ⟨rfl, rfl, rfl, by rw [List.length_append, infL_len], fun j hj => VE.of_eq ?_⟩
  have hj : j < (n + r.length) * 1 := hj
  rw [hf j (by omega)]
  by_cases h : j < n
  · have e : (infL n ++ r).getD j 0 = (infL n).getD j 0 := by rw [List.getD, List.getElem?_append_left (by rw [infL_len]; exact h)]; rfl
    show _ = vi ((infL n ++ r).getD j 0)
    rw [if_pos h, e, infL_at h]
  · have e : (infL n ++ r).getD j 0 = r.getD (j - n) 0 := by rw [List.getD, List.getElem?_append_right (by rw [infL_len]; omega), infL_len]; rfl
    show _ = vi ((infL n ++ r).getD j 0)
    rw [if_neg h, e]

set_option maxHeartbeats 1000000 in
theorem beside_full (m m' : List (List Int)) (hl : m.length ≤ 1000000) (hl' : m'.length ≤ 1000000) (hr : ∀ i, i < m.length → (rowAt m i).length ≤ 1000000) (hr' : ∀ i, i < m'.length → (rowAt m' i).length ≤ 1000000) :
    FnE Try.prog 124 [rows m, rows m'] (fullL (besM m m').length 34 fun i => isRow (rowAt (besM m m') i)) := by
  rw [besM_len]
  have hlo := fun i => besM_lo (m := m) (m' := m') (i := i)
  have hhi := fun i => besM_hi (m := m) (m' := m') (i := i)
  generalize besM m m' = M at hlo hhi
  refine FnE.of_body (fun N => [rows m, rows m']) (fun _ _ h => h) Try.call124 Try.func124 rfl Try.ntmps124 (ts := [4]) rfl (fun _ => by simp) (fullL.shape) (fun N => ?_)
  repeat' (first | (with_reducible first | refine then_normal ?_ | refine then_ret ?_ | refine then_exit ?_ | refine block_normal ?_ | refine block_ret ?_) | ((with_reducible show blockQ _ _ _ _); first | refine block_exit ?_ | refine block_exit_ne rfl ?_) | ((with_reducible show AWP _ _ _ _ _); first | (with_reducible first | refine AWP.seq ?_ | refine AWP.block ?_ | refine AWP.region ?_ | refine AWP.ret ?_ | refine AWP.exit ?_ | refine AWP.skip ?_) | refine AWP.drawn rfl (by kernel_rfl) ?_ | refine AWP.cond rfl ?_ ?_) | with_reducible refine ev_nil ?_ | ((first | ((with_reducible show evOps _ _ _ _ _ _); (first | refine ev_step rfl ?_ | refine ev_undef rfl rfl rfl ?_); intro K hK) | ((with_reducible show EvOpen _ _ _ _ _ _ _); refine ev_open ?_; intro K hK) | ((with_reducible show SkOpen _ _ _ _ _ _ _); refine sk_open ?_; intro K hK) | ((with_reducible show callK _ _ _ _ _ _ _ _); first | fail)); simp only [evOp, evQ, evB, withS, opd, kput, putS, upd, lookup, slotsOf, newBlk, partsK, buildSliceK, sz_rows, ei_rows, ea_rows, Nat.zero_le, List.nil_append, List.length_cons, List.length_nil, Nat.reduceEqDiff, Nat.reduceLT, Nat.reduceLeDiff, Nat.mul_one, Nat.zero_add, Nat.mod_one, List.getD_cons_zero, ↓reduceIte, eq_self, true_and, Option.isSome_some]) | refine ev_guard rfl rfl rfl ?_ ?_ | ((with_reducible show retQ _ _ _ _); simp only [eq_self]) | (with_reducible refine hK _ ?_; clear hK K) | (with_reducible refine And.intro ?_ ?_) | (with_reducible intro hc; try simp only [eq_self] at hc) | omega)
  all_goals try (exfalso; omega; done)
  refine AWP.loop_entR [0] (fun x : Nat × (Nat → V) => ⟨[(0, .one (.pv (rows m))), (1, .one (.pv (rows m'))), (5, .one (.own 0 1 0 x.1)), (11, .one (.pv (rows m))), (12, sc (.int .i64 m.length)), (13, sc (.int .i64 x.1))], [some ⟨34, x.1, x.2⟩], 43⟩)
    (fun x => x.1 ≤ m.length ∧ partL N (m.length + m'.length) x.1 (fun i => isRow (rowAt M i)) x.2) (fun x => m.length - x.1) (0, fun _ => .val undef) ⟨by omega, by omega, fun i hi => by omega⟩ (by simp [EntR, EntSR, EntHR, SlR, VE, lookup, BE, upd, sc, VE.rfl']) ?_
  rintro ⟨k, F⟩ ⟨hk, hG⟩
  have hk : k ≤ m.length := hk
  have hG : partL N (m.length + m'.length) k (fun i => isRow (rowAt M i)) F := hG
  by_cases hkm : k < m.length
  · have hrk := hr k hkm
    have hcl := clone_fn (rowAt m k) (by omega)
    repeat' (first | ((with_reducible show evNx _ _ _ _ _ _); first | (with_reducible refine nx_done ?_) | (refine nx_one rfl ?_) | (refine nx_alt rfl ?_ ?_) | (with_reducible refine nx_st ?_)) | ((with_reducible show evSx _ _ _ _ _ _); first | (with_reducible refine sx_done ?_) | (with_reducible refine sx_st ?_) | (with_reducible refine sx_op ?_)) | ((with_reducible show evTake _ _ _ _ _); with_reducible refine take_nil ?_) | ((with_reducible show evSy _ _ _ _ _ _ _); first | (with_reducible refine sy_done ?_) | (refine sy_last rfl ?_) | (refine sy_one (by decide) rfl ?_) | (refine sy_alt (by decide) rfl ?_ ?_) | (with_reducible refine sy_st ?_)) | ((with_reducible show StK _ _ _); first | (refine stk_letRow (letRow_go (t := 23) rfl rfl (by simp) ?_) ; intro u1 Z1 hZ1 hD1 ; simp only [upd, List.set_cons_zero, List.set_cons_succ, Nat.reduceEqDiff, ↓reduceIte, eq_self]) | fail) | (with_reducible first | refine then_normal ?_ | refine then_ret ?_ | refine then_exit ?_ | refine block_normal ?_ | refine block_ret ?_) | ((with_reducible show blockQ _ _ _ _); first | refine block_exit ?_ | refine block_exit_ne rfl ?_) | ((with_reducible show AWP _ _ _ _ _); first | (refine AWP.region_sx (id := 5) [.op, .op, .op, .op, .op, .op, .op, .st, .op, .op, .op] ?_) | (with_reducible first | refine AWP.seq ?_ | refine AWP.block ?_ | refine AWP.region ?_ | refine AWP.ret ?_ | refine AWP.exit ?_ | refine AWP.skip ?_) | refine AWP.drawn rfl (by kernel_rfl) ?_ | refine AWP.cond rfl ?_ ?_) | with_reducible refine ev_nil ?_ | ((first | ((with_reducible show evNx _ _ _ _ _ _); refine nx_take rfl ?_; intro K hK) | ((with_reducible show Ax _ _ _ _ _); first | (refine ax_op rfl ?_; intro K hK)) | ((with_reducible show evTake _ _ _ _ _); refine take_step rfl ?_; intro K hK) | ((with_reducible show evSy _ _ _ _ _ _ _); refine sy_take rfl ?_; intro K hK) | ((with_reducible show AxB _ _ _ _ _); first | (refine axb_op rfl rfl ?_; intro K hK)) | ((with_reducible show evOps _ _ _ _ _ _); (first | refine ev_step rfl ?_ | refine ev_undef rfl rfl rfl ?_); intro K hK) | ((with_reducible show EvOpen _ _ _ _ _ _ _); refine ev_open ?_; intro K hK) | ((with_reducible show SkOpen _ _ _ _ _ _ _); refine sk_open ?_; intro K hK) | ((with_reducible show callK _ _ _ _ _ _ _ _); first  | (refine call_safe ( hcl) (Nat.le_of_ble_eq_true rfl) (by repeat' (first | ((with_reducible show evNx _ _ _ _ _ _); first | (with_reducible refine nx_done ?_) | (refine nx_one rfl ?_) | (refine nx_alt rfl ?_ ?_) | (with_reducible refine nx_st ?_)) | ((with_reducible show evSx _ _ _ _ _ _); first | (with_reducible refine sx_done ?_) | (with_reducible refine sx_st ?_) | (with_reducible refine sx_op ?_)) | ((with_reducible show evTake _ _ _ _ _); with_reducible refine take_nil ?_) | ((with_reducible show evSy _ _ _ _ _ _ _); first | (with_reducible refine sy_done ?_) | (refine sy_last rfl ?_) | (refine sy_one (by decide) rfl ?_) | (refine sy_alt (by decide) rfl ?_ ?_) | (with_reducible refine sy_st ?_)) | ((with_reducible show StK _ _ _); first | (refine stk_letRow (letRow_go (t := 23) rfl rfl (by simp) ?_) ; intro u1 Z1 hZ1 hD1 ; simp only [eq_self]) | fail) | exact trivial | refine ⟨fun _ _ => ⟨_, rfl⟩, ?_⟩)) ?_) | (refine call_safe ( infinities_fn m'.length (by omega)) (Nat.le_of_ble_eq_true rfl) (by repeat' (first | ((with_reducible show evNx _ _ _ _ _ _); first | (with_reducible refine nx_done ?_) | (refine nx_one rfl ?_) | (refine nx_alt rfl ?_ ?_) | (with_reducible refine nx_st ?_)) | ((with_reducible show evSx _ _ _ _ _ _); first | (with_reducible refine sx_done ?_) | (with_reducible refine sx_st ?_) | (with_reducible refine sx_op ?_)) | ((with_reducible show evTake _ _ _ _ _); with_reducible refine take_nil ?_) | ((with_reducible show evSy _ _ _ _ _ _ _); first | (with_reducible refine sy_done ?_) | (refine sy_last rfl ?_) | (refine sy_one (by decide) rfl ?_) | (refine sy_alt (by decide) rfl ?_ ?_) | (with_reducible refine sy_st ?_)) | ((with_reducible show StK _ _ _); first | (refine stk_letRow (letRow_go (t := 23) rfl rfl (by simp) ?_) ; intro u1 Z1 hZ1 hD1 ; simp only [eq_self]) | fail) | exact trivial | refine ⟨fun _ _ => ⟨_, rfl⟩, ?_⟩)) ?_))); simp only [evOp, evQ, evB, binK, withS, opd, kput, putS, upd, lookup, argsK, bringIn, bring, Res.list, Res.slot, InK_i64, appendK, srcK, growK, frz, newBlk, partsK, buildSliceK, plSlice, V.one, Value.oneCell', List.set_cons_zero, List.set_cons_succ, ei_ints, bints, sz_rows, c_ints, ei_rows, ea_rows, List.getElem?_cons_zero, List.getElem?_cons_succ, List.reverse_cons, List.reverse_nil, List.nil_append, List.cons_append, List.length_cons, List.length_nil, Nat.reduceEqDiff, Nat.reduceAdd, Nat.reduceLT, Nat.reduceLeDiff, Nat.mul_one, Nat.add_zero, Nat.zero_add, Nat.mod_one, List.getD_cons_zero, ↓reduceIte, eq_self, true_and, Bool.false_eq_true, forall_const, implies_true, Int.toNat_natCast, Option.isSome_some]) | refine ev_guard rfl rfl rfl ?_ ?_ | ((with_reducible show retQ _ _ _ _); simp only [eq_self]) | (with_reducible refine hK _ ?_; clear hK K) | (with_reducible refine And.intro ?_ ?_) | (with_reducible intro hc; try simp only [decide_eq_true_eq, decide_eq_false_iff_not, Int.not_lt] at hc) | omega)
    all_goals first
      | (exfalso; omega)
      | omega
      | (rename_i q; obtain rfl : q = 0 := (by omega); rfl)
      | (exact isRow.one (hG.2 _ (by assumption)).1)
      | skip
    have hl1 := hlo k hkm
    exact ⟨(k + 1, fun i => if i = k then .row u1 Z1 1 (rowAt m k ++ infL m'.length).length (fun j => vi ((rowAt m k ++ infL m'.length).getD j 0)) else F i), ⟨by show k + 1 ≤ m.length; omega, hG.grow (by omega) (by show isRow (rowAt M k) _; rw [hl1]; exact ⟨u1, Z1, rfl⟩) (fun b hb => hZ1 b (zofRow.1 hb)) (fun i hi b hb hb' => by
      obtain ⟨Z', h1, h2⟩ := hb
      exact hD1 Z' (zst_blk (id := 0) (i := i) rfl hi rfl h1) b h2 (zofRow.1 hb'))⟩, by show m.length - (k + 1) < m.length - k; omega, [5], rfl, by decide, by simp [EntSR, SlR, VE, lookup, sc, VE.rfl'], grow_if (lo_ve fun j _ => rfl), trivial⟩
  · obtain rfl : k = m.length := by omega
    repeat' (first | (with_reducible first | refine then_normal ?_ | refine then_ret ?_ | refine then_exit ?_ | refine block_normal ?_ | refine block_ret ?_) | ((with_reducible show blockQ _ _ _ _); first | refine block_exit ?_ | refine block_exit_ne rfl ?_) | ((with_reducible show AWP _ _ _ _ _); first | (with_reducible first | refine AWP.seq ?_ | refine AWP.block ?_ | refine AWP.region ?_ | refine AWP.ret ?_ | refine AWP.exit ?_ | refine AWP.skip ?_) | refine AWP.drawn rfl (by kernel_rfl) ?_ | refine AWP.cond rfl ?_ ?_) | with_reducible refine ev_nil ?_ | ((first | ((with_reducible show evOps _ _ _ _ _ _); (first | refine ev_step rfl ?_ | refine ev_undef rfl rfl rfl ?_); intro K hK) | ((with_reducible show EvOpen _ _ _ _ _ _ _); refine ev_open ?_; intro K hK) | ((with_reducible show SkOpen _ _ _ _ _ _ _); refine sk_open ?_; intro K hK) | ((with_reducible show callK _ _ _ _ _ _ _ _); first | fail)); simp only [evOp, evQ, evB, binK, withS, opd, kput, putS, upd, lookup, argsK, sz_rows, c_ints, List.reverse_cons, List.reverse_nil, List.nil_append, Nat.reduceEqDiff, Nat.reduceLT, Nat.mul_one, Nat.add_zero, ↓reduceIte, eq_self, true_and, Int.toNat_natCast, Option.isSome_some]) | refine ev_guard rfl rfl rfl ?_ ?_ | ((with_reducible show retQ _ _ _ _); simp only [eq_self]) | (with_reducible refine hK _ ?_; clear hK K) | (with_reducible refine And.intro ?_ ?_) | (with_reducible intro hc; try simp only [decide_eq_true_eq, decide_eq_false_iff_not, Int.not_lt] at hc) | omega)
    all_goals try (exfalso; omega; done)
    refine AWP.loop_entR [0] (fun x : Nat × (Nat → V) => ⟨[(0, .one (.pv (rows m))), (5, .one (.own 0 1 0 (m.length + x.1))), (27, .one (.pv (rows m'))), (28, sc (.int .i64 m'.length)), (29, sc (.int .i64 x.1))], [some ⟨34, m.length + x.1, x.2⟩], 43⟩)
      (fun x => x.1 ≤ m'.length ∧ partL N (m.length + m'.length) (m.length + x.1) (fun i => isRow (rowAt M i)) x.2) (fun x => m'.length - x.1) (0, F) ⟨by omega, hG⟩ (by simp [EntR, EntSR, EntHR, SlR, VE, lookup, BE, upd, sc, VE.rfl']) ?_
    rintro ⟨k, F'⟩ ⟨hk, hG'⟩
    have hk : k ≤ m'.length := hk
    have hG' : partL N (m.length + m'.length) (m.length + k) (fun i => isRow (rowAt M i)) F' := hG'
    by_cases hkm : k < m'.length
    · have hrk := hr' k hkm
      repeat' (first | ((with_reducible show evNx _ _ _ _ _ _); first | (with_reducible refine nx_done ?_) | (refine nx_one rfl ?_) | (refine nx_alt rfl ?_ ?_) | (with_reducible refine nx_st ?_)) | ((with_reducible show evSx _ _ _ _ _ _); first | (with_reducible refine sx_done ?_) | (with_reducible refine sx_st ?_) | (with_reducible refine sx_op ?_)) | ((with_reducible show evTake _ _ _ _ _); with_reducible refine take_nil ?_) | ((with_reducible show evSy _ _ _ _ _ _ _); first | (with_reducible refine sy_done ?_) | (refine sy_last rfl ?_) | (refine sy_one (by decide) rfl ?_) | (refine sy_alt (by decide) rfl ?_ ?_) | (with_reducible refine sy_st ?_)) | ((with_reducible show StK _ _ _); first | (refine stk_letRow (letRow_go (t := 38) rfl rfl (by simp) ?_) ; intro u1 Z1 hZ1 hD1 ; simp only [upd, List.set_cons_zero, List.set_cons_succ, Nat.reduceEqDiff, ↓reduceIte, eq_self]) | fail) | (with_reducible first | refine then_normal ?_ | refine then_ret ?_ | refine then_exit ?_ | refine block_normal ?_ | refine block_ret ?_) | ((with_reducible show blockQ _ _ _ _); first | refine block_exit ?_ | refine block_exit_ne rfl ?_) | ((with_reducible show AWP _ _ _ _ _); first | (refine AWP.region_sx (id := 10) [.op, .op, .op, .op, .op, .op, .st, .op, .op, .op] ?_) | (with_reducible first | refine AWP.seq ?_ | refine AWP.block ?_ | refine AWP.region ?_ | refine AWP.ret ?_ | refine AWP.exit ?_ | refine AWP.skip ?_) | refine AWP.drawn rfl (by kernel_rfl) ?_ | refine AWP.cond rfl ?_ ?_) | with_reducible refine ev_nil ?_ | ((first | ((with_reducible show evNx _ _ _ _ _ _); refine nx_take rfl ?_; intro K hK) | ((with_reducible show Ax _ _ _ _ _); first | (refine ax_op rfl ?_; intro K hK)) | ((with_reducible show evTake _ _ _ _ _); refine take_step rfl ?_; intro K hK) | ((with_reducible show evSy _ _ _ _ _ _ _); refine sy_take rfl ?_; intro K hK) | ((with_reducible show AxB _ _ _ _ _); first | (refine axb_op rfl rfl ?_; intro K hK)) | ((with_reducible show evOps _ _ _ _ _ _); (first | refine ev_step rfl ?_ | refine ev_undef rfl rfl rfl ?_); intro K hK) | ((with_reducible show EvOpen _ _ _ _ _ _ _); refine ev_open ?_; intro K hK) | ((with_reducible show SkOpen _ _ _ _ _ _ _); refine sk_open ?_; intro K hK) | ((with_reducible show callK _ _ _ _ _ _ _ _); first  | (refine call_safe ( infinities_fn m.length (by omega)) (Nat.le_of_ble_eq_true rfl) (by repeat' (first | ((with_reducible show evNx _ _ _ _ _ _); first | (with_reducible refine nx_done ?_) | (refine nx_one rfl ?_) | (refine nx_alt rfl ?_ ?_) | (with_reducible refine nx_st ?_)) | ((with_reducible show evSx _ _ _ _ _ _); first | (with_reducible refine sx_done ?_) | (with_reducible refine sx_st ?_) | (with_reducible refine sx_op ?_)) | ((with_reducible show evTake _ _ _ _ _); with_reducible refine take_nil ?_) | ((with_reducible show evSy _ _ _ _ _ _ _); first | (with_reducible refine sy_done ?_) | (refine sy_last rfl ?_) | (refine sy_one (by decide) rfl ?_) | (refine sy_alt (by decide) rfl ?_ ?_) | (with_reducible refine sy_st ?_)) | ((with_reducible show StK _ _ _); first | (refine stk_letRow (letRow_go (t := 38) rfl rfl (by simp) ?_) ; intro u1 Z1 hZ1 hD1 ; simp only [eq_self]) | fail) | exact trivial | refine ⟨fun _ _ => ⟨_, rfl⟩, ?_⟩)) ?_))); simp only [evOp, evQ, evB, binK, withS, opd, kput, putS, upd, lookup, argsK, bringIn, bring, Res.list, Res.slot, InK_i64, appendK, srcK, growK, frz, newBlk, partsK, buildSliceK, plSlice, V.one, Value.oneCell', List.set_cons_zero, List.set_cons_succ, ei_ints, sz_rows, c_ints, ei_rows, ea_rows, List.getElem?_cons_zero, List.getElem?_cons_succ, List.reverse_cons, List.reverse_nil, List.nil_append, List.cons_append, List.length_cons, List.length_nil, Nat.reduceEqDiff, Nat.reduceAdd, Nat.reduceLT, Nat.reduceLeDiff, Nat.mul_one, Nat.add_zero, Nat.zero_add, Nat.mod_one, List.getD_cons_zero, ↓reduceIte, eq_self, true_and, Bool.false_eq_true, forall_const, implies_true, Int.toNat_natCast, Option.isSome_some]) | refine ev_guard rfl rfl rfl ?_ ?_ | ((with_reducible show retQ _ _ _ _); simp only [eq_self]) | (with_reducible refine hK _ ?_; clear hK K) | (with_reducible refine And.intro ?_ ?_) | (with_reducible intro hc; try simp only [decide_eq_true_eq, decide_eq_false_iff_not, Int.not_lt] at hc) | omega)
      all_goals first
        | (exfalso; omega)
        | omega
        | (rename_i q; obtain rfl : q = 0 := (by omega); rfl)
        | (exact isRow.one (hG'.2 _ (by assumption)).1)
        | skip
      have hl1 := hhi k hkm
      exact ⟨(k + 1, fun i => if i = m.length + k then .row u1 Z1 1 (infL m.length ++ rowAt m' k).length (fun j => vi ((infL m.length ++ rowAt m' k).getD j 0)) else F' i), ⟨by show k + 1 ≤ m'.length; omega, hG'.grow (by omega) (by show isRow (rowAt M (m.length + k)) _; rw [hl1]; exact ⟨u1, Z1, rfl⟩) (fun b hb => hZ1 b (zofRow.1 hb)) (fun i hi b hb hb' => by
        obtain ⟨Z', h1, h2⟩ := hb
        exact hD1 Z' (zst_blk (id := 0) (i := i) rfl hi rfl h1) b h2 (zofRow.1 hb'))⟩, by show m'.length - (k + 1) < m'.length - k; omega, [4], rfl, by decide, by simp [EntSR, SlR, VE, lookup, sc, VE.rfl', Nat.add_assoc], grow_if (hi_ve fun j _ => rfl), trivial⟩
    · obtain rfl : k = m'.length := by omega
      repeat' (first | (with_reducible first | refine then_normal ?_ | refine then_ret ?_ | refine then_exit ?_ | refine block_normal ?_ | refine block_ret ?_) | ((with_reducible show blockQ _ _ _ _); first | refine block_exit ?_ | refine block_exit_ne rfl ?_) | ((with_reducible show AWP _ _ _ _ _); first | (with_reducible first | refine AWP.seq ?_ | refine AWP.block ?_ | refine AWP.region ?_ | refine AWP.ret ?_ | refine AWP.exit ?_ | refine AWP.skip ?_) | refine AWP.drawn rfl (by kernel_rfl) ?_ | refine AWP.cond rfl ?_ ?_) | with_reducible refine ev_nil ?_ | ((first | ((with_reducible show evOps _ _ _ _ _ _); (first | refine ev_step rfl ?_ | refine ev_undef rfl rfl rfl ?_); intro K hK) | ((with_reducible show EvOpen _ _ _ _ _ _ _); refine ev_open ?_; intro K hK) | ((with_reducible show SkOpen _ _ _ _ _ _ _); refine sk_open ?_; intro K hK) | ((with_reducible show callK _ _ _ _ _ _ _ _); first | fail)); simp only [evOp, evQ, evB, binK, withS, opd, kput, putS, upd, lookup, argsK, sz_rows, c_ints, List.reverse_cons, List.reverse_nil, List.nil_append, Nat.reduceEqDiff, Nat.reduceLT, Nat.mul_one, Nat.add_zero, ↓reduceIte, eq_self, true_and, Int.toNat_natCast, Option.isSome_some]) | refine ev_guard rfl rfl rfl ?_ ?_ | ((with_reducible show retQ _ _ _ _); simp only [eq_self]) | (with_reducible refine hK _ ?_; clear hK K) | (with_reducible refine And.intro ?_ ?_) | (with_reducible intro hc; try simp only [decide_eq_true_eq, decide_eq_false_iff_not, Int.not_lt] at hc) | omega)
      all_goals try (exfalso; omega; done)
      refine ⟨_, ⟨F', fun i hi => ⟨(hG'.2 i hi).1, (hG'.2 i hi).2.2⟩, rfl⟩, ⟨fun i hi => NewV.of_zof (isRow.new (hG'.2 i hi).1) (hG'.2 i hi).2.1, trivial⟩, ?_⟩
      · simp only [retOk, getL, lookup, Option.map_some, fitsL, fits, ND, srcs, Res.list, List.getElem?_cons_zero, Nat.reduceEqDiff, ↓reduceIte, and_true, true_and]
        exact ⟨⟨_, rfl, BE.rfl' _⟩, by simp⟩
      all_goals trace_state

end Go.Proofs.Ytpimjkhfookipaa
