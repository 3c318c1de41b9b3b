/- Sorting bytes in place: the breaking of patterns. Conditions: no more than 2^40 bytes. -/
import Derived.Test.YteapdildbfimnaaFnSrt8
import Derived.Shelf.SlSortCmp.Xorshift
import Derived.Deep.LoopGhost
import Derived.Sort.WalkB2
import Derived.Sort.WalkB12
namespace Go.Proofs
open Go.Shelf
def Try.byteSort_ren : Go.Shelf.Ren := ⟨fun | 15 => 94 | 28 => 138 | 29 => 139 | 47 => 164 | 48 => 165 | n => n,
  fun | 0 => 0 | 3 => 3 | 4 => 4 | 5 => 5 | 9 => 9 | 39 => 119 | 53 => 151 | 55 => 71 | 66 => 165 | 76 => 173 | n => n, fun n => n⟩
set_option maxRecDepth 100000 in
theorem Try.byteSort47 : SlLaysF0.n47 Try.prog Try.byteSort_ren := {
  mixed := by kernel_rfl
  f15 := Try.func94.trans (congrArg some (by kernel_rfl))
  f28 := Try.func138.trans (congrArg some (by kernel_rfl))
  f29 := Try.func139.trans (congrArg some (by kernel_rfl))
  f47 := Try.func164.trans (congrArg some (by kernel_rfl))
  t3 := Try.underlying3
  a3 := Try.isAgg3
  z3 := Try.sizeOf3
  v3 := Try.zeroValue3
  t4 := Try.underlying4
  a4 := Try.isAgg4
  z4 := Try.sizeOf4
  v4 := Try.zeroValue4
  t5 := Try.underlying5
  a5 := Try.isAgg5
  z5 := Try.sizeOf5
  v5 := Try.zeroValue5
  t9 := Try.underlying9
  a9 := Try.isAgg9
  z9 := Try.sizeOf9
  v9 := Try.zeroValue9
  t39 := Try.underlying119
  a39 := Try.isAgg119
  z39 := Try.sizeOf119
  v39 := Try.zeroValue119
  t53 := Try.underlying151
  a53 := Try.isAgg151
  z53 := Try.sizeOf151
  v53 := Try.zeroValue151
  t55 := Try.underlying71
  a55 := Try.isAgg71
  z55 := Try.sizeOf71
  v55 := Try.zeroValue71
}
set_option maxRecDepth 100000 in
theorem Try.byteSort48 : SlLaysF0.n48 Try.prog Try.byteSort_ren := {
  mixed := by kernel_rfl
  f48 := Try.func165.trans (congrArg some (by kernel_rfl))
  t0 := Try.underlying0
  a0 := Try.isAgg0
  z0 := Try.sizeOf0
  v0 := Try.zeroValue0
  t39 := Try.underlying119
  a39 := Try.isAgg119
  z39 := Try.sizeOf119
  v39 := Try.zeroValue119
  t55 := Try.underlying71
  a55 := Try.isAgg71
  z55 := Try.sizeOf71
  v55 := Try.zeroValue71
  t66 := Try.underlying165
  a66 := Try.isAgg165
  z66 := Try.sizeOf165
  v66 := Try.zeroValue165
  t76 := Try.underlying173
  a76 := Try.isAgg173
  z76 := Try.sizeOf173
  v76 := Try.zeroValue173
}
end Go.Proofs
namespace Go.Proofs.Yteapdildbfimnaa
open Go.Shelf Go.RowKit Go.Proofs Go.Sort Go.Lib
set_option linter.unusedSimpArgs false
set_option linter.unusedVariables false
set_option maxRecDepth 20000

theorem nextPow (n : Nat) (hn : n < 4611686018427387904) (w : World) : Calls Try.prog 164 #[.int .i64 n] w fun e w' => e = .returned (.int .u64 ((1 <<< bitsLen n : Nat) : Int)) ∧ w' = w := AnyF.nextPowerOfTwo Try.byteSort47 n hn w
theorem xorNext_w (pb X : Nat) (hX : X < 18446744073709551616) (w : World) (hc : w.cell? ⟨pb, 0, none⟩ = some (.int .u64 X)) (hf : w.frozen? ⟨pb, 0, none⟩ = false) :
    Calls Try.prog 165 #[.pointer (some ⟨pb, 0, none⟩)] w fun e w' => e = .returned (.int .u64 (xorNextN X : Nat)) ∧ w' = (w.setCell ⟨pb, 0, none⟩ (.int .u64 (xorNextN X : Nat))).drewN 3 := AnyF.xorshift_Next Try.byteSort48 pb 0 X hX w hc hf

structure Bp (bk n c : Nat) (e : TypeId) (a b : Nat) (d : Nat → Int) (W0 : World) (d' : Nat → Int) (X : Nat) (w : World) : Prop where
  ab : AllBut bk W0 w
  lt : bk < W0.heap.size
  pm : Pm a b d d'
  cur : ∃ cur : Array Value, Gb w bk e cur ∧ cur.size = c ∧ ∀ i, i < n → cur[i]? = some (.int .u8 (d' i))
  hX : X < 18446744073709551616
  rx : ∃ e2, w.heap[W0.heap.size]? = some (.cells #[.int .u64 X] e2 (0, 0))

section
variable {bk n c : Nat} {e : TypeId} {a b : Nat} {d : Nat → Int} {W0 : World} {d' : Nat → Int} {X : Nat} {w : World}
theorem Bp.at (h : Bp bk n c e a b d W0 d' X w) {i : Nat} (hi : i < n) : w.cell? ⟨bk, i, none⟩ = some (.int .u8 (d' i)) := by
  obtain ⟨cur, h1, h2, h3⟩ := h.cur
  exact h1.cell (h3 i hi)
theorem Bp.fz (h : Bp bk n c e a b d W0 d' X w) {i : Nat} (hi : i < n) : w.frozen? ⟨bk, i, none⟩ = false := by
  obtain ⟨cur, h1, h2, h3⟩ := h.cur
  exact h1.fz (Array.getElem?_eq_some_iff.1 (h3 i hi)).1
theorem Bp.rc (h : Bp bk n c e a b d W0 d' X w) : w.cell? ⟨W0.heap.size, 0, none⟩ = some (.int .u64 X) := by
  obtain ⟨e2, h1⟩ := h.rx
  exact cell_of_blk h1 rfl
theorem Bp.rf (h : Bp bk n c e a b d W0 d' X w) : w.frozen? ⟨W0.heap.size, 0, none⟩ = false := by
  obtain ⟨e2, h1⟩ := h.rx
  simp [World.frozen?, h1]
theorem Bp.next (h : Bp bk n c e a b d W0 d' X w) (Y : Nat) (hY : Y < 18446744073709551616) : Bp bk n c e a b d W0 d' Y ((w.setCell ⟨W0.heap.size, 0, none⟩ (.int .u64 (Y : Nat))).drewN 3) := by
  obtain ⟨e2, h1⟩ := h.rx
  obtain ⟨cur, k1, k2, k3⟩ := h.cur
  have hl := h.lt
  refine ⟨⟨h.ab.os, h.ab.tape, h.ab.output, by show W0.heap.size ≤ (w.setCell _ _).heap.size; rw [setCell_size]; exact h.ab.size, fun j hj hne => ?_⟩, h.lt, h.pm, ⟨cur, ?_, k2, k3⟩, hY, ⟨e2, ?_⟩⟩
  · show (w.setCell _ _).heap[j]? = _
    rw [Below.heap_setCell _ _ _ _ (by show j ≠ W0.heap.size; omega)]
    exact h.ab.oth j hj hne
  · refine k1.congr ?_
    show (w.setCell _ _).heap[bk]? = _
    rw [Below.heap_setCell _ _ _ _ (by show bk ≠ W0.heap.size; omega)]
  · show (w.setCell _ _).heap[W0.heap.size]? = _
    rw [setCell_at h1]
    rfl
theorem Bp.c2 (h : Bp bk n c e a b d W0 d' X w) {i j : Nat} (hi : i < n) (hj : j < n) (v : Value) : ∃ u, (w.setCell ⟨bk, i, none⟩ v).cell? ⟨bk, j, none⟩ = some u := by
  by_cases e1 : i = j
  · subst e1; exact ⟨v, World.cell?_setCell_same _ _ _ (h.at hi)⟩
  · exact ⟨_, (World.cell?_setCell_other _ _ _ _ (by intro e'; simp only [Addr.mk.injEq] at e'; omega)).trans (h.at hj)⟩
theorem Bp.swap (h : Bp bk n c e a b d W0 d' X w) {i j : Nat} (hbn : b ≤ n) (hi : a ≤ i ∧ i < b) (hj : a ≤ j ∧ j < b) : Bp bk n c e a b d W0 (swF d' i j) X (((w.setCell ⟨bk, i, none⟩ (.int .u8 (d' j))).setCell ⟨bk, j, none⟩ (.int .u8 (d' i))).drew) := by
  obtain ⟨e2, h1⟩ := h.rx
  obtain ⟨cur, k1, k2, k3⟩ := h.cur
  have hl := h.lt
  refine ⟨⟨h.ab.os, h.ab.tape, h.ab.output, by show W0.heap.size ≤ ((w.setCell _ _).setCell _ _).heap.size; rw [setCell_size, setCell_size]; exact h.ab.size, fun k hk hne => ?_⟩, h.lt, h.pm.trans (Pm.sw d' hi hj), ⟨(cur.setIfInBounds i (.int .u8 (d' j))).setIfInBounds j (.int .u8 (d' i)), ?_, by simpa using k2, fun k hk => ?_⟩, h.hX, ⟨e2, ?_⟩⟩
  · show ((w.setCell _ _).setCell _ _).heap[k]? = _
    rw [Below.heap_setCell _ _ _ _ hne, Below.heap_setCell _ _ _ _ hne]
    exact h.ab.oth k hk hne
  · exact ((k1.set i _).set j _).congr rfl
  · have hc := k3 k hk
    have hci := k3 i (by omega)
    have hcj := k3 j (by omega)
    obtain ⟨li, _⟩ := Array.getElem?_eq_some_iff.1 hci
    obtain ⟨lj, _⟩ := Array.getElem?_eq_some_iff.1 hcj
    unfold swF
    by_cases ej : k = j
    · subst ej
      rw [Array.getElem?_setIfInBounds_self_of_lt (by simpa using lj)]
      by_cases ei : k = i
      · rw [if_pos ei, ei]
      · rw [if_neg ei, if_pos rfl]
    · rw [Array.getElem?_setIfInBounds_ne (fun h => ej h.symm)]
      by_cases ei : k = i
      · subst ei
        rw [Array.getElem?_setIfInBounds_self_of_lt li, if_pos rfl]
      · rw [Array.getElem?_setIfInBounds_ne (fun h => ei h.symm), if_neg ei, if_neg ej]
        exact hc
  · show ((w.setCell _ _).setCell _ _).heap[W0.heap.size]? = _
    rw [Below.heap_setCell _ _ _ _ (by show W0.heap.size ≠ bk; omega), Below.heap_setCell _ _ _ _ (by show W0.heap.size ≠ bk; omega)]
    exact h1
end
end Go.Proofs.Yteapdildbfimnaa
