/- The sort of terms (slices.SortFunc out of the library's shelf) as a callee that writes its argument's block. Conditions: terms of small numbers. -/
import Derived.Test.YtpimjkhfookipaaEngM
import Derived.Test.YtpimjkhfookipaaPureMx
import Derived.Test.YtpimjkhfookipaaTy
import Derived.Shelf.SlSortCmp.NoneTotal
namespace Go.Proofs
open Go.Shelf
def Try.sortTerm_ren : Go.Shelf.Ren := ⟨fun | 6 => 258 | 15 => 189 | 14 => 284 | 28 => 252 | 29 => 253 | 20 => 295 | 21 => 296 | 22 => 297 | 23 => 298 | 24 => 299 | 25 => 300 | 26 => 301 | 27 => 302 | 46 => 305 | 47 => 279 | 48 => 280 | 49 => 306 | 50 => 307 | 57 => 308 | n => n, fun | 22 => 63 | 24 => 143 | 25 => 193 | 3 => 3 | 39 => 186 | 0 => 0 | 53 => 218 | 55 => 111 | 4 => 4 | 46 => 211 | 45 => 210 | 50 => 24 | 5 => 5 | 9 => 9 | 66 => 227 | 70 => 231 | 76 => 235 | 77 => 236 | n => n, fun | n => n⟩
set_option maxRecDepth 100000 in
theorem Try.sortTerm : SlLaysF0.n6 Try.prog Try.sortTerm_ren := {
  mixed := by kernel_rfl
  f6 := ⟨Try.f258.name, by decide, Try.func258.trans (congrArg some (by kernel_rfl))⟩
  f14 := ⟨Try.f284.name, by decide, Try.func284.trans (congrArg some (by kernel_rfl))⟩
  f15 := Try.func189.trans (congrArg some (by kernel_rfl))
  f20 := ⟨Try.f295.name, by decide, Try.func295.trans (congrArg some (by kernel_rfl))⟩
  f21 := ⟨Try.f296.name, by decide, Try.func296.trans (congrArg some (by kernel_rfl))⟩
  f22 := ⟨Try.f297.name, by decide, Try.func297.trans (congrArg some (by kernel_rfl))⟩
  f23 := ⟨Try.f298.name, by decide, Try.func298.trans (congrArg some (by kernel_rfl))⟩
  f24 := ⟨Try.f299.name, by decide, Try.func299.trans (congrArg some (by kernel_rfl))⟩
  f25 := ⟨Try.f300.name, by decide, Try.func300.trans (congrArg some (by kernel_rfl))⟩
  f26 := ⟨Try.f301.name, by decide, Try.func301.trans (congrArg some (by kernel_rfl))⟩
  f27 := ⟨Try.f302.name, by decide, Try.func302.trans (congrArg some (by kernel_rfl))⟩
  f28 := Try.func252.trans (congrArg some (by kernel_rfl))
  f29 := Try.func253.trans (congrArg some (by kernel_rfl))
  f46 := ⟨Try.f305.name, by decide, Try.func305.trans (congrArg some (by kernel_rfl))⟩
  f47 := Try.func279.trans (congrArg some (by kernel_rfl))
  f48 := Try.func280.trans (congrArg some (by kernel_rfl))
  f49 := ⟨Try.f306.name, by decide, Try.func306.trans (congrArg some (by kernel_rfl))⟩
  f50 := ⟨Try.f307.name, by decide, Try.func307.trans (congrArg some (by kernel_rfl))⟩
  f57 := ⟨Try.f308.name, by decide, Try.func308.trans (congrArg some (by kernel_rfl))⟩
  t0 := Try.underlying0
  a0 := Try.isAgg0
  z0 := Try.sizeOf0
  v0 := Try.zeroValue0
  t3 := Try.underlying3
  a3 := Try.isAgg3
  z3 := Try.sizeOf3
  v3 := Try.zeroValue3
  t4 := Try.underlying4
  a4 := Try.isAgg4
  z4 := Try.sizeOf4
  v4 := Try.zeroValue4
  t5 := Try.underlying5
  a5 := Try.isAgg5
  z5 := Try.sizeOf5
  v5 := Try.zeroValue5
  t9 := Try.underlying9
  a9 := Try.isAgg9
  z9 := Try.sizeOf9
  v9 := Try.zeroValue9
  t22 := Try.underlying63
  a22 := Try.isAgg63
  z22 := Try.sizeOf63
  v22 := Try.zeroValue63
  t25 := Try.underlying193
  a25 := Try.isAgg193
  z25 := Try.sizeOf193
  v25 := Try.zeroValue193
  t39 := Try.underlying186
  a39 := Try.isAgg186
  z39 := Try.sizeOf186
  v39 := Try.zeroValue186
  t45 := Try.underlying210
  a45 := Try.isAgg210
  z45 := Try.sizeOf210
  v45 := Try.zeroValue210
  t46 := Try.underlying211
  a46 := Try.isAgg211
  z46 := Try.sizeOf211
  v46 := Try.zeroValue211
  t50 := Try.underlying24
  a50 := Try.isAgg24
  z50 := Try.sizeOf24
  v50 := Try.zeroValue24
  t53 := Try.underlying218
  a53 := Try.isAgg218
  z53 := Try.sizeOf218
  v53 := Try.zeroValue218
  t55 := Try.underlying111
  a55 := Try.isAgg111
  z55 := Try.sizeOf111
  v55 := Try.zeroValue111
  t66 := Try.underlying227
  a66 := Try.isAgg227
  z66 := Try.sizeOf227
  v66 := Try.zeroValue227
  t70 := Try.underlying231
  a70 := Try.isAgg231
  z70 := Try.sizeOf231
  v70 := Try.zeroValue231
  t76 := Try.underlying235
  a76 := Try.isAgg235
  z76 := Try.sizeOf235
  v76 := Try.zeroValue235
  t77 := Try.underlying236
  a77 := Try.isAgg236
  z77 := Try.sizeOf236
  v77 := Try.zeroValue236 }

end Go.Proofs
namespace Go.Proofs.Ytpimjkhfookipaa
open Go.RowKit Go.Proofs Go.Sort
set_option linter.unusedSimpArgs false
set_option linter.unusedVariables false

/-- A term of small numbers. -/
def TB (t : T3) : Prop := -1000000 ≤ t.1 ∧ t.1 ≤ 1000000 ∧ -1000000 ≤ t.2.1 ∧ t.2.1 ≤ 1000000 ∧ -1000000 ≤ t.2.2 ∧ t.2.2 ≤ 1000000
abbrev TS := {t : T3 // TB t}
instance tsInh : Inhabited TS := ⟨⟨(0, 0, 0), by unfold TB; decide⟩⟩
def encT (x : TS) : List Value := [.int .i64 x.1.1, .int .i64 x.1.2.1, .int .i64 x.1.2.2]
def cfT (x y : TS) : Int := if cmpI x.1 y.1 = 0 then x.1.2.2 - y.1.2.2 else cmpI x.1 y.1
/-- The order of terms, their last numbers last. -/
def lt0 (a b : T3) : Bool := decide (a.1 < b.1 ∨ (a.1 = b.1 ∧ (a.2.1 < b.2.1 ∨ (a.2.1 = b.2.1 ∧ a.2.2 < b.2.2))))
theorem lt0_iff {a b : T3} : lt0 a b = true ↔ a.1 < b.1 ∨ (a.1 = b.1 ∧ (a.2.1 < b.2.1 ∨ (a.2.1 = b.2.1 ∧ a.2.2 < b.2.2))) := by unfold lt0; exact decide_eq_true_iff
theorem lt0_no {a b : T3} : lt0 a b = false ↔ ¬ (a.1 < b.1 ∨ (a.1 = b.1 ∧ (a.2.1 < b.2.1 ∨ (a.2.1 = b.2.1 ∧ a.2.2 < b.2.2)))) := by unfold lt0; exact decide_eq_false_iff_not
theorem ltT (x y : TS) : ltOf cfT x y = lt0 x.1 y.1 := by
  obtain ⟨⟨x1, x2, x3⟩, hx⟩ := x
  obtain ⟨⟨y1, y2, y3⟩, hy⟩ := y
  unfold ltOf cfT lt0 cmpI
  simp only
  by_cases h1 : x1 = y1
  · subst h1
    by_cases h2 : x2 = y2
    · subst h2; simp; omega
    · simp [h2, show ¬ x2 - y2 = 0 by omega]; omega
  · simp [h1, show ¬ x1 - y1 = 0 by omega]; omega
theorem swoT : SWO (ltOf cfT) where
  irrefl x := by rw [ltT, lt0_no]; omega
  trans x y z h1 h2 := by rw [ltT, lt0_iff] at *; omega
  ntrans x y z h1 h2 := by rw [ltT, lt0_no] at *; omega
theorem totT : ∀ x y : TS, ltOf cfT x y = false → ltOf cfT y x = false → x = y := fun x y h1 h2 => by
  rw [ltT, lt0_no] at h1 h2
  exact Subtype.ext (Prod.ext (by omega) (Prod.ext (by omega) (by omega)))
def srt (l : List T3) : List T3 := l.mergeSort fun x y => !lt0 y x
@[simp] theorem srt_len (l : List T3) : (srt l).length = l.length := List.length_mergeSort _

set_option maxHeartbeats 1000000 in
theorem compareTerms_walk (x y : TS) (W : World) : Calls Try.prog 209 #[.agg (encT x).toArray, .agg (encT y).toArray] W fun e w' => e = .returned (.int .i64 (cmpI x.1 y.1)) ∧ ∃ q os', w' = grow (W.drewN q) os' := by
  obtain ⟨⟨x1, x2, x3⟩, hx⟩ := x
  obtain ⟨⟨y1, y2, y3⟩, hy⟩ := y
  unfold TB at hx hy
  simp only at hx hy
  unfold encT cmpI
  simp only
  by_cases h1 : x1 = y1
  · subst h1
    simp only [if_true]
    go_enter Try.func209, Try.ntmps209
    go_wp2
    all_goals first
      | (exfalso; simp_all; done)
      | (go_ret; exact ⟨rfl, 0, _, by rw [alloc_eq_grow, alloc_eq_grow, grow_grow]; rfl⟩)
      | (go_ret; trace_state)
      | trace_state
  · rw [if_neg h1]
    go_enter Try.func209, Try.ntmps209
    go_wp2
    all_goals first
      | (exfalso; simp_all; done)
      | (go_ret; exact ⟨rfl, 0, _, by rw [alloc_eq_grow, alloc_eq_grow, grow_grow]; rfl⟩)
      | (go_ret; trace_state)
      | trace_state

theorem grow_more (w : World) (a b : Obj) (q : Nat) (os : Array Obj) : ∃ q' os', grow (((w.alloc a).alloc b).drewN q) os = grow (w.drewN q') os' :=
  ⟨q, #[a] ++ #[b] ++ os, by rw [alloc_eq_grow, alloc_eq_grow, grow_grow]; show grow (grow (w.drewN q) _) os = _; rw [grow_grow]⟩

set_option maxHeartbeats 1000000 in
theorem cmp_walk (x y : TS) (W : World) : Calls Try.prog 259 #[.agg (encT x).toArray, .agg (encT y).toArray] W fun e w' => e = .returned (.int .i64 (cfT x y)) ∧ ∃ q os', w' = grow (W.drewN q) os' := by
  have hcon := fun W' => compareTerms_walk x y W'
  obtain ⟨⟨x1, x2, x3⟩, hx⟩ := x
  obtain ⟨⟨y1, y2, y3⟩, hy⟩ := y
  unfold TB at hx hy
  simp only at hx hy
  unfold encT cfT at *
  simp only at *
  generalize cmpI (x1, x2, x3) (y1, y2, y3) = r at *
  by_cases h1 : r = 0
  · subst h1
    simp only [if_true]
    have c1 : ∀ q os, (grow (((W.alloc (.cells #[.int .i64 x1, .int .i64 x2, .int .i64 x3] 143)).alloc (.cells #[.int .i64 y1, .int .i64 y2, .int .i64 y3] 143)).drewN q) os).cell? ⟨W.heap.size, 2, none⟩ = some (.int .i64 x3) := fun q os => by
      rw [cell?_grow _ _ _ (by show W.heap.size < ((W.heap.push _).push _).size; simp; omega)]
      show World.cell? { W with drawn := W.drawn + q, heap := (W.heap.push _).push _ } _ = _
      unfold World.cell?
      simp only
      rw [Array.getElem?_push_lt (by simp)]
      simp
    have c2 : ∀ q os, (grow (((W.alloc (.cells #[.int .i64 x1, .int .i64 x2, .int .i64 x3] 143)).alloc (.cells #[.int .i64 y1, .int .i64 y2, .int .i64 y3] 143)).drewN q) os).cell? ⟨W.heap.size + 1, 2, none⟩ = some (.int .i64 y3) := fun q os => by
      rw [cell?_grow _ _ _ (by show W.heap.size + 1 < ((W.heap.push _).push _).size; simp)]
      show World.cell? { W with drawn := W.drawn + q, heap := (W.heap.push _).push _ } _ = _
      unfold World.cell?
      simp only
      have e : ((W.heap.push (.cells #[.int .i64 x1, .int .i64 x2, .int .i64 x3] 143)).push (.cells #[.int .i64 y1, .int .i64 y2, .int .i64 y3] 143))[W.heap.size + 1]? = some (Obj.cells #[.int .i64 y1, .int .i64 y2, .int .i64 y3] 143) := by
        have := Array.getElem?_push_size (xs := W.heap.push (.cells #[.int .i64 x1, .int .i64 x2, .int .i64 x3] 143)) (x := Obj.cells #[.int .i64 y1, .int .i64 y2, .int .i64 y3] 143)
        simpa using this
      rw [e]
      rfl
    go_enter Try.func259, Try.ntmps259
    go_wp2_with (go_at_call 209; refine (hcon _).mono ?_; rintro e w' ⟨rfl, q, os, rfl⟩)
    all_goals first
      | (exfalso; simp_all; done)
      | (go_ret; exact ⟨rfl, grow_more _ _ _ _ _⟩)
      | (go_ret; trace_state)
      | trace_state
  · rw [if_neg h1]
    go_enter Try.func259, Try.ntmps259
    go_wp2_with (go_at_call 209; refine (hcon _).mono ?_; rintro e w' ⟨rfl, q, os, rfl⟩)
    all_goals first
      | (exfalso; simp_all; done)
      | (go_ret; exact ⟨rfl, grow_more _ _ _ _ _⟩)
      | (go_ret; trace_state)
      | trace_state

theorem cmpLaysT (blk off size : Nat) (w : World) : CmpLays Try.prog 259 #[] encT 3 cfT blk off size w := fun _ _ _ _ x y => by
  simpa using cmp_walk x y _

/-- The terms, each with its bounds. -/
def tsL (l : List T3) (h : ∀ t ∈ l, TB t) : List TS := l.pmap (fun t ht => ⟨t, ht⟩) h
theorem tsL_val (l : List T3) (h : ∀ t ∈ l, TB t) : (tsL l h).map Subtype.val = l := by
  unfold tsL; rw [List.map_pmap]; simp
theorem tsL_len (l : List T3) (h : ∀ t ∈ l, TB t) : (tsL l h).length = l.length := by simp [tsL]
theorem srt_ts (l : List T3) (h : ∀ t ∈ l, TB t) : ((tsL l h).mergeSort fun x y => !(ltOf cfT) y x).map Subtype.val = srt l := by
  rw [List.map_mergeSort (s := fun x y => !lt0 y x) (fun a _ b _ => by rw [ltT]), tsL_val]
  rfl

theorem flat_get (l : List TS) (i : Nat) (hi : i < l.length * 3) : (flatK encT 3 l.toArray)[i]! = .int .i64 (tf (l.map Subtype.val) i) := by
  rw [get_flatK _ _ _ _ (by simpa using hi)]
  have hlt : i / 3 < l.length := by omega
  have e : l.toArray[i / 3]! = l[i / 3] := by rw [getElem!_pos _ _ (by simpa using hlt)]; simp
  have et : tAt (l.map Subtype.val) (i / 3) = (l[i / 3]).1 := by simp [tAt, List.getD, hlt]
  rw [e]
  unfold encT tf
  rw [et]
  have h3 : i % 3 = 0 ∨ i % 3 = 1 ∨ i % 3 = 2 := by omega
  rcases h3 with h | h | h <;> rw [h] <;> rfl

theorem frozen_no {w : World} {b j : Nat} {c : Array Value} {e : TypeId} (h : w.heap[b]? = some (.cells c e (0, 0))) : w.frozen? ⟨b, j, none⟩ = false := by
  simp [World.frozen?, h]

theorem sort_mv (l : List T3) (h : ∀ t ∈ l, TB t) (hl : l.length ≤ 1099511627776) :
    FnMv Try.prog 258 l.length ⟨143, l.length * 3, fun i => vi (tf l i)⟩ ⟨143, l.length * 3, fun i => vi (tf (srt l) i)⟩ (.func (.func 259) #[] #[]) (.tuple #[]) := by
  have eg : ∀ args w, (callFunc 259 args).run Try.prog w = .ok (.enter 259 args) w := Try.call259
  refine ⟨Try.call258, rfl, Nat.le_refl _, fun h0 w hg => ?_, fun i hi => ⟨_, rfl⟩, fun w b c cur hg hcur hn hcs hc => ?_⟩
  · have hcon := AnyF.slices_SortFunc_none Try.sortTerm none 0 (.func (.func 259) #[] #[]) w
    change Calls Try.prog 258 _ _ _ at hcon
    refine hcon.mono ?_
    rintro e w' ⟨rfl, rfl⟩
    exact ⟨rfl, Below.refl _ _⟩
  · have hn : l.length * 3 ≤ cur.size := hn
    have hcs : ∀ i, i < l.length * 3 → cur[i]? = some (.int .i64 (tf l i)) := fun i hi => by
      obtain ⟨x, h1, h2⟩ := hcs i hi
      injection h2 with h2
      rw [h1, ← h2]
    have hsz : (tsL l h).toArray.size = l.length := by simp [tsL_len]
    have hH : HoldsK encT 3 w b 0 (tsL l h).toArray := fun j hj => by
      have hj : j < l.length * 3 := by rw [size_flatK, hsz] at hj; exact hj
      refine ⟨?_, frozen_no hcur⟩
      rw [flat_get _ _ (by rw [tsL_len]; exact hj), tsL_val]
      show World.cell? w ⟨b, 0 + j, none⟩ = some (id _)
      rw [Nat.zero_add]
      exact cell_of_blk hcur (hcs j hj)
    have hcon := AnyQ.slices_SortFunc_total Try.sortTerm 3 Try.isAgg143 Try.sizeOf143 encT (fun _ => rfl) (fun x v hv => by simp [encT] at hv; rcases hv with rfl | rfl | rfl <;> rfl) cfT swoT 259 #[] b 0 c (tsL l h).toArray w eg (cmpLaysT b 0 _ w) hH (block_lt hcur) (by rw [hsz]; omega) totT
    change Calls Try.prog 258 _ _ _ at hcon
    rw [hsz] at hcon
    refine hcon.mono ?_
    rintro e w' ⟨rfl, n, os, rfl⟩
    generalize hd : ((tsL l h).toArray.toList.mergeSort fun x y => !(ltOf cfT) y x) = d'
    have hd1 : d'.map Subtype.val = srt l := by rw [← hd]; exact srt_ts l h
    have hdl : d'.length = l.length := by rw [← hd]; simp [tsL_len]
    have hblk : b < w.heap.size := block_lt hcur
    have hput : (putRowK encT 3 (Go.Sort.ahead w n) b 0 d'.toArray).heap = w.heap.modify b (onCells (putCells id 0 (flatK encT 3 d'.toArray))) := rfl
    have hps : (putRowK encT 3 (Go.Sort.ahead w n) b 0 d'.toArray).heap.size = w.heap.size := by rw [hput]; simp
    have hat : ∀ k, k < w.heap.size → (sortWorldK encT 3 w b 0 n d'.toArray os).heap[k]? = (w.heap.modify b (onCells (putCells id 0 (flatK encT 3 d'.toArray))))[k]? := fun k hk => by
      show ((putRowK encT 3 (Go.Sort.ahead w n) b 0 d'.toArray).heap ++ os)[k]? = _
      rw [Array.getElem?_append_left (by rw [hps]; exact hk)]; rfl
    refine ⟨rfl, ⟨rfl, rfl, rfl, ?_, fun k hk hne => ?_⟩, putCells id 0 (flatK encT 3 d'.toArray) cur, ?_, ?_, fun i hi => ?_⟩
    · show w.heap.size ≤ ((putRowK encT 3 (Go.Sort.ahead w n) b 0 d'.toArray).heap ++ os).size
      rw [Array.size_append, hps]; omega
    · rw [hat k hk, Array.getElem?_modify, if_neg (fun e => hne e.symm)]
    · rw [hat b hblk, Array.getElem?_modify, if_pos rfl, hcur]; rfl
    · simp [putCells]
    · have hi : i < l.length * 3 := hi
      refine ⟨.int .i64 (tf (srt l) i), ?_, rfl⟩
      unfold putCells
      rw [Array.getElem?_mapIdx, Array.getElem?_eq_getElem (by omega)]
      simp only [Option.map_some, size_flatK, Nat.zero_le, true_and, Nat.zero_add, Nat.sub_zero]
      rw [if_pos (by simp; omega)]
      show some (id _) = _
      rw [flat_get _ _ (by rw [hdl]; exact hi), hd1]
      rfl
end Go.Proofs.Ytpimjkhfookipaa
