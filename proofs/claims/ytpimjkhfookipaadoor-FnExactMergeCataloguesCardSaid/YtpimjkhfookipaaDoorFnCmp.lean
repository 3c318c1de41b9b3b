/- planeText and compareTexts, walked: what they leave of the world. Conditions: terms of numbers up to 10^6, no more than 12. -/
import Derived.Test.YtpimjkhfookipaaDoorFnTx
import Derived.Shelf.SlSortCmp.QuietGrown
namespace Go.Proofs.YtpimjkhfookipaaDoor
open Go.RowKit Go.Proofs Go.Sort
set_option linter.unusedSimpArgs false
set_option linter.unusedVariables false

theorem Gl.grown {w : World} (h : Gl w) (q : Nat) (os : Array Obj) : Gl (grow (w.drewN q) os) := h.keep (below_grow w q os)
theorem cell_new3 (W : World) (a b c : Value) (t : TypeId) (q : Nat) (os : Array Obj) (n : Nat) (os' : Array Obj) (i : Nat) (hi : i < 3) : (grow (((grow (W.drewN q) os).alloc (.cells #[a, b, c] t)).drewN n) os').cell? ⟨W.heap.size + os.size, i, none⟩ = some (if i = 0 then a else if i = 1 then b else c) := by
  have hs : (grow (W.drewN q) os).heap.size = W.heap.size + os.size := by show (W.heap ++ os).size = _; simp
  rw [cell?_grow _ _ _ (by show W.heap.size + os.size < ((grow (W.drewN q) os).heap.push _).size; rw [Array.size_push, hs]; omega)]
  show World.cell? { (grow (W.drewN q) os) with drawn := _, heap := (grow (W.drewN q) os).heap.push _ } _ = _
  unfold World.cell?
  simp only
  rw [← hs, Array.getElem?_push_size]
  rcases (show i = 0 ∨ i = 1 ∨ i = 2 by omega) with rfl | rfl | rfl <;> rfl

theorem itoa_grown (n : Int) (h : -1000000 ≤ n ∧ n ≤ 1000000) (W : World) (hg : Gl W) : ∀ (m : Nat) (os : Array Obj), Calls Tryd.prog 82 #[.int .i64 n] (grow (W.drewN m) os) fun e w' => e = .returned (.string (itoaB n)) ∧ ∃ q os', w' = grow ((grow (W.drewN m) os).drewN q) os' :=
  fun m os => Tryd.strconv_Itoa n (by omega) (by omega) _ (hg.grown m os)

theorem push_back (W : World) (q : Nat) (os : Array Obj) (o : Obj) (n : Nat) (os' : Array Obj) : ∃ q' os'', grow (((grow (W.drewN q) os).alloc o).drewN n) os' = grow (W.drewN q') os'' :=
  ⟨q + n, os ++ #[o] ++ os', by
    rw [alloc_eq_grow, grow_grow]
    show grow (grow ((W.drewN q).drewN n) (os ++ #[o])) os' = _
    rw [grow_grow, World.drewN_drewN]⟩

set_option maxHeartbeats 4000000 in
set_option maxRecDepth 100000 in
theorem pText_walk (b off c : Nat) (l : List T3) (hs : Sml l) (hl : l.length ≤ 12) (W : World) (hg : Gl W) (hb : b < W.heap.size) (hcell : ∀ i, i < l.length * 3 → W.cell? ⟨b, off + i, none⟩ = some (.int .i64 (tf l i))) :
    Calls Tryd.prog 115 #[.slice (some ⟨b, off, none⟩) l.length c] W fun e w' => e = .returned (.string (tx l)) ∧ ∃ q os, w' = grow (W.drewN q) os := by
  go_enter Tryd.func115, Tryd.ntmps115
  go_wp2
  go_loopg [3, 8] l.length (fun g s3 s8 wr => ∃ k : Nat, s3 = .string (txK l k) ∧ s8 = .int .i64 k ∧ g + k = l.length ∧ ∃ q os, wr = grow (W.drewN q) os)
  case atStart => exact ⟨0, rfl, rfl, by omega, 0, #[], by rw [grow_empty]; rfl⟩
  case round =>
    obtain ⟨k, rfl, rfl, hgk, q, os, rfl⟩ := hrel
    by_cases hlt : (k : Int) < l.length
    · have hk : k < l.length := by omega
      have h1 := hs k hk
      have h2 := txK_size hs k (Nat.le_of_lt hk)
      have e : txK l (k + 1) = txK l k ++ ttx (tAt l k) := rfl
      have c0 : (grow (W.drewN q) os).cell? ⟨b, off + k * 3, none⟩ = some (.int .i64 (tAt l k).1) := by
        rw [cell?_grow _ _ _ hb, ← tf_0]; exact hcell _ (by omega)
      have c1 : (grow (W.drewN q) os).cell? ⟨b, off + k * 3 + 1, none⟩ = some (.int .i64 (tAt l k).2.1) := by
        rw [cell?_grow _ _ _ hb, ← tf_1]; exact hcell (k * 3 + 1) (by omega)
      have c2 : (grow (W.drewN q) os).cell? ⟨b, off + k * 3 + 2, none⟩ = some (.int .i64 (tAt l k).2.2) := by
        rw [cell?_grow _ _ _ hb, ← tf_2]; exact hcell (k * 3 + 2) (by omega)
      have A : Aside (gk + k = l.length ∧ txK l (k + 1) = txK l k ++ ttx (tAt l k) ∧ k < l.length ∧ l.length ≤ 12) := ⟨hgk, e, hk, hl⟩
      have hsz3 := itoaB_size (tAt l k).2.2
      have hsz1 := itoaB_size (tAt l k).1
      have hsz2 := itoaB_size (tAt l k).2.1
      unfold ttx at A
      clear e hgk hcell hs
      generalize hO : txK l k = O at A h2 ⊢
      clear hO
      obtain ⟨x, hx⟩ : ∃ x, tAt l k = x := ⟨_, rfl⟩
      rw [hx] at h1 c0 c1 c2 hsz1 hsz2 hsz3 A
      clear hx
      obtain ⟨x1, x2, x3⟩ := x
      simp only at h1 c0 c1 c2 hsz1 hsz2 hsz3 A
      have g1 := hg.grown q os
      have t3 := itoa_grown x3 (by omega) _ (g1.keep (Below.refl _ _ |>.alloc (Nat.le_refl _) (Obj.cells #[.int .i64 x1, .int .i64 x2, .int .i64 x3] 98)))
      have t1 := itoa_grown x1 (by omega) _ (g1.keep (Below.refl _ _ |>.alloc (Nat.le_refl _) (Obj.cells #[.int .i64 x1, .int .i64 x2, .int .i64 x3] 98)))
      have t2 := itoa_grown x2 (by omega) _ (g1.keep (Below.refl _ _ |>.alloc (Nat.le_refl _) (Obj.cells #[.int .i64 x1, .int .i64 x2, .int .i64 x3] 98)))
      have d0 := fun n os' => cell_new3 W (.int .i64 x1) (.int .i64 x2) (.int .i64 x3) 98 q os n os' 0 (by omega)
      have d1 := fun n os' => cell_new3 W (.int .i64 x1) (.int .i64 x2) (.int .i64 x3) 98 q os n os' 1 (by omega)
      have d2 := fun n os' => cell_new3 W (.int .i64 x1) (.int .i64 x2) (.int .i64 x3) 98 q os n os' 2 (by omega)
      simp only [if_true, Nat.one_ne_zero, if_false, Nat.reduceEqDiff] at d0 d1 d2
      have hpb := fun n os' => push_back W q os (Obj.cells #[.int .i64 x1, .int .i64 x2, .int .i64 x3] 98) n os'
      have B : Aside (∀ n os', ∃ q' os'', grow (((grow (W.drewN q) os).alloc (Obj.cells #[.int .i64 x1, .int .i64 x2, .int .i64 x3] 98)).drewN n) os' = grow (W.drewN q') os'') := hpb
      clear hpb
      have C : Aside ((∀ (m : Nat) (os' : Array Obj), _) ∧ (∀ (m : Nat) (os' : Array Obj), _) ∧ (∀ (m : Nat) (os' : Array Obj), _)) := ⟨t3, t1, t2⟩
      clear t1 t2 t3 g1
      generalize itoaB x3 = s3 at *
      generalize itoaB x1 = s1 at *
      generalize itoaB x2 = s2 at *
      have z1 : ¬ 9223372036854775807 < s3.size + 1 := by omega
      have z2 : ¬ 9223372036854775807 < s3.size + 1 + s1.size := by omega
      have z3 : ¬ 9223372036854775807 < s3.size + 1 + s1.size + 1 := by omega
      have z4 : ¬ 9223372036854775807 < s3.size + 1 + s1.size + 1 + s2.size := by omega
      have z5 : ¬ 9223372036854775807 < s3.size + 1 + s1.size + 1 + s2.size + 1 := by omega
      have z6 : ¬ 9223372036854775807 < O.size + (s3.size + 1 + s1.size + 1 + s2.size + 1) := by omega
      clear hsz1 hsz2 hsz3 h1 h2 hg hb hl
      have mixed : Tryd.prog.follows .mixedOrders = true := rfl
      have ci : ∀ args w, (callFunc 82 args).run Tryd.prog w = .ok (.enter 82 args) w := Tryd.call82
      go_wp2_with fail
      go_quiet_grown (first | (go_at_call 82; first | refine Calls.grown_of (C.out.1 _ _) | refine Calls.grown_of (C.out.2.1 _ _) | refine Calls.grown_of (C.out.2.2 _ _)))
      go_wp2
      go_roundg (l.length - (k + 1))
      case measure => have := A.out.1; omega
      case rel =>
        obtain ⟨e1, e2, e3, e12⟩ := A.out
        obtain ⟨q', os', e4⟩ := B.out nq osq
        exact ⟨k + 1, by rw [e2], by rw [wrap64_id _ (by omega)]; rfl, by omega, q', os', e4⟩
    · go_wp2
      go_ret
      obtain rfl : k = l.length := by omega
      exact ⟨rfl, q, os, rfl⟩

theorem grow_twice (W : World) (q q' : Nat) (os os' : Array Obj) : grow ((grow (W.drewN q) os).drewN q') os' = grow (W.drewN (q + q')) (os ++ os') := by
  show grow (grow ((W.drewN q).drewN q') os) os' = _
  rw [grow_grow, World.drewN_drewN]

/-- A row of terms in older memory. -/
structure TRow (W : World) (u : Value) (l : List T3) : Prop where
  at' : ∃ b off c, u = .slice (some ⟨b, off, none⟩) l.length c ∧ b < W.heap.size ∧ ∀ i, i < l.length * 3 → W.cell? ⟨b, off + i, none⟩ = some (.int .i64 (tf l i))
theorem TRow.grown {W : World} {u : Value} {l : List T3} (h : TRow W u l) (q : Nat) (os : Array Obj) : TRow (grow (W.drewN q) os) u l := by
  obtain ⟨b, off, c, e, hb, hc⟩ := h.at'
  refine ⟨b, off, c, e, ?_, fun i hi => ?_⟩
  · show b < (W.heap ++ os).size
    rw [Array.size_append]; omega
  · rw [cell?_grow _ _ _ hb]; exact hc i hi
theorem pText_row {W : World} {u : Value} {l : List T3} (h : TRow W u l) (hs : Sml l) (hl : l.length ≤ 12) (hg : Gl W) : Calls Tryd.prog 115 #[u] W fun e w' => e = .returned (.string (tx l)) ∧ ∃ q os, w' = grow (W.drewN q) os := by
  obtain ⟨b, off, c, rfl, hb, hc⟩ := h.at'
  exact pText_walk b off c l hs hl W hg hb hc

def CmpC (u v : Value) (x y : ByteArray) (r : Int) (W : World) : Prop := (Calls Tryd.prog 115 #[u] W fun e w' => e = .returned (.string x) ∧ ∃ q os, w' = grow (W.drewN q) os) ∧ (∀ q os, Calls Tryd.prog 115 #[v] (grow (W.drewN q) os) fun e w' => e = .returned (.string y) ∧ ∃ q' os', w' = grow ((grow (W.drewN q) os).drewN q') os') ∧ ∀ w, Calls Tryd.prog 114 #[.string x, .string y] w fun e w' => e = .returned (.int .i64 r) ∧ w' = w
theorem CmpC.one {u v : Value} {x y : ByteArray} {r : Int} {W : World} (C : CmpC u v x y r W) : Calls Tryd.prog 115 #[u] W fun e w' => e = .returned (.string x) ∧ ∃ q os, w' = grow (W.drewN q) os := C.1
theorem CmpC.two {u v : Value} {x y : ByteArray} {r : Int} {W : World} (C : CmpC u v x y r W) (q : Nat) (os : Array Obj) : Calls Tryd.prog 115 #[v] (grow (W.drewN q) os) fun e w' => e = .returned (.string y) ∧ ∃ q' os', w' = grow ((grow (W.drewN q) os).drewN q') os' := C.2.1 q os
theorem CmpC.thr {u v : Value} {x y : ByteArray} {r : Int} {W : World} (C : CmpC u v x y r W) (w : World) : Calls Tryd.prog 114 #[.string x, .string y] w fun e w' => e = .returned (.int .i64 r) ∧ w' = w := C.2.2 w
set_option maxHeartbeats 1000000 in
set_option maxRecDepth 100000 in
theorem cmp_abs (u v : Value) (x y : ByteArray) (r : Int) (W : World) (C : CmpC u v x y r W) :
    Calls Tryd.prog 81 #[u, v] W fun e w' => e = .returned (.int .i64 r) ∧ ∃ q os, w' = grow (W.drewN q) os := by
  go_enter Tryd.func81, Tryd.ntmps81
  go_wp2_with (first | (go_at_call 114; with_reducible refine Calls.mono (CmpC.thr C _) ?_; rintro e w' ⟨rfl, rfl⟩) | (go_at_call 115; first | (with_reducible refine Calls.mono (CmpC.two C _ _) ?_; rintro e w' ⟨rfl, q2, os2, rfl⟩) | (with_reducible refine Calls.mono (CmpC.one C) ?_; rintro e w' ⟨rfl, q1, os1, rfl⟩)))
  go_ret
  exact ⟨rfl, _, _, grow_twice _ _ _ _ _⟩
theorem cmp_walk {W : World} {u v : Value} {l m : List T3} (hu : TRow W u l) (hv : TRow W v m) (hs : Sml l) (hs' : Sml m) (hl : l.length ≤ 12) (hm : m.length ≤ 12) (hg : Gl W) :
    Calls Tryd.prog 81 #[u, v] W fun e w' => e = .returned (.int .i64 (Lib.compareBytes (tx l).data.toList (tx m).data.toList)) ∧ ∃ q os, w' = grow (W.drewN q) os :=
  cmp_abs u v (tx l) (tx m) _ W ⟨pText_row hu hs hl hg, fun q os => pText_row (hv.grown q os) hs' hm (hg.grown q os), fun w => Tryd.strings_Compare (tx l) (tx m) w⟩
end Go.Proofs.YtpimjkhfookipaaDoor
