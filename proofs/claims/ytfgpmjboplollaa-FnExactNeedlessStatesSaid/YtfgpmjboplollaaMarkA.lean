/- What markAutomaton does to an automaton in rows. No conditions. -/
import Derived.Test.YtfgpmjboplollaaMarkZ
namespace Go.Proofs.Ytfgpmjboplollaa
open Go.RowKit Go.Proofs
set_option linter.unusedSimpArgs false
set_option linter.unusedVariables false

/-- Three parts that are marked one behind the other. -/
structure MkA where
  F : Nat → V
  G : Nat → Int → V
  c : Nat → Nat
  T : Nat → Nat → Prop

def MkA.TT (D : MkA) : Nat → Prop := fun b => ∃ i, i < 3 ∧ D.T i b
def MkA.Ok (D : MkA) : Prop := ∀ i, i < 3 → ∀ j, j < 3 → j ≠ i → Keeps (D.T i) (D.F j) ∧ ∀ k, Keeps (D.T i) (D.G j k)

theorem agg3 {cs : Array Value} (h : cs.size = 3) : ∃ x0 x1 x2, cs = #[x0, x1, x2] := by
  match cs, h with
  | ⟨[x0, x1, x2]⟩, _ => exact ⟨x0, x1, x2, rfl⟩

/-- The argument's copy in a block of its own. -/
def BoxI (w W : World) (x0 x1 x2 : Value) : Prop := w.heap.size < W.heap.size ∧ W.cell? ⟨w.heap.size, 0, none⟩ = some x0 ∧ W.cell? ⟨w.heap.size, 1, none⟩ = some x1 ∧ W.cell? ⟨w.heap.size, 2, none⟩ = some x2
theorem BoxI.step {w W W' : World} {x0 x1 x2 : Value} {T : Nat → Prop} (h : BoxI w W x0 x1 x2) (ho : OnlyIn T W W') (hT : ∀ b, T b → b < w.heap.size) : BoxI w W' x0 x1 x2 := by
  obtain ⟨h1, h2, h3, h4⟩ := h
  have e : W'.heap[w.heap.size]? = W.heap[w.heap.size]? := ho.oth _ h1 fun h => by have := hT _ h; omega
  have c : ∀ i, W'.cell? ⟨w.heap.size, i, none⟩ = W.cell? ⟨w.heap.size, i, none⟩ := fun i => World.cell?_of_block (w := W) (a := ⟨w.heap.size, i, none⟩) e
  exact ⟨Nat.lt_of_lt_of_le h1 ho.size, by rw [c]; exact h2, by rw [c]; exact h3, by rw [c]; exact h4⟩
theorem BoxI.start (w : World) (x0 x1 x2 : Value) (t : TypeId) : BoxI w (w.alloc (.cells #[x0, x1, x2] t)) x0 x1 x2 ∧ Below w.heap.size w (w.alloc (.cells #[x0, x1, x2] t)) := by
  have e : (w.alloc (.cells #[x0, x1, x2] t)).heap[w.heap.size]? = some (.cells #[x0, x1, x2] t (0, 0)) := by
    show (w.heap.push _)[w.heap.size]? = _
    simp
  exact ⟨⟨block_lt e, cell_of_blk e rfl, cell_of_blk e rfl, cell_of_blk e rfl⟩, (Below.refl _ _).alloc (Nat.le_refl _) _⟩

set_option maxHeartbeats 1000000 in
set_option maxRecDepth 100000 in
theorem markAut_mz (D : MkA) (k : Int) (hk : 0 ≤ k) (hok : D.Ok) (h0 : ∀ k : Int, 0 ≤ k → k + D.c 0 ≤ 4611686018427387904 → FnMz Try.prog 20 (D.F 0) k (k + D.c 0) (D.T 0) [(D.F 0, D.G 0 k)])
    (h1 : ∀ k : Int, 0 ≤ k → k + D.c 1 ≤ 4611686018427387904 → FnMz Try.prog 20 (D.F 1) k (k + D.c 1) (D.T 1) [(D.F 1, D.G 1 k)])
    (h2 : ∀ k : Int, 0 ≤ k → k + D.c 2 ≤ 4611686018427387904 → FnMz Try.prog 98 (D.F 2) k (k + D.c 2) (D.T 2) [(D.F 2, D.G 2 k)])
    (hkn : k + D.c 0 + D.c 1 + D.c 2 ≤ 4611686018427387904) :
    FnMz Try.prog 19 (.agg 3 D.F) k (k + D.c 0 + D.c 1 + D.c 2) D.TT [(D.F 0, D.G 0 k), (D.F 1, D.G 1 (k + D.c 0)), (D.F 2, D.G 2 (k + D.c 0 + D.c 1))] := by
  have hz : ∀ i, i < 3 → ∀ b, D.T i b → ∃ Z, ZIn Z (D.F i) ∧ Z b := fun i hi b hb => by
    rcases (show i = 0 ∨ i = 1 ∨ i = 2 by omega) with rfl | rfl | rfl
    · exact (h0 0 (by omega) (by omega)).inz b hb
    · exact (h1 0 (by omega) (by omega)).inz b hb
    · exact (h2 0 (by omega) (by omega)).inz b hb
  refine ⟨Try.call19, fun b ⟨i, hi, hb⟩ => ?_, fun w S u hr => ?_⟩
  · obtain ⟨Z, hZ, hb'⟩ := hz i hi b hb
    exact ⟨Z, .inAgg _ _ i hi hZ, hb'⟩
  obtain ⟨cs, rfl, hcs, hr⟩ := hr
  obtain ⟨x0, x1, x2, rfl⟩ := agg3 hcs
  obtain ⟨y0, e0, r0⟩ := hr 0 (by omega)
  obtain ⟨y1, e1, r1⟩ := hr 1 (by omega)
  obtain ⟨y2, e2, r2⟩ := hr 2 (by omega)
  have e0 : x0 = y0 := by simpa using e0
  have e1 : x1 = y1 := by simpa using e1
  have e2 : x2 = y2 := by simpa using e2
  subst e0 e1 e2
  have hlt : ∀ i, i < 3 → ∀ b, D.T i b → b < w.heap.size := fun i hi b hb => by
    obtain ⟨Z, hZ, hb'⟩ := hz i hi b hb
    rcases (show i = 0 ∨ i = 1 ∨ i = 2 by omega) with rfl | rfl | rfl
    · exact (hZ.there r0 b hb').2
    · exact (hZ.there r1 b hb').2
    · exact (hZ.there r2 b hb').2
  have C : Aside (0 ≤ k ∧ D.Ok ∧ k + D.c 0 + D.c 1 + D.c 2 ≤ 4611686018427387904 ∧ (∀ i, i < 3 → ∀ b, D.T i b → b < w.heap.size) ∧ Rd w S (D.F 0) x0 ∧ Rd w S (D.F 1) x1 ∧ Rd w S (D.F 2) x2) := ⟨hk, hok, hkn, hlt, r0, r1, r2⟩
  have c0 := h0 k hk (by omega)
  have c1 := h1 (k + D.c 0) (by omega) (by omega)
  have c2 := h2 (k + D.c 0 + D.c 1) (by omega) (by omega)
  have H : Aside (FnMz Try.prog 20 (D.F 0) k (k + D.c 0) (D.T 0) [(D.F 0, D.G 0 k)] ∧ FnMz Try.prog 20 (D.F 1) (k + D.c 0) (k + D.c 0 + D.c 1) (D.T 1) [(D.F 1, D.G 1 (k + D.c 0))] ∧ FnMz Try.prog 98 (D.F 2) (k + D.c 0 + D.c 1) (k + D.c 0 + D.c 1 + D.c 2) (D.T 2) [(D.F 2, D.G 2 (k + D.c 0 + D.c 1))]) := ⟨c0, c1, c2⟩
  clear hk hok hkn hlt r0 r1 r2 c0 c1 c2 h0 h1 h2 hz hr hcs
  go_enter Try.func19, Try.ntmps19
  go_wp2_with fail
  obtain ⟨hB, hbel⟩ := BoxI.start w x0 x1 x2 29
  generalize hW : w.alloc (.cells #[x0, x1, x2] 29) = W at hB hbel ⊢
  clear hW
  obtain ⟨hk, hok, hkn, hlt, r0, r1, r2⟩ := C.out
  obtain ⟨c0, c1, c2⟩ := H.out
  have hs : ∀ b, S b → b < w.heap.size → S b ∧ W.heap[b]? = w.heap[b]? := fun b h hb => ⟨h, hbel.block b hb⟩
  refine (c0.runs W S x0 (Rd.mono hs _ _ r0)).mono ?_
  rintro e w1 ⟨rfl, ho1, hp1⟩
  have g1 := hp1 _ (List.mem_singleton.2 rfl)
  have hB1 := hB.step ho1 (hlt 0 (by omega))
  have rr1 := Keeps.rd ho1 _ _ (hok 0 (by omega) 1 (by omega) (by omega)).1 (Rd.mono hs _ _ r1)
  have rr2 := Keeps.rd ho1 _ _ (hok 0 (by omega) 2 (by omega) (by omega)).1 (Rd.mono hs _ _ r2)
  have A1 : Aside (OnlyIn (D.T 0) W w1 ∧ Goes W w1 (D.F 0) (D.G 0 k) ∧ BoxI w w1 x0 x1 x2 ∧ Rd w1 S (D.F 1) x1 ∧ Rd w1 S (D.F 2) x2 ∧ Below w.heap.size w W) := ⟨ho1, g1, hB1, rr1, rr2, hbel⟩
  obtain ⟨_, _, hc1, hc2⟩ := hB1
  clear hk hok hkn hlt r0 r1 r2 c0 c1 c2 ho1 hp1 g1 rr1 rr2 hB hbel hs
  go_wp2_with fail
  obtain ⟨ho1, g1, hB1, rr1, rr2, hbel⟩ := A1.out
  obtain ⟨hk, hok, hkn, hlt, r0, r1, r2⟩ := C.out
  obtain ⟨c0, c1, c2⟩ := H.out
  refine (c1.runs w1 S x1 rr1).mono ?_
  rintro e w2 ⟨rfl, ho2, hp2⟩
  have g2 := hp2 _ (List.mem_singleton.2 rfl)
  have hB2 := hB1.step ho2 (hlt 1 (by omega))
  have rr3 := Keeps.rd ho2 _ _ (hok 1 (by omega) 2 (by omega) (by omega)).1 rr2
  have A2 : Aside (OnlyIn (D.T 0) W w1 ∧ Goes W w1 (D.F 0) (D.G 0 k) ∧ OnlyIn (D.T 1) w1 w2 ∧ Goes w1 w2 (D.F 1) (D.G 1 (k + D.c 0)) ∧ BoxI w w2 x0 x1 x2 ∧ Rd w2 S (D.F 2) x2 ∧ Below w.heap.size w W) := ⟨ho1, g1, ho2, g2, hB2, rr3, hbel⟩
  clear hc1 hc2
  obtain ⟨_, _, hc1, hc2⟩ := hB2
  clear hk hok hkn hlt r0 r1 r2 c0 c1 c2 ho1 g1 rr1 rr2 hB1 hbel ho2 hp2 g2 rr3 A1
  go_wp2_with fail
  obtain ⟨ho1, g1, ho2, g2, hB2, rr3, hbel⟩ := A2.out
  obtain ⟨hk, hok, hkn, hlt, r0, r1, r2⟩ := C.out
  obtain ⟨c0, c1, c2⟩ := H.out
  refine (c2.runs w2 S x2 rr3).mono ?_
  rintro e w3 ⟨rfl, ho3, hp3⟩
  have g3 := hp3 _ (List.mem_singleton.2 rfl)
  have A3 : Aside (OnlyIn (D.T 0) W w1 ∧ Goes W w1 (D.F 0) (D.G 0 k) ∧ OnlyIn (D.T 1) w1 w2 ∧ Goes w1 w2 (D.F 1) (D.G 1 (k + D.c 0)) ∧ OnlyIn (D.T 2) w2 w3 ∧ Goes w2 w3 (D.F 2) (D.G 2 (k + D.c 0 + D.c 1)) ∧ Below w.heap.size w W) := ⟨ho1, g1, ho2, g2, ho3, g3, hbel⟩
  clear hk hok hkn hlt r0 r1 r2 c0 c1 c2 ho1 g1 hB2 hbel ho2 g2 rr3 A2 ho3 hp3 g3 hc1 hc2
  go_wp2
  go_ret
  obtain ⟨ho1, g1, ho2, g2, ho3, g3, hbel⟩ := A3.out
  obtain ⟨hk, hok, hkn, hlt, r0, r1, r2⟩ := C.out
  have hW : ∀ (v : V) (S : Nat → Prop) (u : Value), Rd w S v u → Rd W S v u := fun v S u h => Rd.mono (fun b h hb => ⟨h, hbel.block b hb⟩) _ _ h
  have O : ∀ i, i < 3 → ∀ {a b : World}, OnlyIn (D.T i) a b → OnlyIn D.TT a b := fun i hi a b h => h.mono fun b hb => ⟨i, hi, hb⟩
  refine ⟨rfl, (((OnlyIn.below hbel).trans (O 0 (by omega) ho1)).trans (O 1 (by omega) ho2)).trans (O 2 (by omega) ho3), fun p hp => ?_⟩
  simp only [List.mem_cons, List.not_mem_nil, or_false] at hp
  rcases hp with rfl | rfl | rfl
  · exact fun S u h => Keeps.rd ho3 _ _ ((hok 2 (by omega) 0 (by omega) (by omega)).2 _) (Keeps.rd ho2 _ _ ((hok 1 (by omega) 0 (by omega) (by omega)).2 _) (g1 S u (hW _ S u h)))
  · exact fun S u h => Keeps.rd ho3 _ _ ((hok 2 (by omega) 1 (by omega) (by omega)).2 _) (g2 S u (Keeps.rd ho1 _ _ (hok 0 (by omega) 1 (by omega) (by omega)).1 (hW _ S u h)))
  · exact fun S u h => g3 S u (Keeps.rd ho2 _ _ (hok 1 (by omega) 2 (by omega) (by omega)).1 (Keeps.rd ho1 _ _ (hok 0 (by omega) 2 (by omega) (by omega)).1 (hW _ S u h)))

end Go.Proofs.Ytfgpmjboplollaa
