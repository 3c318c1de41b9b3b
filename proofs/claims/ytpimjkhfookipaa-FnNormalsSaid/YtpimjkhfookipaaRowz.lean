/- Lists of lists in new memory, each in a block of its own; what marks make of them. No conditions. -/
import Derived.Test.YtpimjkhfookipaaMarkZ
import Derived.Test.YtpimjkhfookipaaPureMx
namespace Go.Proofs.Ytpimjkhfookipaa
open Go.RowKit Go.Proofs
set_option linter.unusedSimpArgs false
set_option linter.unusedVariables false

def Apart (v v' : V) : Prop := Disj (Zof v) (Zof v')
theorem Apart.symm {v v' : V} (h : Apart v v') : Apart v' v := Disj.symm h

/-- A list of n things, each of which is p, all of them apart. -/
def isL (n : Nat) (p : Nat → V → Prop) (v : V) : Prop := ∃ (u0 : Value) (Zh : Nat → Prop) (F : Nat → V), v = .row u0 Zh 1 n F ∧ ∀ i, i < n → p i (F i) ∧ Disj Zh (Zof (F i)) ∧ ∀ j, j < n → j ≠ i → Apart (F i) (F j)
def isRow (l : List Int) (v : V) : Prop := ∃ (u : Value) (Z : Nat → Prop), v = .row u Z 1 l.length fun j => vi (l.getD j 0)
def isMat (m : List (List Int)) (v : V) : Prop := isL m.length (fun i => isRow (rowAt m i)) v
def isMats (s : List (List (List Int))) (v : V) : Prop := isL s.length (fun i => isMat (matAt s i)) v

theorem NewV.zin {p : (Nat → Prop) → Prop} {Z : Nat → Prop} {v : V} (h : ZIn Z v) : NewV p v → p Z := by
  induction h with
  | old v => exact fun h => h.elim
  | row u sz n f => exact fun h => h.1
  | inRow u Z' sz n f i hi h ih => exact fun h => ih (h.2 i hi)
  | grow u e sz n f => exact fun h => h.1
  | inGrow u Z' e sz n f i hi h ih => exact fun h => ih (h.2 i hi)
  | inAgg n f i hi h ih => exact fun h => ih (h i hi)
  | cur => exact fun h => h.elim
theorem NewV.ge {N : Nat} {q : (Nat → Prop) → Prop} {v : V} (h : NewV (fun Z => (∀ b, Z b → N ≤ b) ∧ q Z) v) : ∀ b, Zof v b → N ≤ b := fun b ⟨Z, hZ, hb⟩ => (NewV.zin hZ h).1 b hb

theorem Zof.val (x : Value) (b : Nat) : ¬ Zof (.val x) b := fun ⟨Z, h, _⟩ => by cases h
theorem Zof.agg {n : Nat} {F : Nat → V} {b : Nat} (h : Zof (.agg n F) b) : ∃ i, i < n ∧ Zof (F i) b := by
  obtain ⟨Z, h, hb⟩ := h
  cases h with
  | inAgg _ _ i hi h => exact ⟨i, hi, Z, h, hb⟩
theorem Zof.row {u : Value} {Z : Nat → Prop} {n : Nat} {F : Nat → V} {b : Nat} (h : Zof (.row u Z 1 n F) b) : Z b ∨ ∃ i, i < n ∧ Zof (F i) b := by
  obtain ⟨Z', h, hb⟩ := h
  cases h with
  | row => exact .inl hb
  | inRow _ _ _ _ _ i hi h => exact .inr ⟨i, by omega, Z', h, hb⟩
/-- What lies apart from T is kept. -/
theorem Keeps.of_apart {T : Nat → Prop} : ∀ v : V, NewV (fun _ => True) v → Disj (Zof v) T → Keeps T v
  | .val _, _, _ => trivial
  | .row u Z sz n f, hv, h => ⟨fun b hb => h b ⟨Z, .row _ _ _ _, hb⟩, fun i hi => Keeps.of_apart (f i) (hv.2 i hi) fun b ⟨Z', hZ, hb⟩ => h b ⟨Z', .inRow _ _ _ _ _ i hi hZ, hb⟩⟩
  | .grow u Z e sz n f, hv, h => ⟨fun b hb => h b ⟨Z, .grow _ _ _ _ _, hb⟩, fun i hi => Keeps.of_apart (f i) (hv.2 i hi) fun b ⟨Z', hZ, hb⟩ => h b ⟨Z', .inGrow _ _ _ _ _ _ i hi hZ, hb⟩⟩
  | .agg n f, hv, h => fun i hi => Keeps.of_apart (f i) (hv i hi) fun b ⟨Z', hZ, hb⟩ => h b ⟨Z', .inAgg _ _ i hi hZ, hb⟩
  | .seq _ _ _, hv, _ => hv.elim
  | .pin _ _, hv, _ => hv.elim
  | .clo _ _ _, hv, _ => hv.elim
  | .old _ _, hv, _ => hv.elim
  | .cur _ _ _ _, hv, _ => hv.elim

theorem isRow.new {l : List Int} {v : V} (h : isRow l v) : NewV (fun _ => True) v := by
  obtain ⟨u, Z, rfl⟩ := h; exact ⟨trivial, fun _ _ => trivial⟩
theorem isL.new {n : Nat} {p : Nat → V → Prop} {v : V} (hp : ∀ i v, p i v → NewV (fun _ => True) v) (h : isL n p v) : NewV (fun _ => True) v := by
  obtain ⟨u, Z, F, rfl, h⟩ := h; exact ⟨trivial, fun i hi => hp i _ (h i (by omega)).1⟩
theorem isMat.new {m : List (List Int)} {v : V} (h : isMat m v) : NewV (fun _ => True) v := isL.new (fun _ _ h => h.new) h
theorem isMats.new {s : List (List (List Int))} {v : V} (h : isMats s v) : NewV (fun _ => True) v := isL.new (fun _ _ h => h.new) h

theorem isRow.one {l : List Int} {v : V} (h : isRow l v) : v.one = true := by obtain ⟨u, Z, rfl⟩ := h; rfl
theorem isL.one {n : Nat} {p : Nat → V → Prop} {v : V} (h : isL n p v) : v.one = true := by obtain ⟨u, Z, F, rfl, h⟩ := h; rfl

theorem isRow.bare {l : List Int} {v : V} (h : isRow l v) : Bare v (ints l) := by obtain ⟨u, Z, rfl⟩ := h; exact ⟨rfl, rfl, fun i hi => rfl⟩
theorem isL.bare {n : Nat} {p : Nat → V → Prop} {v : V} {g : Nat → V} (hp : ∀ i v, i < n → p i v → Bare v (g i)) (h : isL n p v) : Bare v (.seq 1 n g) := by
  obtain ⟨u, Z, F, rfl, h⟩ := h; exact ⟨rfl, rfl, fun i hi => hp i _ (by omega) (h i (by omega)).1⟩
theorem isMat.bare {m : List (List Int)} {v : V} (h : isMat m v) : Bare v (rows m) := isL.bare (fun _ _ _ h => h.bare) h
theorem isMats.bare {s : List (List (List Int))} {v : V} (h : isMats s v) : Bare v (mats s) := isL.bare (fun _ _ _ h => h.bare) h

/-! ### Marked -/
def rng (k : Int) (n : Nat) : List Int := tab n fun i => k + i
@[simp] theorem rng_len (k : Int) (n : Nat) : (rng k n).length = n := tab_len _ _
/-- An automaton in new memory: its three parts. -/
def isAut (a e : List Int) (s : List (List (List Int))) (F : Nat → V) : Prop := isRow a (F 0) ∧ isRow e (F 1) ∧ isMats s (F 2) ∧ ∀ i, i < 3 → ∀ j, j < 3 → j ≠ i → Apart (F i) (F j)
theorem isAut.bare {a e : List Int} {s : List (List (List Int))} {F : Nat → V} (h : isAut a e s F) : Bare (.agg 3 F) (autV a e s) := ⟨rfl, fun i hi => by
  rcases (show i = 0 ∨ i = 1 ∨ i = 2 by omega) with rfl | rfl | rfl
  · exact h.1.bare
  · exact h.2.1.bare
  · exact h.2.2.1.bare⟩
theorem isAut.one {a e : List Int} {s : List (List (List Int))} {F : Nat → V} (h : isAut a e s F) (i : Nat) (hi : i < 3) : (F i).one = true := by
  rcases (show i = 0 ∨ i = 1 ∨ i = 2 by omega) with rfl | rfl | rfl
  · exact h.1.one
  · exact h.2.1.one
  · exact isL.one h.2.2.1
theorem isAut.new {a e : List Int} {s : List (List (List Int))} {F : Nat → V} (h : isAut a e s F) (i : Nat) (hi : i < 3) : NewV (fun _ => True) (F i) := by
  rcases (show i = 0 ∨ i = 1 ∨ i = 2 by omega) with rfl | rfl | rfl
  · exact h.1.new
  · exact h.2.1.new
  · exact h.2.2.1.new

end Go.Proofs.Ytpimjkhfookipaa
