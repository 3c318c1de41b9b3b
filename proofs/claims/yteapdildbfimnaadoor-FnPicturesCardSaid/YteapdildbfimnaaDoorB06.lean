/- Parts of the proof of LawFnPictures: contracts of functions, laws of an abstract state, plain facts. No conditions. -/
import Derived.Test.YteapdildbfimnaaDoorB05
import Derived.Shelf.SlSortCmp.NoneTotal
namespace Go.Proofs.YteapdildbfimnaaDoor
open Go.RowKit Go.Proofs
set_option linter.unusedSimpArgs false
set_option linter.unusedVariables false

def Apart (v v' : V) : Prop := Disj (Zof v) (Zof v')
theorem Apart.symm {v v' : V} (h : Apart v v') : Apart v' v := Disj.symm h

/-- A list of n things, each of which is p, all of them apart. -/
def isL (n : Nat) (p : Nat → V → Prop) (v : V) : Prop := ∃ (u0 : Value) (Zh : Nat → Prop) (F : Nat → V), v = .row u0 Zh 1 n F ∧ ∀ i, i < n → p i (F i) ∧ Disj Zh (Zof (F i)) ∧ ∀ j, j < n → j ≠ i → Apart (F i) (F j)
def isRow (l : List Int) (v : V) : Prop := ∃ (u : Value) (Z : Nat → Prop), v = .row u Z 1 l.length fun j => vi (l.getD j 0)
def isMat (m : List (List Int)) (v : V) : Prop := isL m.length (fun i => isRow (rowAt m i)) v
def isMats (s : List (List (List Int))) (v : V) : Prop := isL s.length (fun i => isMat (matAt s i)) v

theorem NewV.zin {p : (Nat → Prop) → Prop} {Z : Nat → Prop} {v : V} (h : ZIn Z v) : NewV p v → p Z := by
  induction h with
  | old v => exact fun h => h
  | row u sz n f => exact fun h => h.1
  | inRow u Z' sz n f i hi h ih => exact fun h => ih (h.2 i hi)
  | grow u e sz n f => exact fun h => h.1
  | inGrow u Z' e sz n f i hi h ih => exact fun h => ih (h.2 i hi)
  | inAgg n f i hi h ih => exact fun h => ih (h i hi)
  | cur => exact fun h => h.elim
theorem NewV.ge {N : Nat} {q : (Nat → Prop) → Prop} {v : V} (h : NewV (fun Z => (∀ b, Z b → N ≤ b) ∧ q Z) v) : ∀ b, Zof v b → N ≤ b := fun b ⟨Z, hZ, hb⟩ => (NewV.zin hZ h).1 b hb

theorem Zof.val (x : Value) (b : Nat) : ¬ Zof (.val x) b := fun ⟨Z, h, _⟩ => by cases h
theorem Zof.agg {n : Nat} {F : Nat → V} {b : Nat} (h : Zof (.agg n F) b) : ∃ i, i < n ∧ Zof (F i) b := by
  obtain ⟨Z, h, hb⟩ := h
  cases h with
  | inAgg _ _ i hi h => exact ⟨i, hi, Z, h, hb⟩
theorem Zof.row {u : Value} {Z : Nat → Prop} {n : Nat} {F : Nat → V} {b : Nat} (h : Zof (.row u Z 1 n F) b) : Z b ∨ ∃ i, i < n ∧ Zof (F i) b := by
  obtain ⟨Z', h, hb⟩ := h
  cases h with
  | row => exact .inl hb
  | inRow _ _ _ _ _ i hi h => exact .inr ⟨i, by omega, Z', h, hb⟩
theorem Zof.at {u : Value} {Z : Nat → Prop} {n : Nat} {F : Nat → V} {b i : Nat} (hi : i < n) (h : Zof (F i) b) : Zof (.row u Z 1 n F) b := by
  obtain ⟨Z', h, hb⟩ := h; exact ⟨Z', .inRow _ _ _ _ _ i (by omega) h, hb⟩
theorem isRow.one {l : List Int} {v : V} (h : isRow l v) : v.one = true := by obtain ⟨u, Z, rfl⟩ := h; rfl
theorem isL.one {n : Nat} {p : Nat → V → Prop} {v : V} (h : isL n p v) : v.one = true := by obtain ⟨u, Z, F, rfl, h⟩ := h; rfl

theorem isRow.bare {l : List Int} {v : V} (h : isRow l v) : Bare v (ints l) := by obtain ⟨u, Z, rfl⟩ := h; exact ⟨rfl, rfl, fun i hi => rfl⟩
theorem isL.bare {n : Nat} {p : Nat → V → Prop} {v : V} {g : Nat → V} (hp : ∀ i v, i < n → p i v → Bare v (g i)) (h : isL n p v) : Bare v (.seq 1 n g) := by
  obtain ⟨u, Z, F, rfl, h⟩ := h; exact ⟨rfl, rfl, fun i hi => hp i _ (by omega) (h i (by omega)).1⟩
theorem isMat.bare {m : List (List Int)} {v : V} (h : isMat m v) : Bare v (rows m) := isL.bare (fun _ _ _ h => h.bare) h
theorem isMats.bare {s : List (List (List Int))} {v : V} (h : isMats s v) : Bare v (mats s) := isL.bare (fun _ _ _ h => h.bare) h

/-! ### Marked -/
def rng (k : Int) (n : Nat) : List Int := tab n fun i => k + i
@[simp] theorem rng_len (k : Int) (n : Nat) : (rng k n).length = n := tab_len _ _
/-- An automaton in new memory: its three parts. -/
def isAut (a e : List Int) (s : List (List (List Int))) (F : Nat → V) : Prop := isRow a (F 0) ∧ isRow e (F 1) ∧ isMats s (F 2) ∧ ∀ i, i < 3 → ∀ j, j < 3 → j ≠ i → Apart (F i) (F j)
theorem isAut.bare {a e : List Int} {s : List (List (List Int))} {F : Nat → V} (h : isAut a e s F) : Bare (.agg 3 F) (autV a e s) := ⟨rfl, fun i hi => by
  rcases (show i = 0 ∨ i = 1 ∨ i = 2 by omega) with rfl | rfl | rfl
  · exact h.1.bare
  · exact h.2.1.bare
  · exact h.2.2.1.bare⟩
theorem isAut.one {a e : List Int} {s : List (List (List Int))} {F : Nat → V} (h : isAut a e s F) (i : Nat) (hi : i < 3) : (F i).one = true := by
  rcases (show i = 0 ∨ i = 1 ∨ i = 2 by omega) with rfl | rfl | rfl
  · exact h.1.one
  · exact h.2.1.one
  · exact isL.one h.2.2.1
end Go.Proofs.YteapdildbfimnaaDoor
namespace Go.Proofs.YteapdildbfimnaaDoor
open Go.RowKit Go.Proofs
set_option linter.unusedSimpArgs false
set_option linter.unusedVariables false

end Go.Proofs.YteapdildbfimnaaDoor
namespace Go.Proofs.YteapdildbfimnaaDoor
open Go.RowKit Go.Proofs
set_option linter.unusedSimpArgs false
set_option linter.unusedVariables false

end Go.Proofs.YteapdildbfimnaaDoor
namespace Go.Proofs.YteapdildbfimnaaDoor
open Go.RowKit Go.Proofs
set_option linter.unusedSimpArgs false
set_option linter.unusedVariables false

/-- Parts of a list that is being filled. -/
def partL (N n k : Nat) (p : Nat → V → Prop) (F : Nat → V) : Prop := k ≤ n ∧ ∀ i, i < k → p i (F i) ∧ (∀ b, Zof (F i) b → N ≤ b) ∧ ∀ j, j < k → j ≠ i → Apart (F i) (F j)
/-- A filled list. -/
def fullL (n : Nat) (e : TypeId) (p : Nat → V → Prop) : Res → Prop := fun r => ∃ F : Nat → V, (∀ i, i < n → p i (F i) ∧ ∀ j, j < n → j ≠ i → Apart (F i) (F j)) ∧ r = .one (.fr 1 n ⟨e, n, F⟩)
theorem fullL.shape {n : Nat} {e : TypeId} {p : Nat → V → Prop} (r : Res) (h : fullL n e p r) : r.shape 1 = true := by obtain ⟨F, _, rfl⟩ := h; rfl
def oneL (p : V → Prop) : Res → Prop := fun r => ∃ v, p v ∧ r = .one (.pv v)
theorem oneL.shape {p : V → Prop} (r : Res) (h : oneL p r) : r.shape 1 = true := by obtain ⟨F, _, rfl⟩ := h; rfl

theorem partL.grow {N n k : Nat} {p : Nat → V → Prop} {F : Nat → V} {v : V} (h : partL N n k p F) (hk : k < n) (hp : p k v) (hN : ∀ b, Zof v b → N ≤ b) (hd : ∀ i, i < k → Apart (F i) v) : partL N n (k + 1) p (fun i => if i = k then v else F i) := by
  refine ⟨by omega, fun i hi => ?_⟩
  by_cases e : i = k
  · subst e
    simp only [if_true]
    exact ⟨hp, hN, fun j hj hne => by rw [if_neg hne]; exact (hd j (by omega)).symm⟩
  · simp only [if_neg e]
    obtain ⟨h1, h2, h3⟩ := h.2 i (by omega)
    refine ⟨h1, h2, fun j hj hne => ?_⟩
    by_cases e2 : j = k
    · subst e2; rw [if_pos rfl]; exact hd i (by omega)
    · rw [if_neg e2]; exact h3 j (by omega) hne

theorem isAut.mk {a e : List Int} {s : List (List (List Int))} {v0 v1 v2 : V} (h0 : isRow a v0) (h1 : isRow e v1) (h2 : isMats s v2) (a01 : Apart v0 v1) (a02 : Apart v0 v2) (a12 : Apart v1 v2) : isAut a e s (fun i => if i = 0 then v0 else if i = 1 then v1 else v2) := by
  refine ⟨h0, h1, h2, fun i hi j hj hne => ?_⟩
  rcases (show i = 0 ∨ i = 1 ∨ i = 2 by omega) with rfl | rfl | rfl <;> rcases (show j = 0 ∨ j = 1 ∨ j = 2 by omega) with rfl | rfl | rfl <;>
    first | exact (hne rfl).elim | exact a01 | exact a02 | exact a12 | exact a01.symm | exact a02.symm | exact a12.symm

theorem bare_seq {n : Nat} {f : Nat → V} (Z : Nat → Prop) : Bare (.old Z (.seq 1 n f)) (.seq 1 n f) := VE.rfl' (.seq 1 n f)
theorem isAut.ge {N : Nat} {q : (Nat → Prop) → Prop} {F : Nat → V} (h : NewV (fun Z => (∀ b, Z b → N ≤ b) ∧ q Z) (.agg 3 F)) : ∀ b, Zof (.agg 3 F) b → N ≤ b := NewV.ge h

open Go.RowKit Go.Proofs
set_option linter.unusedSimpArgs false
set_option linter.unusedVariables false

end Go.Proofs.YteapdildbfimnaaDoor
namespace Go.Proofs.YteapdildbfimnaaDoor
open Go.RowKit Go.Proofs
set_option linter.unusedSimpArgs false
set_option linter.unusedVariables false
abbrev tsAt (L : List (List T3)) (i : Nat) : List T3 := L.getD i []
abbrev termss (L : List (List T3)) : V := .seq 1 L.length fun i => terms (tsAt L i)
def isT (l : List T3) (v : V) : Prop := ∃ (u : Value) (Z : Nat → Prop), v = .row u Z 3 l.length fun j => vi (tf l j)
def isTS (L : List (List T3)) (v : V) : Prop := isL L.length (fun i => isT (tsAt L i)) v
theorem isT.one {l : List T3} {v : V} (h : isT l v) : v.one = true := by obtain ⟨u, Z, rfl⟩ := h; rfl
theorem isT.bare {l : List T3} {v : V} (h : isT l v) : Bare v (terms l) := by obtain ⟨u, Z, rfl⟩ := h; exact ⟨rfl, rfl, fun i hi => rfl⟩
theorem isTS.bare {L : List (List T3)} {v : V} (h : isTS L v) : Bare v (termss L) := isL.bare (fun _ _ _ h => h.bare) h
end Go.Proofs.YteapdildbfimnaaDoor
namespace Go.Proofs.YteapdildbfimnaaDoor
set_option linter.unusedSimpArgs false
set_option linter.unusedVariables false
open Go.RowKit

/-- A function that writes the block of its first argument, a slice of n elements from the block's head, whose cells hold known values, and hands a scalar back. -/
structure FnMv (P : Program) (f : FuncId) (n : Nat) (blk blk' : Blk) (u v : Value) : Prop where
  entry : ∀ (args : Array Value) (w : World), (callFunc f args).run P w = .ok (.enter f args) w
  elem : blk'.elem = blk.elem
  le : blk'.n ≤ blk.n
  runsNil : n = 0 → ∀ w, Gl w → Calls P f #[.slice none 0 0, u] w fun e w' => e = .returned v ∧ Below w.heap.size w w'
  vals : ∀ i, i < blk.n → ∃ x, blk.f i = .val x
  runsAt : ∀ (w : World) (b c : Nat) (cur : Array Value), Gl w → w.heap[b]? = some (.cells cur blk.elem (0, 0)) → blk.n ≤ cur.size → (∀ i, i < blk.n → ∃ x, cur[i]? = some x ∧ blk.f i = .val x) → n ≤ c → Calls P f #[.slice (some ⟨b, 0, none⟩) n c, u] w fun e w' =>
    e = .returned v ∧ AllBut b w w' ∧ ∃ cur' : Array Value, w'.heap[b]? = some (.cells cur' blk.elem (0, 0)) ∧ cur'.size = cur.size ∧ ∀ i, i < blk'.n → ∃ x, cur'[i]? = some x ∧ blk'.f i = .val x

/-- A function that hands its first argument, a slice, back as it came. -/
structure FnSame (P : Program) (f : FuncId) (sz n : Nat) (g : Nat → V) (y : Value) : Prop where
  entry : ∀ (args : Array Value) (w : World), (callFunc f args).run P w = .ok (.enter f args) w
  runs : ∀ (w : World) (u : Value) (Z : Nat → Prop), Gl w → Rd w (fun _ => True) (.row u Z sz n g) u → Calls P f #[u, y] w fun e w' => e = .returned u ∧ Below w.heap.size w w'

section
variable {P : Program} {N : Nat}

end
end Go.Proofs.YteapdildbfimnaaDoor
namespace Go.Proofs
open Go.Shelf
end Go.Proofs
namespace Go.Proofs.YteapdildbfimnaaDoor
open Go.RowKit Go.Proofs Go.Sort
set_option linter.unusedSimpArgs false
set_option linter.unusedVariables false

/-- A term of small numbers. -/
def TB (t : T3) : Prop := -1000000 ≤ t.1 ∧ t.1 ≤ 1000000 ∧ -1000000 ≤ t.2.1 ∧ t.2.1 ≤ 1000000 ∧ -1000000 ≤ t.2.2 ∧ t.2.2 ≤ 1000000
abbrev TS := {t : T3 // TB t}
instance tsInh : Inhabited TS := ⟨⟨(0, 0, 0), by unfold TB; decide⟩⟩
/-- The order of terms, their last numbers last. -/
def lt0 (a b : T3) : Bool := decide (a.1 < b.1 ∨ (a.1 = b.1 ∧ (a.2.1 < b.2.1 ∨ (a.2.1 = b.2.1 ∧ a.2.2 < b.2.2))))
def srt (l : List T3) : List T3 := l.mergeSort fun x y => !lt0 y x
@[simp] theorem srt_len (l : List T3) : (srt l).length = l.length := List.length_mergeSort _

end Go.Proofs.YteapdildbfimnaaDoor
namespace Go.Proofs.YteapdildbfimnaaDoor
open Go.RowKit Go.Proofs
set_option linter.unusedSimpArgs false
set_option linter.unusedVariables false

theorem EntHR.one {h : List (Option Blk)} {j : Nat} {b b' : Blk} (hb : h[j]? = some (some b)) (hbe : BE b b') : EntHR h [j] [some b'] := by
  refine ⟨?_, trivial⟩
  rw [hb]; exact hbe

end Go.Proofs.YteapdildbfimnaaDoor
namespace Go.Proofs.YteapdildbfimnaaDoor
open Go.RowKit Go.Proofs
set_option linter.unusedSimpArgs false
set_option linter.unusedVariables false

end Go.Proofs.YteapdildbfimnaaDoor
namespace Go.Proofs.YteapdildbfimnaaDoor
set_option linter.unusedSimpArgs false
set_option linter.unusedVariables false

def swT (t : T3) : T3 := (t.2.1, t.1, t.2.2)
def swp (l : List T3) : List T3 := l.map swT
@[simp] theorem swp_len (l : List T3) : (swp l).length = l.length := by simp [swp]
/-- Terms of places apart. -/
def KD (a b : T3) : Prop := a.1 ≠ b.1 ∨ a.2.1 ≠ b.2.1
theorem KD.symm {a b : T3} (h : KD a b) : KD b a := by unfold KD at *; omega
/-- How many terms at the head stand before a term. -/
def cntB (t : T3) : List T3 → Nat
  | [] => 0
  | x :: l => if befB x t = true then cntB t l + 1 else 0
/-- A term put in its place. -/
def insT (l : List T3) (t : T3) : List T3 := l.take (cntB t l) ++ (t :: l.drop (cntB t l))
@[simp] theorem insT_len (l : List T3) (t : T3) : (insT l t).length = l.length + 1 := by simp [insT]; omega
/-- The first k terms, put in one after the other. -/
def insK (l : List T3) : Nat → List T3
  | 0 => []
  | k + 1 => insT (insK l k) (tAt l k)
@[simp] theorem insK_len (l : List T3) : ∀ k, (insK l k).length = k
  | 0 => rfl
  | k + 1 => by unfold insK; rw [insT_len, insK_len l k]
open Go.RowKit Go.Proofs
set_option linter.unusedSimpArgs false
set_option linter.unusedVariables false

end Go.Proofs.YteapdildbfimnaaDoor
namespace Go.Proofs.YteapdildbfimnaaDoor
open Go.RowKit Go.Proofs
set_option linter.unusedSimpArgs false
set_option linter.unusedVariables false

/-- A list of numbers that may grow. -/
def isG (l : List Int) (v : V) : Prop := ∃ (u : Value) (Z : Nat → Prop), v = .grow u Z 3 1 l.length fun j => vi (l.getD j 0)
theorem isG.one {l : List Int} {v : V} (h : isG l v) : v.one = true := by obtain ⟨u, Z, rfl⟩ := h; rfl
theorem Zof.grow {u : Value} {Z : Nat → Prop} {e : TypeId} {n : Nat} {g : Nat → Int} {b : Nat} : Zof (.grow u Z e 1 n fun j => vi (g j)) b ↔ Z b := by
  constructor
  · rintro ⟨Z', h, hb⟩
    cases h with
    | grow => exact hb
    | inGrow _ _ _ _ _ _ i _ h => cases h
  · intro h; exact ⟨Z, .grow _ _ _ _ _, h⟩
/-- Let go as a row. -/
def rowOfG : V → V
  | .grow u Z _ sz n f => .row u Z sz n f
  | v => v
theorem isG.row {l : List Int} {v : V} (h : isG l v) : isRow l (rowOfG v) ∧ VE v (rowOfG v) ∧ ∀ b, Zof (rowOfG v) b ↔ Zof v b := by
  obtain ⟨u, Z, rfl⟩ := h
  refine ⟨⟨u, Z, rfl⟩, ⟨rfl, rfl, rfl, rfl, fun i _ => VE.rfl' _⟩, fun b => ⟨?_, ?_⟩⟩
  · rintro ⟨Z', h, hb⟩
    cases h with
    | row => exact Zof.grow.2 hb
    | inRow _ _ _ _ _ i _ h => cases h
  · intro h; exact ⟨Z, .row _ _ _ _, Zof.grow.1 h⟩
open Go.RowKit Go.Proofs
set_option linter.unusedSimpArgs false
set_option linter.unusedVariables false
theorem isMats.of {s : List (List (List Int))} {n : Nat} {p : Nat → V → Prop} {v : V} (h : isL n p v) (hl : s.length = n) (hp : ∀ i v, i < n → p i v → isMat (matAt s i) v) : isMats s v := by
  subst hl
  obtain ⟨u, Z, F, rfl, h⟩ := h
  exact ⟨u, Z, F, rfl, fun i hi => ⟨hp i _ hi (h i hi).1, (h i hi).2⟩⟩
/-- The rows that are being made, apart from what is there. -/
def pU (N n cnt : Nat) (m : List (List Int)) (O : Nat → V) (F : Nat → V) : Prop := partL N n cnt (fun q => isRow (rowAt m q)) F ∧ ∀ q, q < cnt → ∀ i, i < 3 → Apart (O i) (F q)
theorem pU.nil (N n : Nat) (m : List (List Int)) (O F : Nat → V) : pU N n 0 m O F := ⟨⟨by omega, fun i hi => by omega⟩, fun q hq => by omega⟩
theorem pU.grow {N n cnt : Nat} {m : List (List Int)} {O F : Nat → V} {v : V} (h : pU N n cnt m O F) (hc : cnt < n) (hv : isRow (rowAt m cnt) v) (hN : ∀ b, Zof v b → N ≤ b) (hd : ∀ i, i < cnt → Apart (F i) v) (ho : ∀ i, i < 3 → Apart (O i) v) : pU N n (cnt + 1) m O (fun i => if i = cnt then v else F i) := by
  refine ⟨h.1.grow hc hv hN hd, fun q hq i hi => ?_⟩
  show Apart (O i) (if q = cnt then v else F q)
  by_cases e : q = cnt
  · rw [if_pos e]; exact ho i hi
  · rw [if_neg e]; exact h.2 q (by omega) i hi
end Go.Proofs.YteapdildbfimnaaDoor
namespace Go.Proofs.YteapdildbfimnaaDoor
open Go.RowKit Go.Proofs
set_option linter.unusedSimpArgs false
set_option linter.unusedVariables false
set_option maxRecDepth 20000

/-- Some list of terms of which p holds. -/
def someT (p : List T3 → Prop) : Res → Prop := fun r => ∃ l : List T3, p l ∧ r = .one (.fr 3 l.length (bterms l))
theorem someT.shape {p : List T3 → Prop} (r : Res) (h : someT p r) : r.shape 1 = true := by obtain ⟨x, _, rfl⟩ := h; rfl
/-- Some terms, and no more than q. -/
def TP (q : Nat) (l : List T3) : Prop := 1 ≤ l.length ∧ l.length ≤ q
/-- No more than q. -/
def TQ (q : Nat) (l : List T3) : Prop := l.length ≤ q

/-- The terms in cells that hold integers. -/
def anyT (n : Nat) (f : Nat → V) : List T3 := (List.range n).map fun k => (vInt (f (k * 3)), vInt (f (k * 3 + 1)), vInt (f (k * 3 + 2)))
@[simp] theorem anyT_len (n : Nat) (f : Nat → V) : (anyT n f).length = n := by simp [anyT]
theorem anyT_get {n : Nat} {f : Nat → V} {i : Nat} (hi : i < n * 3) : tf (anyT n f) i = vInt (f i) := by
  have e : tAt (anyT n f) (i / 3) = (vInt (f (i / 3 * 3)), vInt (f (i / 3 * 3 + 1)), vInt (f (i / 3 * 3 + 2))) := by
    simp [tAt, anyT, List.getD, show i / 3 < n by omega]
  unfold tf
  rw [e]
  rcases (show i % 3 = 0 ∨ i % 3 = 1 ∨ i % 3 = 2 by omega) with h | h | h
  · rw [if_pos h]; show vInt (f _) = _; congr 2; omega
  · rw [if_neg (by omega), if_pos h]; show vInt (f _) = _; congr 2; omega
  · rw [if_neg (by omega), if_neg (by omega)]; show vInt (f _) = _; congr 2; omega
def IntsTo (n : Nat) (f : Nat → V) : Prop := ∀ i, i < n * 3 → ∃ x, f i = vi x
theorem anyT_be {e : TypeId} {n N : Nat} {f : Nat → V} (hn : n * 3 ≤ N) (h : IntsTo n f) : BE ⟨e, N, f⟩ ⟨e, n * 3, fun i => vi (tf (anyT n f) i)⟩ := by
  refine ⟨rfl, hn, fun i hi => VE.of_eq ?_⟩
  have hi : i < n * 3 := hi
  obtain ⟨x, hx⟩ := h i hi
  show f i = vi (tf (anyT n f) i)
  rw [anyT_get hi, hx]; rfl
theorem retE_T {t N id : Nat} {p : List T3 → Prop} {s : ASt} {n : Nat} {blk : Blk} (hl : lookup s.σ t = some (.one (.own id 3 0 n))) (hb : s.h[id]? = some (some blk)) (he : blk.elem = 69) (hn : n * 3 ≤ blk.n) (hf : IntsTo n blk.f) (hp : ∀ l : List T3, l.length = n → p l) : retE [t] N (someT p) .ret s := by
  refine ⟨_, ⟨anyT n blk.f, hp _ (anyT_len _ _), rfl⟩, ⟨fun i hi => trivial, trivial⟩, ?_⟩
  unfold retOk
  simp only [getL, hl, Option.map_some, Res.list, fitsL, fits, srcs, ND, and_true, true_and]
  obtain ⟨e, N', f⟩ := blk
  have he : e = 69 := he
  subst he
  exact ⟨⟨(anyT_len _ _).symm, _, hb, by show BE _ (bterms _); unfold bterms; rw [anyT_len]; exact anyT_be hn hf⟩, by simp⟩

theorem retC_T {t N b k' id n : Nat} {Z : Nat → Prop} {c : V} {p : List T3 → Prop} {s : ASt} {blk : Blk} (hl : lookup s.σ t = some (.one (.own id 3 0 n))) (hb : s.h[id]? = some (some blk)) (he : blk.elem = 69) (hn : n * 3 ≤ blk.n) (hf : IntsTo n blk.f) {j : Nat} (hc : lookup s.σ 0 = some (.one (.pv (.cur b j Z c)))) (hj : j ≤ k') (hp : ∀ l : List T3, l.length = n → p l) : retC [t] N (someT p) b k' Z c .ret s := by
  refine ⟨⟨j, hc, hj⟩, _, ⟨anyT n blk.f, hp _ (anyT_len _ _), rfl⟩, ⟨fun i hi => trivial, trivial⟩, ?_⟩
  unfold retOk
  simp only [getL, hl, Option.map_some, Res.list, fitsL, fits, srcs, ND, and_true, true_and]
  obtain ⟨e, N', f⟩ := blk
  have he : e = 69 := he
  subst he
  exact ⟨⟨(anyT_len _ _).symm, _, hb, by show BE _ (bterms _); unfold bterms; rw [anyT_len]; exact anyT_be hn hf⟩, by simp⟩
theorem retC_Tnil {t N b k' : Nat} {Z : Nat → Prop} {c : V} {p : List T3 → Prop} {s : ASt} (hl : lookup s.σ t = some (sc (.slice none 0 0))) {j : Nat} (hc : lookup s.σ 0 = some (.one (.pv (.cur b j Z c)))) (hj : j ≤ k') (hp : p []) : retC [t] N (someT p) b k' Z c .ret s := by
  refine ⟨⟨j, hc, hj⟩, _, ⟨[], hp, rfl⟩, ⟨fun i hi => trivial, trivial⟩, ?_⟩
  unfold retOk
  simp only [getL, hl, Option.map_some, Res.list, fitsL, fits, srcs, ND, and_true, true_and]
  simp [bterms]

set_option maxHeartbeats 4000000 in
theorem plPutW (l : List T3) (t : T3) (hl : l.length ≤ 1099511627) : FnE Tryd.prog 68 [terms l, term t] (someT (TP (l.length + 1))) := by
  refine FnE.of_body (fun N => [terms l, term t]) (fun _ _ h => h) Tryd.call68 Tryd.func68 rfl Tryd.ntmps68 (ts := [4]) rfl (fun _ => by simp) (someT.shape) (fun N => ?_)
  repeat' (first | (with_reducible first | refine then_normal ?_ | refine then_ret ?_ | refine then_exit ?_ | refine block_normal ?_ | refine block_ret ?_) | ((with_reducible show blockQ _ _ _ _); first | refine block_exit ?_ | refine block_exit_ne rfl ?_) | ((with_reducible show AWP _ _ _ _ _); first | (with_reducible first | refine AWP.seq ?_ | refine AWP.block ?_ | refine AWP.region ?_ | refine AWP.ret ?_ | refine AWP.exit ?_ | refine AWP.skip ?_) | refine AWP.drawn rfl (by kernel_rfl) ?_ | refine AWP.cond rfl ?_ ?_) | with_reducible refine ev_nil ?_ | ((first | ((with_reducible show evOps _ _ _ _ _ _); (first | refine ev_step rfl ?_ | refine ev_undef rfl rfl rfl ?_); intro K hK) | ((with_reducible show EvOpen _ _ _ _ _ _ _); refine ev_open ?_; intro K hK) | ((with_reducible show SkOpen _ _ _ _ _ _ _); refine sk_open ?_; intro K hK) | ((with_reducible show callK _ _ _ _ _ _ _ _); first | fail)); simp only [evOp, evQ, withS, opd, kput, putS, upd, lookup, slotsOf, frz, newBlk, boxV, List.nil_append, List.length_nil, Nat.reduceEqDiff, Nat.reduceLT, Nat.zero_add, ↓reduceIte, eq_self, true_and]) | refine ev_guard rfl rfl rfl ?_ ?_ | ((with_reducible show retQ _ _ _ _); simp only [eq_self]) | (with_reducible refine hK _ ?_; clear hK K) | (with_reducible refine And.intro ?_ ?_) | (with_reducible intro hc; try simp only [eq_self] at hc) | omega)
  all_goals try (exfalso; omega; done)
  refine AWP.loop_entR [0] (fun k : Nat => ⟨[(0, .one (.pv (terms l))), (3, .one (.ptr 0 0)), (5, sc (.int .i64 k))], [some ⟨69, 3, fun i => vi (t3 t i)⟩], 55⟩)
    (fun k => k ≤ l.length) (fun k => l.length - k) 0 (by omega) (by simp [EntR, EntSR, EntHR, SlR, VE, VE.rfl', lookup, BE, upd, sc]) ?_
  intro k hkl
  have fin : ∀ (n : Nat) (m : List T3), 1 ≤ n → n ≤ l.length + 1 → m.length = n → TP (l.length + 1) m := fun n m h1 h2 e => ⟨by omega, by omega⟩
  by_cases hlt : k < l.length
  · have hbk := (plBefore_fn (tAt l k) t).of_ve (vs' := [.agg 3 fun j => vi (tf l (k * 3 + j)), term t]) ⟨ve_agg3 fun i hi => by rw [tf_t3 _ _ hi], VE.rfl' (term t), trivial⟩
    cases hbf : befB (tAt l k) t with
    | true =>
      rw [hbf] at hbk
      repeat' (first | (with_reducible first | refine then_normal ?_ | refine then_ret ?_ | refine then_exit ?_ | refine block_normal ?_ | refine block_ret ?_) | ((with_reducible show blockQ _ _ _ _); first | refine block_exit ?_ | refine block_exit_ne rfl ?_) | ((with_reducible show AWP _ _ _ _ _); first | (with_reducible first | refine AWP.seq ?_ | refine AWP.block ?_ | refine AWP.region ?_ | refine AWP.ret ?_ | refine AWP.exit ?_ | refine AWP.skip ?_) | refine AWP.drawn rfl (by kernel_rfl) ?_ | refine AWP.cond rfl ?_ ?_) | with_reducible refine ev_nil ?_ | ((first | ((with_reducible show evOps _ _ _ _ _ _); (first | refine ev_step rfl ?_ | refine ev_undef rfl rfl rfl ?_); intro K hK) | ((with_reducible show EvOpen _ _ _ _ _ _ _); refine ev_open ?_; intro K hK) | ((with_reducible show SkOpen _ _ _ _ _ _ _); refine sk_open ?_; intro K hK) | ((with_reducible show callK _ _ _ _ _ _ _ _); first  | (refine call_scalar (hbk) (Nat.le_of_ble_eq_true rfl) rfl ?_))); simp only [evOp, evQ, evB, binK, withS, opd, kput, putS, upd, lookup, skipOp, argsK, loadOwn, bringIn, bring, Res.list, Res.slot, InK_i64, appendK, srcK, growK, frz, newBlk, partsK, buildSliceK, plSlice, cutK, boundK, V.one, Value.oneCell', List.set_cons_zero, List.set_cons_succ, sz_terms, ei_terms, ea_terms, c_term, Nat.zero_le, List.getElem?_cons_zero, List.getElem?_cons_succ, List.reverse_cons, List.reverse_nil, List.nil_append, List.cons_append, List.length_cons, List.length_nil, Nat.reduceEqDiff, Nat.reduceAdd, Nat.reduceLT, Nat.reduceLeDiff, Nat.one_mul, Nat.zero_mul, Nat.zero_add, Nat.sub_zero, Nat.not_lt_zero, ↓reduceIte, eq_self, true_and, and_true, Bool.not_true, Bool.true_eq_false, Bool.false_eq_true, false_implies, forall_const, implies_true, Int.toNat_natCast, Int.toNat_zero, Option.isSome_some]) | refine ev_guard rfl rfl rfl ?_ ?_ | ((with_reducible show retQ _ _ _ _); simp only [eq_self]) | (with_reducible refine hK _ ?_; clear hK K) | (with_reducible refine And.intro ?_ ?_) | (with_reducible intro hc; try simp only [decide_eq_true_eq, decide_eq_false_iff_not, Bool.not_true, Int.not_lt, gt_iff_lt, reduceCtorEq, Bool.true_eq_false] at hc) | omega)
      all_goals first
        | (exfalso; omega)
        | omega
        | exact ⟨k + 1, by omega, by omega, [0], rfl, by decide, by simp [EntSR, SlR, VE, VE.rfl', lookup, sc], BE.rfl' _, trivial⟩
        | trace_state
    | false =>
      rw [hbf] at hbk
      have hbq := (plBefore_fn t (tAt l k)).of_ve (vs' := [term t, .agg 3 fun j => vi (tf l (k * 3 + j))]) ⟨VE.rfl' (term t), ve_agg3 fun i hi => by rw [tf_t3 _ _ hi], trivial⟩
      cases hb2 : befB t (tAt l k) with
      | true =>
        rw [hb2] at hbq
        repeat' (first | ((with_reducible show evNd _ _ _ _ _); first | (with_reducible refine nd_done ?_) | (refine nd_take rfl ?_; intro K hK; simp only [evOp, evQ, withS, opd, kput, putS, upd, lookup, cutK, boundK, sz_terms, Nat.zero_le, Nat.reduceEqDiff, Nat.reduceLT, Nat.zero_mul, Nat.zero_add, Nat.sub_zero, ↓reduceIte, eq_self, true_and, Int.toNat_natCast]) | (refine nd_one rfl ?_; intro K hK; simp only [evOp, evQ, opd, kput, putS, upd, lookup, loadOwn, appendK, srcK, growK, frz, newBlk, partsK, buildSliceK, plSlice, V.one, Value.oneCell', List.set_cons_zero, List.set_cons_succ, ei_terms, ea_terms, c_term, Nat.zero_le, List.getElem?_cons_zero, List.getElem?_cons_succ, List.nil_append, List.cons_append, List.length_cons, List.length_nil, Nat.reduceEqDiff, Nat.reduceAdd, Nat.reduceLT, Nat.reduceLeDiff, Nat.one_mul, Nat.zero_mul, Nat.zero_add, Nat.sub_zero, Nat.not_lt_zero, ↓reduceIte, eq_self, true_and, false_implies, forall_const, implies_true]) | (refine nd_alt rfl ?_ ?_)) | ((with_reducible show NdOpen _ _ _ _ _ _); refine nd_open ?_; intro K hK; simp only [evOp, opd, upd, lookup, appendK, srcK, growK, newBlk, partsK, buildSliceK, V.one, Value.oneCell', List.set_cons_zero, List.set_cons_succ, ei_terms, ea_terms, Nat.zero_le, List.getElem?_cons_zero, List.getElem?_cons_succ, List.nil_append, List.cons_append, List.length_cons, List.length_nil, Nat.reduceEqDiff, Nat.reduceAdd, Nat.reduceLT, Nat.reduceLeDiff, Nat.zero_mul, Nat.zero_add, Nat.sub_zero, Nat.not_lt_zero, ↓reduceIte, eq_self, true_and, false_implies, forall_const, implies_true]) | (with_reducible first | refine then_normal ?_ | refine then_ret ?_ | refine then_exit ?_ | refine block_normal ?_ | refine block_ret ?_) | ((with_reducible show blockQ _ _ _ _); first | refine block_exit ?_ | refine block_exit_ne rfl ?_) | ((with_reducible show AWP _ _ _ _ _); first | (refine AWP.drawn_nd (id := 8) (.take 1 (.take 2 (.take 3 (.take 8 (.alt 0 (.alt 4 (.one 5 (.one 6 (.one 7 (.one 9 (.take 10 .done))))) (.one 5 (.alt 4 (.one 6 (.one 7 (.one 9 (.take 10 .done)))) (.one 6 (.one 4 (.one 7 (.one 9 (.take 10 .done)))))))) (.one 5 (.alt 0 (.alt 4 (.one 6 (.one 7 (.one 9 (.take 10 .done)))) (.one 6 (.one 4 (.one 7 (.one 9 (.take 10 .done)))))) (.one 6 (.one 0 (.one 4 (.one 7 (.one 9 (.take 10 .done))))))))))))) rfl (by kernel_rfl) ?_) | (with_reducible first | refine AWP.seq ?_ | refine AWP.block ?_ | refine AWP.region ?_ | refine AWP.ret ?_ | refine AWP.exit ?_ | refine AWP.skip ?_) | refine AWP.drawn rfl (by kernel_rfl) ?_ | refine AWP.cond rfl ?_ ?_) | with_reducible refine ev_nil ?_ | ((first | ((with_reducible show evOps _ _ _ _ _ _); (first | refine ev_step rfl ?_ | refine ev_undef rfl rfl rfl ?_); intro K hK) | ((with_reducible show EvOpen _ _ _ _ _ _ _); refine ev_open ?_; intro K hK) | ((with_reducible show SkOpen _ _ _ _ _ _ _); refine sk_open ?_; intro K hK) | ((with_reducible show callK _ _ _ _ _ _ _ _); first  | (refine call_scalar (hbk) (Nat.le_of_ble_eq_true rfl) rfl ?_) | (refine call_scalar (hbq) (Nat.le_of_ble_eq_true rfl) rfl ?_))); simp only [evOp, evQ, evB, binK, withS, opd, kput, putS, upd, lookup, skipOp, argsK, loadOwn, bringIn, bring, Res.list, Res.slot, cutK, boundK, sz_terms, c_term, List.getElem?_cons_zero, List.reverse_cons, List.reverse_nil, List.nil_append, List.cons_append, Nat.reduceEqDiff, Nat.reduceLT, Nat.reduceLeDiff, Nat.zero_mul, Nat.zero_add, ↓reduceIte, eq_self, true_and, and_true, Bool.not_true, Bool.true_eq_false, Bool.false_eq_true, false_implies, forall_const, Int.toNat_natCast, Int.toNat_zero, Option.isSome_some]) | refine ev_guard rfl rfl rfl ?_ ?_ | ((with_reducible show retQ _ _ _ _); simp only [eq_self]) | (with_reducible refine hK _ ?_; clear hK K) | (with_reducible refine And.intro ?_ ?_) | (with_reducible intro hc; try simp only [decide_eq_true_eq, decide_eq_false_iff_not, Bool.not_true, Int.not_lt, gt_iff_lt, reduceCtorEq, Bool.true_eq_false] at hc) | omega)
        all_goals first
          | (exfalso; omega)
          | omega
          | ((repeat' split) <;> first | rfl | (exfalso; omega))
          | (refine retE_T (n := k + 1 + (l.length - k)) rfl rfl rfl (Nat.le_refl _) (fun i hi => ?_) (fun m e => fin _ m (by omega) (by omega) e); dsimp only; (repeat' split) <;> first | exact ⟨_, rfl⟩ | (exfalso; omega))
          | trace_state
      | false =>
        rw [hb2] at hbq
        repeat' (first | ((with_reducible show evNd _ _ _ _ _); first | (with_reducible refine nd_done ?_) | (refine nd_take rfl ?_; intro K hK; simp only [evOp, evQ, withS, opd, kput, putS, upd, lookup, cutK, boundK, sz_terms, fi2, Nat.zero_le, Nat.reduceEqDiff, Nat.reduceLT, Nat.reduceLeDiff, Nat.zero_mul, Nat.zero_add, Nat.sub_zero, ↓reduceIte, eq_self, true_and, Int.toNat_natCast, Int.toNat_zero]) | (refine nd_one rfl ?_; intro K hK; simp only [evOp, evQ, opd, kput, putS, upd, lookup, argsK, loadOwn, appendK, srcK, growK, storeK, frz, storeV, setBlk, newBlk, partsK, buildSliceK, plSlice, V.one, Value.oneCell', List.set_cons_zero, List.set_cons_succ, c_int, ei_terms, ea_terms, c_term, tf_2, t3_2, Nat.zero_le, List.getElem?_cons_zero, List.getElem?_cons_succ, List.reverse_cons, List.reverse_nil, List.nil_append, List.cons_append, List.length_cons, List.length_nil, Nat.reduceEqDiff, Nat.reduceAdd, Nat.reduceLT, Nat.reduceLeDiff, Nat.one_mul, Nat.zero_mul, Nat.add_zero, Nat.zero_add, Nat.sub_zero, Nat.not_lt_zero, ↓reduceIte, eq_self, true_and, false_implies, forall_const, implies_true]) | (refine nd_alt rfl ?_ ?_)) | ((with_reducible show NdOpen _ _ _ _ _ _); refine nd_open ?_; intro K hK; simp only [evOp, evQ, opd, kput, putS, upd, lookup, loadOwn, appendK, srcK, growK, newBlk, partsK, buildSliceK, V.one, Value.oneCell', List.set_cons_zero, List.set_cons_succ, c_int, ei_terms, ea_terms, t3_2, Nat.zero_le, List.getElem?_cons_zero, List.getElem?_cons_succ, List.nil_append, List.cons_append, List.length_cons, List.length_nil, Nat.reduceEqDiff, Nat.reduceAdd, Nat.reduceLT, Nat.reduceLeDiff, Nat.zero_mul, Nat.zero_add, Nat.sub_zero, Nat.not_lt_zero, ↓reduceIte, eq_self, true_and, false_implies, forall_const, implies_true]) | ((with_reducible show evNd _ _ _ _ _); first | (with_reducible refine nd_done ?_) | (refine nd_take rfl ?_; intro K hK; simp only [eq_self]) | (refine nd_one rfl ?_; intro K hK; simp only [eq_self]) | (refine nd_alt rfl ?_ ?_)) | ((with_reducible show NdOpen _ _ _ _ _ _); refine nd_open ?_; intro K hK; simp only [eq_self]) | (with_reducible first | refine then_normal ?_ | refine then_ret ?_ | refine then_exit ?_ | refine block_normal ?_ | refine block_ret ?_) | ((with_reducible show blockQ _ _ _ _); first | refine block_exit ?_ | refine block_exit_ne rfl ?_) | ((with_reducible show AWP _ _ _ _ _); first | (refine AWP.drawn_nd (id := 6) (.take 0 (.take 2 (.take 3 (.take 4 (.alt 1 (.one 5 (.one 6 (.take 7 (.one 8 .done)))) (.one 5 (.one 1 (.one 6 (.take 7 (.one 8 .done)))))))))) rfl (by kernel_rfl) ?_) | (refine AWP.drawn_nd (id := 8) (.take 1 (.take 2 (.take 3 (.take 8 (.alt 0 (.alt 4 (.one 5 (.one 6 (.one 7 (.one 9 (.take 10 .done))))) (.one 5 (.alt 4 (.one 6 (.one 7 (.one 9 (.take 10 .done)))) (.one 6 (.one 4 (.one 7 (.one 9 (.take 10 .done)))))))) (.one 5 (.alt 0 (.alt 4 (.one 6 (.one 7 (.one 9 (.take 10 .done)))) (.one 6 (.one 4 (.one 7 (.one 9 (.take 10 .done)))))) (.one 6 (.one 0 (.one 4 (.one 7 (.one 9 (.take 10 .done))))))))))))) rfl (by kernel_rfl) ?_) | (with_reducible first | refine AWP.seq ?_ | refine AWP.block ?_ | refine AWP.region ?_ | refine AWP.ret ?_ | refine AWP.exit ?_ | refine AWP.skip ?_) | refine AWP.drawn rfl (by kernel_rfl) ?_ | refine AWP.cond rfl ?_ ?_) | with_reducible refine ev_nil ?_ | ((first | ((with_reducible show evOps _ _ _ _ _ _); (first | refine ev_step rfl ?_ | refine ev_undef rfl rfl rfl ?_); intro K hK) | ((with_reducible show EvOpen _ _ _ _ _ _ _); refine ev_open ?_; intro K hK) | ((with_reducible show SkOpen _ _ _ _ _ _ _); refine sk_open ?_; intro K hK) | ((with_reducible show callK _ _ _ _ _ _ _ _); first  | (refine call_scalar (hbk) (Nat.le_of_ble_eq_true rfl) rfl ?_) | (refine call_scalar (hbq) (Nat.le_of_ble_eq_true rfl) rfl ?_) | (refine call_scalar (l1Least_fn _ _) (Nat.le_of_ble_eq_true rfl) rfl ?_))); simp only [evOp, evQ, evB, binK, withS, opd, kput, putS, upd, lookup, skipOp, argsK, loadOwn, bringIn, bring, Res.list, Res.slot, cutK, boundK, sz_terms, c_term, List.getElem?_cons_zero, List.reverse_cons, List.reverse_nil, List.nil_append, List.cons_append, Nat.reduceEqDiff, Nat.reduceLT, Nat.reduceLeDiff, Nat.one_mul, Nat.zero_mul, Nat.zero_add, ↓reduceIte, eq_self, true_and, and_true, Bool.not_true, Bool.not_false, Bool.true_eq_false, Bool.false_eq_true, false_implies, forall_const, Int.toNat_natCast, Int.toNat_zero, Int.toNat_one, Option.isSome_some]) | refine ev_guard rfl rfl rfl ?_ ?_ | ((with_reducible show retQ _ _ _ _); simp only [eq_self]) | (with_reducible refine hK _ ?_; clear hK K) | (with_reducible refine And.intro ?_ ?_) | (with_reducible intro hc; try simp only [decide_eq_true_eq, decide_eq_false_iff_not, Bool.not_true, Int.not_lt, gt_iff_lt, reduceCtorEq, Bool.true_eq_false] at hc) | omega)
        all_goals first
          | (exfalso; omega)
          | omega
          | ((repeat' split) <;> first | rfl | (exfalso; omega))
          | (refine retE_T rfl rfl rfl (Nat.le_refl _) (fun i hi => ?_) (fun m e => fin _ m (by omega) (by omega) e); dsimp only; (repeat' split) <;> first | exact ⟨_, rfl⟩ | (exfalso; omega))
          | trace_state
  · obtain rfl : k = l.length := by omega
    repeat' (first | ((with_reducible show evNd _ _ _ _ _); first | (with_reducible refine nd_done ?_) | (refine nd_take rfl ?_; intro K hK; simp only [evOp, evQ, withS, opd, kput, putS, upd, lookup, cutK, boundK, sz_terms, Nat.zero_le, Nat.reduceEqDiff, Nat.reduceLT, Nat.zero_mul, Nat.zero_add, Nat.sub_zero, ↓reduceIte, eq_self, true_and, Int.toNat_natCast]) | (refine nd_one rfl ?_; intro K hK; simp only [evOp, evQ, opd, kput, putS, upd, lookup, loadOwn, appendK, srcK, growK, frz, newBlk, partsK, buildSliceK, plSlice, V.one, Value.oneCell', List.set_cons_zero, List.set_cons_succ, ei_terms, ea_terms, c_term, Nat.zero_le, List.getElem?_cons_zero, List.getElem?_cons_succ, List.nil_append, List.cons_append, List.length_cons, List.length_nil, Nat.reduceEqDiff, Nat.reduceAdd, Nat.reduceLT, Nat.reduceLeDiff, Nat.one_mul, Nat.zero_mul, Nat.zero_add, Nat.sub_zero, Nat.not_lt_zero, ↓reduceIte, eq_self, true_and, false_implies, forall_const, implies_true]) | (refine nd_alt rfl ?_ ?_)) | ((with_reducible show NdOpen _ _ _ _ _ _); refine nd_open ?_; intro K hK; simp only [evOp, opd, upd, lookup, appendK, srcK, growK, newBlk, partsK, buildSliceK, V.one, Value.oneCell', List.set_cons_zero, List.set_cons_succ, ei_terms, ea_terms, Nat.zero_le, List.getElem?_cons_zero, List.getElem?_cons_succ, List.nil_append, List.cons_append, List.length_cons, List.length_nil, Nat.reduceEqDiff, Nat.reduceAdd, Nat.reduceLT, Nat.reduceLeDiff, Nat.zero_mul, Nat.zero_add, Nat.sub_zero, Nat.not_lt_zero, ↓reduceIte, eq_self, true_and, false_implies, forall_const, implies_true]) | (with_reducible first | refine then_normal ?_ | refine then_ret ?_ | refine then_exit ?_ | refine block_normal ?_ | refine block_ret ?_) | ((with_reducible show blockQ _ _ _ _); first | refine block_exit ?_ | refine block_exit_ne rfl ?_) | ((with_reducible show AWP _ _ _ _ _); first | (refine AWP.drawn_nd (id := 8) (.take 1 (.take 2 (.take 3 (.take 8 (.alt 0 (.alt 4 (.one 5 (.one 6 (.one 7 (.one 9 (.take 10 .done))))) (.one 5 (.alt 4 (.one 6 (.one 7 (.one 9 (.take 10 .done)))) (.one 6 (.one 4 (.one 7 (.one 9 (.take 10 .done)))))))) (.one 5 (.alt 0 (.alt 4 (.one 6 (.one 7 (.one 9 (.take 10 .done)))) (.one 6 (.one 4 (.one 7 (.one 9 (.take 10 .done)))))) (.one 6 (.one 0 (.one 4 (.one 7 (.one 9 (.take 10 .done))))))))))))) rfl (by kernel_rfl) ?_) | (with_reducible first | refine AWP.seq ?_ | refine AWP.block ?_ | refine AWP.region ?_ | refine AWP.ret ?_ | refine AWP.exit ?_ | refine AWP.skip ?_) | refine AWP.drawn rfl (by kernel_rfl) ?_ | refine AWP.cond rfl ?_ ?_) | with_reducible refine ev_nil ?_ | ((first | ((with_reducible show evOps _ _ _ _ _ _); (first | refine ev_step rfl ?_ | refine ev_undef rfl rfl rfl ?_); intro K hK) | ((with_reducible show EvOpen _ _ _ _ _ _ _); refine ev_open ?_; intro K hK) | ((with_reducible show SkOpen _ _ _ _ _ _ _); refine sk_open ?_; intro K hK) | ((with_reducible show callK _ _ _ _ _ _ _ _); first  | fail)); simp only [evOp, evQ, evB, binK, withS, opd, kput, putS, upd, lookup, skipOp, argsK, loadOwn, cutK, boundK, sz_terms, c_term, List.getElem?_cons_zero, List.reverse_cons, List.reverse_nil, List.nil_append, List.cons_append, Nat.reduceEqDiff, Nat.reduceLT, Nat.reduceLeDiff, Nat.zero_mul, Nat.zero_add, ↓reduceIte, eq_self, true_and, Bool.not_true, Bool.false_eq_true, false_implies, forall_const, Int.toNat_natCast, Int.toNat_zero, Option.isSome_some]) | refine ev_guard rfl rfl rfl ?_ ?_ | ((with_reducible show retQ _ _ _ _); simp only [eq_self]) | (with_reducible refine hK _ ?_; clear hK K) | (with_reducible refine And.intro ?_ ?_) | (with_reducible intro hc; try simp only [decide_eq_true_eq, decide_eq_false_iff_not, Bool.not_true, Int.not_lt, gt_iff_lt, reduceCtorEq, Bool.true_eq_false] at hc) | omega)
    all_goals first
      | (exfalso; omega)
      | omega
      | ((repeat' split) <;> first | rfl | (exfalso; omega))
      | (refine retE_T rfl rfl rfl (Nat.le_refl _) (fun i hi => ?_) (fun m e => fin _ m (by omega) (by omega) e); dsimp only; (repeat' split) <;> first | exact ⟨_, rfl⟩ | (exfalso; omega))
      | trace_state

theorem plPutA (l : List T3) (x y z : Int) (f : Nat → V) (h0 : f 0 = vi x) (h1 : f 1 = vi y) (h2 : f 2 = vi z) (hl : l.length ≤ 1099511627) : FnE Tryd.prog 68 [.seq 3 l.length fun i => vi (tf l i), .agg 3 f] (someT (TP (l.length + 1))) :=
  (plPutW l (x, y, z) hl).bare ⟨VE.rfl' (terms l), ⟨rfl, fun i hi => by
    rcases three hi with rfl | rfl | rfl
    · rw [h0]; rfl
    · rw [h1]; rfl
    · rw [h2]; rfl⟩, trivial⟩

open Go.RowKit Go.Proofs
set_option linter.unusedSimpArgs false
set_option linter.unusedVariables false
set_option maxRecDepth 20000
theorem snocT_be {e : TypeId} {L : List T3} {t : T3} {N : Nat} {f : Nat → V} (hN : (L.length + 1) * 3 ≤ N) (h1 : ∀ q, q < L.length * 3 → f q = vi (tf L q)) (h2 : ∀ j, j < 3 → f (L.length * 3 + j) = vi (t3 t j)) : BE ⟨e, N, f⟩ ⟨e, (L ++ [t]).length * 3, fun q => vi (tf (L ++ [t]) q)⟩ := by
  have hl : (L ++ [t]).length = L.length + 1 := by simp
  refine ⟨rfl, by show (L ++ [t]).length * 3 ≤ N; omega, fun q hq => VE.of_eq ?_⟩
  have hq : q < (L ++ [t]).length * 3 := hq
  rw [hl] at hq
  show f q = vi (tf (L ++ [t]) q)
  by_cases h : q < L.length * 3
  · have ea : tAt (L ++ [t]) (q / 3) = tAt L (q / 3) := by simp only [tAt, List.getD]; rw [List.getElem?_append_left (by omega)]
    rw [h1 q h]
    unfold tf
    rw [ea]
  · obtain ⟨j, hj⟩ : ∃ j, q = L.length * 3 + j := ⟨q - L.length * 3, by omega⟩
    subst hj
    have hj : j < 3 := by omega
    rw [h2 j hj, tf_t3 _ _ hj]
    congr 2
    simp [tAt, List.getD]
theorem z3 {r : Nat} (h : r < 3) : ∃ x, V.val ([Value.int .i64 0, Value.int .i64 0, Value.int .i64 0].getD r undef) = vi x := by
  rcases three h with rfl | rfl | rfl <;> exact ⟨0, rfl⟩
section
variable {b m : Nat} {Z : Nat → Prop} {g : Nat → Int}

set_option maxHeartbeats 8000000 in
theorem plane_fn (k : Nat) (hk : k ≤ 549755810000) (hb : BytOk m g) : FnC Tryd.prog 46 b k (k + 300) Z (bytV m g) [] (someT (TP 12)) := by
  refine FnC.of_body Tryd.call46 Tryd.func46 rfl Tryd.ntmps46 (ts := [2]) rfl (by simp) (someT.shape) (fun N cx hcx hbN => ?_)
  repeat' (first | ((with_reducible show evNx _ _ _ _ _ _); first | (with_reducible refine nx_done ?_) | (refine nx_one rfl ?_) | (refine nx_alt rfl ?_ ?_) | (with_reducible refine nx_st ?_)) | ((with_reducible show evSx _ _ _ _ _ _); first | (with_reducible refine sx_done ?_) | (with_reducible refine sx_st ?_) | (with_reducible refine sx_op ?_)) | ((with_reducible show evTake _ _ _ _ _); with_reducible refine take_nil ?_) | ((with_reducible show evSy _ _ _ _ _ _ _); first | (with_reducible refine sy_done ?_) | (refine sy_last rfl ?_) | (refine sy_one (by decide) rfl ?_) | (refine sy_alt (by decide) rfl ?_ ?_) | (with_reducible refine sy_st ?_)) | ((with_reducible show StK _ _ _); first | fail) | (with_reducible first | refine then_normal ?_ | refine then_ret ?_ | refine then_exit ?_ | refine block_normal ?_ | refine block_ret ?_) | ((with_reducible show blockQ _ _ _ _); first | refine block_exit ?_ | refine block_exit_ne rfl ?_) | ((with_reducible show AWP _ _ _ _ _); first | (refine AWP.region_sx (id := 2) [.op, .op, .op, .op] ?_) | (refine AWP.region_sx (id := 3) [.op, .op, .op, .op] ?_) | (with_reducible first | refine AWP.seq ?_ | refine AWP.block ?_ | refine AWP.region ?_ | refine AWP.ret ?_ | refine AWP.exit ?_ | refine AWP.skip ?_) | refine AWP.drawn rfl (by kernel_rfl) ?_ | refine AWP.cond rfl ?_ ?_) | with_reducible refine ev_nil ?_ | ((first | ((with_reducible show evNx _ _ _ _ _ _); refine nx_take rfl ?_; intro K hK) | ((with_reducible show Ax _ _ _ _ _); first | ((first | refine ax_callC (f := 22) ?_ | refine ax_callC (f := 40) ?_); refine callC_go (x := _) (xs := _) rfl rfl rfl (by first | exact .inl (by rw [hcx]; exact rfl) | exact .inr (by assumption)) (by (try simp only [okS, okSl, okH, eq_self, true_and, and_true, and_self]); repeat' (first | exact trivial | exact rfl | exact disj_cut | exact disj_lt (by assumption) | assumption | omega | refine And.intro ?_ ?_ | (intro i hi; first | exact trivial | (split <;> first | exact trivial | exact disj_lt (by assumption) | exact disj_cut) | (repeat' split) <;> exact trivial))) (by (try simp only [okS, okSl, okH, eq_self, true_and, and_true, and_self]); repeat' (first | exact trivial | exact rfl | exact disj_cut | exact disj_lt (by assumption) | assumption | omega | refine And.intro ?_ ?_ | (intro i hi; first | exact trivial | (split <;> first | exact trivial | exact disj_lt (by assumption) | exact disj_cut) | (repeat' split) <;> exact trivial))) (fun K1 hK1 => by simp only [argsC, opd, lookup, Nat.zero_add, Nat.reduceEqDiff, ↓reduceIte, List.getElem?_cons_zero, List.getElem?_cons_succ, List.reverse_cons, List.reverse_nil, List.nil_append, List.cons_append]; repeat' (first | exact hK1 | exact trivial | exact disj_cut | assumption | omega | refine And.intro ?_ ?_)) ?_; first | (refine ⟨_, _, among4_fn _ _ _ _ _ _ (fun x => 1 ≤ x ∧ x ≤ 3) (by omega) hb rfl rfl rfl rfl (by decide), ?_⟩; rintro _ ⟨most, hmost, rfl⟩ hnewZ; clear hnewZ) | (refine ⟨_, _, pick_fn _ _ (by omega) hb, ?_⟩; rintro _ ⟨x, hx, rfl⟩ hnewZ; clear hnewZ)) | (refine ax_op rfl ?_; intro K hK)) | ((with_reducible show evTake _ _ _ _ _); refine take_step rfl ?_; intro K hK) | ((with_reducible show evSy _ _ _ _ _ _ _); refine sy_take rfl ?_; intro K hK) | ((with_reducible show AxB _ _ _ _ _); first | (refine axb_op rfl rfl ?_; intro K hK)) | ((with_reducible show evOps _ _ _ _ _ _); (first | refine ev_step rfl ?_ | refine ev_undef rfl rfl rfl ?_); intro K hK) | ((with_reducible show EvOpen _ _ _ _ _ _ _); refine ev_open ?_; intro K hK) | ((with_reducible show SkOpen _ _ _ _ _ _ _); refine sk_open ?_; intro K hK) | ((with_reducible show callK _ _ _ _ _ _ _ _); first  | fail)); simp only [evOp, evQ, binK, withS, opd, kput, putS, upd, lookup, bringIn, bring, Res.list, Res.slot, slotsOf, InK_i64, frz, newBlk, partsK, buildSliceK, plSlice, V.one, Value.oneCell', ei_ints, ea_ints, swpS, swSl, List.map_nil, List.nil_append, List.length_cons, List.length_nil, Nat.reduceEqDiff, Nat.reduceLT, Nat.reduceLeDiff, Nat.mul_one, Nat.zero_add, Nat.mod_one, List.getD_cons_zero, ↓reduceIte, eq_self, true_and, Bool.false_eq_true]) | refine ev_guard rfl rfl rfl ?_ ?_ | ((with_reducible show retQ _ _ _ _); simp only [eq_self]) | (with_reducible refine hK _ ?_; clear hK K) | (with_reducible refine And.intro ?_ ?_) | (with_reducible intro hc; try simp only [eq_self] at hc) | omega)
  refine AWP.virtual 3 69 3 rfl ?_
  refine AWP.loop_entR [1] (fun y : Nat × List T3 => ⟨[(0, .one (.pv (.cur b (k + 4 + 10 * y.1) Z (bytV m g)))), (3, .one (.own 0 3 0 y.2.length)), (4, sc (.int .i64 most)), (5, sc (.int .i64 (1 + x - y.1)))], [some ⟨69, y.2.length * 3, fun i => vi (tf y.2 i)⟩], 74⟩)
    (fun y => (y.1 : Int) ≤ 1 + x ∧ y.2.length ≤ y.1 ∧ (1 ≤ y.1 → 1 ≤ y.2.length)) (fun y => 7 - y.1) (0, []) ⟨by simp; omega, by simp, by simp⟩ (by simp [EntR, EntSR, EntHR, SlR, VE, lookup, BE, upd, sc, VE.rfl', oldC]) ?_
  rintro ⟨q, l⟩ ⟨hq1, hq2, hq3⟩
  dsimp only at hq1 hq2 hq3
  by_cases hgo : (q : Int) < 1 + x
  · repeat' (first | ((with_reducible show evNx _ _ _ _ _ _); first | (with_reducible refine nx_done ?_) | (refine nx_one rfl ?_) | (refine nx_alt rfl ?_ ?_) | (with_reducible refine nx_st ?_)) | ((with_reducible show evSx _ _ _ _ _ _); first | (with_reducible refine sx_done ?_) | (with_reducible refine sx_st ?_) | (with_reducible refine sx_op ?_)) | ((with_reducible show evTake _ _ _ _ _); with_reducible refine take_nil ?_) | ((with_reducible show evSy _ _ _ _ _ _ _); first | (with_reducible refine sy_done ?_) | (refine sy_last rfl ?_) | (refine sy_one (by decide) rfl ?_) | (refine sy_alt (by decide) rfl ?_ ?_) | (with_reducible refine sy_st ?_)) | ((with_reducible show StK _ _ _); first | fail) | (with_reducible first | refine then_normal ?_ | refine then_ret ?_ | refine then_exit ?_ | refine block_normal ?_ | refine block_ret ?_) | ((with_reducible show blockQ _ _ _ _); first | refine block_exit ?_ | refine block_exit_ne rfl ?_) | ((with_reducible show AWP _ _ _ _ _); first | (refine AWP.region_sx (id := 6) [.op, .op, .op, .op, .op] ?_) | (refine AWP.region_sx (id := 7) [.op, .op, .op, .op, .op, .op, .op, .op, .op, .op, .op, .op, .op] ?_) | (with_reducible first | refine AWP.seq ?_ | refine AWP.block ?_ | refine AWP.region ?_ | refine AWP.ret ?_ | refine AWP.exit ?_ | refine AWP.skip ?_) | refine AWP.drawn rfl (by kernel_rfl) ?_ | refine AWP.cond rfl ?_ ?_) | with_reducible refine ev_nil ?_ | ((first | ((with_reducible show evNx _ _ _ _ _ _); refine nx_take rfl ?_; intro K hK) | ((with_reducible show Ax _ _ _ _ _); first | (refine ax_callE (f := 68) ?_) | ((first | refine ax_callC (f := 40) ?_ | refine ax_callC (f := 48) ?_); refine callC_go (x := _) (xs := _) rfl rfl rfl (by first | exact .inl (by rw [hcx]; exact rfl) | exact .inr (by assumption)) (by (try simp only [okS, okSl, okH, eq_self, true_and, and_true, and_self]); repeat' (first | exact trivial | exact rfl | exact disj_cut | exact disj_lt (by assumption) | assumption | omega | refine And.intro ?_ ?_ | (intro i hi; first | exact trivial | (split <;> first | exact trivial | exact disj_lt (by assumption) | exact disj_cut) | (repeat' split) <;> exact trivial))) (by (try simp only [okS, okSl, okH, eq_self, true_and, and_true, and_self]); repeat' (first | exact trivial | exact rfl | exact disj_cut | exact disj_lt (by assumption) | assumption | omega | refine And.intro ?_ ?_ | (intro i hi; first | exact trivial | (split <;> first | exact trivial | exact disj_lt (by assumption) | exact disj_cut) | (repeat' split) <;> exact trivial))) (fun K1 hK1 => by simp only [argsC, opd, lookup, Nat.zero_add, Nat.reduceEqDiff, ↓reduceIte, List.getElem?_cons_zero, List.getElem?_cons_succ, List.reverse_cons, List.reverse_nil, List.nil_append, List.cons_append]; repeat' (first | exact hK1 | exact trivial | exact disj_cut | assumption | omega | refine And.intro ?_ ?_)) ?_; first | (refine ⟨_, _, pick_fn _ _ (by omega) hb, ?_⟩; rintro _ ⟨i, hi, rfl⟩ hnewZ; clear hnewZ) | (refine ⟨_, _, small_fn _ (by omega) hb, ?_⟩; rintro _ ⟨z, hz, rfl⟩ hnewZ; clear hnewZ)) | (refine ax_op rfl ?_; intro K hK)) | ((with_reducible show evTake _ _ _ _ _); refine take_step rfl ?_; intro K hK) | ((with_reducible show evSy _ _ _ _ _ _ _); refine sy_take rfl ?_; intro K hK) | ((with_reducible show AxB _ _ _ _ _); first | (refine axb_callE (f := 68) ?_) | (refine axb_op rfl rfl ?_; intro K hK)) | (refine ⟨_, plPutA l _ _ _ _ rfl rfl rfl (by omega), ?_⟩; rintro _ ⟨l', hl', rfl⟩ hn1; simp only [Res.list, NewL, and_true, true_and] at hn1) | ((with_reducible show evOps _ _ _ _ _ _); (first | refine ev_step rfl ?_ | refine ev_undef rfl rfl rfl ?_); intro K hK) | ((with_reducible show EvOpen _ _ _ _ _ _ _); refine ev_open ?_; intro K hK) | ((with_reducible show SkOpen _ _ _ _ _ _ _); refine sk_open ?_; intro K hK) | ((with_reducible show callK _ _ _ _ _ _ _ _); first  | fail)); simp only [callEK, evOp, evQ, binK, withS, opd, kput, putS, upd, lookup, argsK, bringIn, bring, Res.list, Res.slot, InK_i64, frz, buildK, partsK, V.one, Value.oneCell', fi0, fi1, fi2, z_term, pl_term, bterms, swpS, swSl, List.getElem?_cons_zero, List.reverse_cons, List.reverse_nil, List.nil_append, List.cons_append, List.length_cons, List.length_nil, Nat.reduceEqDiff, Nat.reduceAdd, Nat.reduceLT, Nat.zero_add, ↓reduceIte, eq_self, true_and, Option.isSome_some]) | refine ev_guard rfl rfl rfl ?_ ?_ | ((with_reducible show retQ _ _ _ _); simp only [eq_self]) | (with_reducible refine hK _ ?_; clear hK K) | (with_reducible refine And.intro ?_ ?_) | (with_reducible intro hc; try simp only [decide_eq_true_eq, decide_eq_false_iff_not, Int.not_lt, gt_iff_lt] at hc) | omega)
    all_goals first
      | (exfalso; omega)
      | ((repeat' split) <;> rfl)
      | (exact ⟨(q + 1, l'), ⟨by show ((q + 1 : Nat) : Int) ≤ 1 + x; omega, by have := hl'.2; show l'.length ≤ q + 1; omega, fun _ => hl'.1⟩, by show 7 - (q + 1) < 7 - q; omega, [1], rfl, by decide, by (simp [EntSR, SlR, VE, lookup, sc, VE.rfl']) <;> omega, BE.rfl' _, trivial⟩)
      | trace_state
  · repeat' (first | ((with_reducible show evNx _ _ _ _ _ _); first | (with_reducible refine nx_done ?_) | (refine nx_one rfl ?_) | (refine nx_alt rfl ?_ ?_) | (with_reducible refine nx_st ?_)) | ((with_reducible show evSx _ _ _ _ _ _); first | (with_reducible refine sx_done ?_) | (with_reducible refine sx_st ?_) | (with_reducible refine sx_op ?_)) | ((with_reducible show evTake _ _ _ _ _); with_reducible refine take_nil ?_) | ((with_reducible show evSy _ _ _ _ _ _ _); first | (with_reducible refine sy_done ?_) | (refine sy_last rfl ?_) | (refine sy_one (by decide) rfl ?_) | (refine sy_alt (by decide) rfl ?_ ?_) | (with_reducible refine sy_st ?_)) | ((with_reducible show StK _ _ _); first | fail) | (with_reducible first | refine then_normal ?_ | refine then_ret ?_ | refine then_exit ?_ | refine block_normal ?_ | refine block_ret ?_) | ((with_reducible show blockQ _ _ _ _); first | refine block_exit ?_ | refine block_exit_ne rfl ?_) | ((with_reducible show AWP _ _ _ _ _); first | (refine AWP.holdW (id := 9) ?_) | (refine AWP.holdW (id := 19) ?_) | (refine AWP.region_sx (id := 8) [.op, .op] ?_) | (with_reducible first | refine AWP.seq ?_ | refine AWP.block ?_ | refine AWP.region ?_ | refine AWP.ret ?_ | refine AWP.exit ?_ | refine AWP.skip ?_) | refine AWP.drawn rfl (by kernel_rfl) ?_ | refine AWP.cond rfl ?_ ?_) | with_reducible refine ev_nil ?_ | ((first | ((with_reducible show evNx _ _ _ _ _ _); refine nx_take rfl ?_; intro K hK) | ((with_reducible show Ax _ _ _ _ _); first | ((first | refine ax_callC (f := 64) ?_); refine callC_go (x := _) (xs := _) rfl rfl rfl (by first | exact .inl (by rw [hcx]; exact rfl) | exact .inr (by assumption)) (by (try simp only [okS, okSl, okH, eq_self, true_and, and_true, and_self]); repeat' (first | exact trivial | exact rfl | exact disj_cut | exact disj_lt (by assumption) | assumption | omega | refine And.intro ?_ ?_ | (intro i hi; first | exact trivial | (split <;> first | exact trivial | exact disj_lt (by assumption) | exact disj_cut) | (repeat' split) <;> exact trivial))) (by (try simp only [okS, okSl, okH, eq_self, true_and, and_true, and_self]); repeat' (first | exact trivial | exact rfl | exact disj_cut | exact disj_lt (by assumption) | assumption | omega | refine And.intro ?_ ?_ | (intro i hi; first | exact trivial | (split <;> first | exact trivial | exact disj_lt (by assumption) | exact disj_cut) | (repeat' split) <;> exact trivial))) (fun K1 hK1 => by simp only [argsC, opd, lookup, Nat.zero_add, Nat.reduceEqDiff, ↓reduceIte, List.getElem?_cons_zero, List.getElem?_cons_succ, List.reverse_cons, List.reverse_nil, List.nil_append, List.cons_append]; repeat' (first | exact hK1 | exact trivial | exact disj_cut | assumption | omega | refine And.intro ?_ ?_)) ?_; first | (refine ⟨_, _, one_fn _ _ (by omega) hb, ?_⟩; rintro _ ⟨y, rfl⟩ hnewZ; clear hnewZ)) | (refine ax_op rfl ?_; intro K hK)) | ((with_reducible show evTake _ _ _ _ _); refine take_step rfl ?_; intro K hK) | ((with_reducible show evSy _ _ _ _ _ _ _); refine sy_take rfl ?_; intro K hK) | ((with_reducible show AxB _ _ _ _ _); first | (refine axb_op rfl rfl ?_; intro K hK)) | ((with_reducible show evOps _ _ _ _ _ _); (first | refine ev_step rfl ?_ | refine ev_undef rfl rfl rfl ?_); intro K hK) | ((with_reducible show EvOpen _ _ _ _ _ _ _); refine ev_open ?_; intro K hK) | ((with_reducible show SkOpen _ _ _ _ _ _ _); refine sk_open ?_; intro K hK) | ((with_reducible show callK _ _ _ _ _ _ _ _); first  | fail)); simp only [evOp, evQ, binK, withS, opd, kput, putS, upd, lookup, argsK, bringIn, bring, Res.list, Res.slot, InK_i64, swpS, swSl, List.reverse_cons, List.reverse_nil, List.nil_append, List.cons_append, Nat.reduceEqDiff, Nat.reduceLT, ↓reduceIte, eq_self, true_and]) | refine ev_guard rfl rfl rfl ?_ ?_ | ((with_reducible show retQ _ _ _ _); simp only [eq_self]) | (with_reducible refine hK _ ?_; clear hK K) | (with_reducible refine And.intro ?_ ?_) | (with_reducible intro hc; try simp only [decide_eq_true_eq, decide_eq_false_iff_not, Int.not_lt, gt_iff_lt] at hc) | omega)
    all_goals try (exfalso; omega; done)
    · unfold HoldW
      repeat' (first | (with_reducible first | refine then_normal ?_ | refine then_ret ?_ | refine then_exit ?_ | refine block_normal ?_ | refine block_ret ?_) | ((with_reducible show blockQ _ _ _ _); first | refine block_exit ?_ | refine block_exit_ne rfl ?_) | ((with_reducible show AWP _ _ _ _ _); first | (with_reducible first | refine AWP.seq ?_ | refine AWP.block ?_ | refine AWP.region ?_ | refine AWP.ret ?_ | refine AWP.exit ?_ | refine AWP.skip ?_) | refine AWP.drawn rfl (by kernel_rfl) ?_ | refine AWP.cond rfl ?_ ?_) | with_reducible refine ev_nil ?_ | ((first | ((with_reducible show evOps _ _ _ _ _ _); (first | refine ev_step rfl ?_ | refine ev_undef rfl rfl rfl ?_); intro K hK) | ((with_reducible show EvOpen _ _ _ _ _ _ _); refine ev_open ?_; intro K hK) | ((with_reducible show SkOpen _ _ _ _ _ _ _); refine sk_open ?_; intro K hK) | ((with_reducible show callK _ _ _ _ _ _ _ _); first | fail)); simp only [evOp, evQ, withS, opd, kput, putS, upd, Nat.reduceEqDiff, Nat.reduceLT, ↓reduceIte, eq_self, true_and]) | refine ev_guard rfl rfl rfl ?_ ?_ | ((with_reducible show retQ _ _ _ _); simp only [eq_self]) | (with_reducible refine hK _ ?_; clear hK K) | (with_reducible refine And.intro ?_ ?_) | (with_reducible intro hc; try simp only [eq_self] at hc) | omega)
      refine AWP.virtual 3 69 3 rfl ?_
      refine AWP.loop_entR [0, 1] (fun y : Nat × List T3 => ⟨[(0, .one (.pv (.cur b (k + 80 + 2 * y.2.length) Z (bytV m g)))), (3, .one (.own 1 3 0 y.2.length)), (4, sc (.int .i64 most)), (7, sc (.int .i64 y.1))], [none, some ⟨69, y.2.length * 3, fun i => vi (tf y.2 i)⟩], 74⟩)
        (fun y => y.1 ≤ 3 ∧ y.2.length ≤ 3 * y.1 ∧ (1 ≤ y.1 → 1 ≤ y.2.length)) (fun y => 4 - y.1) (0, []) ⟨by simp, by simp, by simp⟩ (by simp [EntR, EntSR, EntHR, SlR, VE, lookup, BE, upd, sc, VE.rfl', oldC]; try omega) ?_
      rintro ⟨i, l2⟩ ⟨hi1, hi2, hi3⟩
      dsimp only at hi1 hi2 hi3
      by_cases him : (i : Int) ≤ most ∧ most < 3
      · repeat' (first | (with_reducible first | refine then_normal ?_ | refine then_ret ?_ | refine then_exit ?_ | refine block_normal ?_ | refine block_ret ?_) | ((with_reducible show blockQ _ _ _ _); first | refine block_exit ?_ | refine block_exit_ne rfl ?_) | ((with_reducible show AWP _ _ _ _ _); first | (with_reducible first | refine AWP.seq ?_ | refine AWP.block ?_ | refine AWP.region ?_ | refine AWP.ret ?_ | refine AWP.exit ?_ | refine AWP.skip ?_) | refine AWP.drawn rfl (by kernel_rfl) ?_ | refine AWP.cond rfl ?_ ?_) | with_reducible refine ev_nil ?_ | ((first | ((with_reducible show evOps _ _ _ _ _ _); (first | refine ev_step rfl ?_ | refine ev_undef rfl rfl rfl ?_); intro K hK) | ((with_reducible show EvOpen _ _ _ _ _ _ _); refine ev_open ?_; intro K hK) | ((with_reducible show SkOpen _ _ _ _ _ _ _); refine sk_open ?_; intro K hK) | ((with_reducible show callK _ _ _ _ _ _ _ _); first | fail)); simp only [evOp, evQ, binK, withS, opd, kput, putS, upd, lookup, skipOp, argsK, List.reverse_cons, List.reverse_nil, List.nil_append, Nat.reduceEqDiff, Nat.reduceLT, ↓reduceIte, eq_self, true_and, and_true, Bool.not_true, Bool.true_eq_false, Bool.false_eq_true, false_implies, forall_const]) | refine ev_guard rfl rfl rfl ?_ ?_ | ((with_reducible show retQ _ _ _ _); simp only [eq_self]) | (with_reducible refine hK _ ?_; clear hK K) | (with_reducible refine And.intro ?_ ?_) | (with_reducible intro hc; try simp only [decide_eq_true_eq, decide_eq_false_iff_not, beq_iff_eq, beq_eq_false_iff_ne, Bool.not_true, Int.not_lt, Int.not_le, ne_eq, reduceCtorEq, Bool.true_eq_false] at hc) | omega)
        all_goals try (exfalso; omega; done)
        refine AWP.loop_entR [0, 1] (fun y : Nat × List T3 => ⟨[(0, .one (.pv (.cur b (k + 80 + 2 * y.2.length) Z (bytV m g)))), (3, .one (.own 1 3 0 y.2.length)), (4, sc (.int .i64 most)), (7, sc (.int .i64 i)), (8, sc (.int .i64 y.1))], [none, some ⟨69, y.2.length * 3, fun i => vi (tf y.2 i)⟩], 74⟩)
          (fun y => y.1 ≤ 3 ∧ y.2.length ≤ 3 * i + y.1 ∧ (1 ≤ i → 1 ≤ y.2.length) ∧ (1 ≤ y.1 → 1 ≤ y.2.length)) (fun y => 4 - y.1) (0, l2) ⟨by simp, by simpa using hi2, hi3, by simp⟩ (by simp [EntR, EntSR, EntHR, SlR, VE, lookup, BE, upd, sc, VE.rfl', oldC]; try omega) ?_
        rintro ⟨j, l3⟩ ⟨hj1, hj2, hj3, hj4⟩
        dsimp only at hj1 hj2 hj3 hj4
        by_cases hjm : (i : Int) + j ≤ most
        · repeat' (first | ((with_reducible show evNx _ _ _ _ _ _); first | (with_reducible refine nx_done ?_) | (refine nx_one rfl ?_) | (refine nx_alt rfl ?_ ?_) | (with_reducible refine nx_st ?_)) | ((with_reducible show evSx _ _ _ _ _ _); first | (with_reducible refine sx_done ?_) | (with_reducible refine sx_st ?_) | (with_reducible refine sx_op ?_)) | ((with_reducible show evTake _ _ _ _ _); with_reducible refine take_nil ?_) | ((with_reducible show evSy _ _ _ _ _ _ _); first | (with_reducible refine sy_done ?_) | (refine sy_last rfl ?_) | (refine sy_one (by decide) rfl ?_) | (refine sy_alt (by decide) rfl ?_ ?_) | (with_reducible refine sy_st ?_)) | ((with_reducible show StK _ _ _); first | fail) | (with_reducible first | refine then_normal ?_ | refine then_ret ?_ | refine then_exit ?_ | refine block_normal ?_ | refine block_ret ?_) | ((with_reducible show blockQ _ _ _ _); first | refine block_exit ?_ | refine block_exit_ne rfl ?_) | ((with_reducible show AWP _ _ _ _ _); first | (refine AWP.region_sx (id := 16) [.op, .op, .op, .op, .op, .op, .op, .op, .op] ?_) | (with_reducible first | refine AWP.seq ?_ | refine AWP.block ?_ | refine AWP.region ?_ | refine AWP.ret ?_ | refine AWP.exit ?_ | refine AWP.skip ?_) | refine AWP.drawn rfl (by kernel_rfl) ?_ | refine AWP.cond rfl ?_ ?_) | with_reducible refine ev_nil ?_ | ((first | ((with_reducible show evNx _ _ _ _ _ _); refine nx_take rfl ?_; intro K hK) | ((with_reducible show Ax _ _ _ _ _); first | ((first | refine ax_callC (f := 48) ?_); refine callC_go (x := _) (xs := _) rfl rfl rfl (by first | exact .inl (by rw [hcx]; exact rfl) | exact .inr (by assumption)) (by (try simp only [okS, okSl, okH, eq_self, true_and, and_true, and_self]); repeat' (first | exact trivial | exact rfl | exact disj_cut | exact disj_lt (by assumption) | assumption | omega | refine And.intro ?_ ?_ | (intro i hi; first | exact trivial | (split <;> first | exact trivial | exact disj_lt (by assumption) | exact disj_cut) | (repeat' split) <;> exact trivial))) (by (try simp only [okS, okSl, okH, eq_self, true_and, and_true, and_self]); repeat' (first | exact trivial | exact rfl | exact disj_cut | exact disj_lt (by assumption) | assumption | omega | refine And.intro ?_ ?_ | (intro i hi; first | exact trivial | (split <;> first | exact trivial | exact disj_lt (by assumption) | exact disj_cut) | (repeat' split) <;> exact trivial))) (fun K1 hK1 => by simp only [argsC, opd, lookup, Nat.zero_add, Nat.reduceEqDiff, ↓reduceIte, List.getElem?_cons_zero, List.getElem?_cons_succ, List.reverse_cons, List.reverse_nil, List.nil_append, List.cons_append]; repeat' (first | exact hK1 | exact trivial | exact disj_cut | assumption | omega | refine And.intro ?_ ?_)) ?_; first | (refine ⟨_, _, small_fn _ (by omega) hb, ?_⟩; rintro _ ⟨z, hz, rfl⟩ hnewZ; clear hnewZ)) | (refine ax_op rfl ?_; intro K hK)) | ((with_reducible show evTake _ _ _ _ _); refine take_step rfl ?_; intro K hK) | ((with_reducible show evSy _ _ _ _ _ _ _); refine sy_take rfl ?_; intro K hK) | ((with_reducible show AxB _ _ _ _ _); first | (refine axb_op rfl rfl ?_; intro K hK)) | ((with_reducible show evOps _ _ _ _ _ _); (first | refine ev_step rfl ?_ | refine ev_undef rfl rfl rfl ?_); intro K hK) | ((with_reducible show EvOpen _ _ _ _ _ _ _); refine ev_open ?_; intro K hK) | ((with_reducible show SkOpen _ _ _ _ _ _ _); refine sk_open ?_; intro K hK) | ((with_reducible show callK _ _ _ _ _ _ _ _); first  | fail)); simp only [evOp, evQ, binK, withS, opd, kput, putS, upd, lookup, bringIn, bring, Res.list, Res.slot, InK_i64, appendK, srcK, growK, frz, newBlk, buildK, partsK, buildSliceK, plSlice, V.one, Value.oneCell', List.set_cons_zero, List.set_cons_succ, ei_terms, ea_terms, fi0, fi1, fi2, z_term, pl_term, Nat.zero_le, swpS, swSl, List.getElem?_cons_zero, List.getElem?_cons_succ, List.nil_append, List.cons_append, List.length_cons, List.length_nil, Nat.reduceEqDiff, Nat.reduceAdd, Nat.reduceLT, Nat.reduceLeDiff, Nat.one_mul, Nat.zero_mul, Nat.zero_add, Nat.sub_zero, ↓reduceIte, eq_self, true_and, forall_const, implies_true, Option.isSome_some]) | refine ev_guard rfl rfl rfl ?_ ?_ | ((with_reducible show retQ _ _ _ _); simp only [eq_self]) | (with_reducible refine hK _ ?_; clear hK K) | (with_reducible refine And.intro ?_ ?_) | (with_reducible intro hc; try simp only [decide_eq_true_eq, decide_eq_false_iff_not, Int.not_le] at hc) | omega)
          all_goals try first
            | (exfalso; omega; done)
            | ((repeat' split) <;> first | rfl | (exfalso; omega))
          refine ⟨(j + 1, l3 ++ [((i : Int), (j : Int), z)]), ⟨by show j + 1 ≤ 3; omega, by show (l3 ++ [_]).length ≤ 3 * i + (j + 1); simp; omega, fun h => by simp, fun h => by simp⟩, by show 4 - (j + 1) < 4 - j; omega, [0, 3], rfl, by decide, by (simp [EntSR, SlR, VE, lookup, sc, VE.rfl']) <;> omega, snocT_be (Nat.le_refl _) (fun q hq => if_pos hq) (fun q hq => ?_), trivial⟩
          try dsimp only
          rw [if_neg (by omega), Nat.add_sub_cancel_left]
          rcases three hq with rfl | rfl | rfl <;> rfl
        · repeat' (first | (with_reducible first | refine then_normal ?_ | refine then_ret ?_ | refine then_exit ?_ | refine block_normal ?_ | refine block_ret ?_) | ((with_reducible show blockQ _ _ _ _); first | refine block_exit ?_ | refine block_exit_ne rfl ?_) | ((with_reducible show AWP _ _ _ _ _); first | (with_reducible first | refine AWP.seq ?_ | refine AWP.block ?_ | refine AWP.region ?_ | refine AWP.ret ?_ | refine AWP.exit ?_ | refine AWP.skip ?_) | refine AWP.drawn rfl (by kernel_rfl) ?_ | refine AWP.cond rfl ?_ ?_) | with_reducible refine ev_nil ?_ | ((first | ((with_reducible show evOps _ _ _ _ _ _); (first | refine ev_step rfl ?_ | refine ev_undef rfl rfl rfl ?_); intro K hK) | ((with_reducible show EvOpen _ _ _ _ _ _ _); refine ev_open ?_; intro K hK) | ((with_reducible show SkOpen _ _ _ _ _ _ _); refine sk_open ?_; intro K hK) | ((with_reducible show callK _ _ _ _ _ _ _ _); first | fail)); simp only [evOp, evQ, binK, withS, opd, kput, putS, upd, lookup, argsK, InK_i64, List.reverse_cons, List.reverse_nil, List.nil_append, Nat.reduceEqDiff, Nat.reduceLT, ↓reduceIte, eq_self, true_and]) | refine ev_guard rfl rfl rfl ?_ ?_ | ((with_reducible show retQ _ _ _ _); simp only [eq_self]) | (with_reducible refine hK _ ?_; clear hK K) | (with_reducible refine And.intro ?_ ?_) | (with_reducible intro hc; try simp only [decide_eq_true_eq, decide_eq_false_iff_not, Int.not_le] at hc) | omega)
          all_goals first
            | (exfalso; omega)
            | (exact ⟨(i + 1, l3), ⟨by show i + 1 ≤ 3; omega, by show l3.length ≤ 3 * (i + 1); omega, fun _ => hj4 (by omega)⟩, by show 4 - (i + 1) < 4 - i; omega, [0, 1], rfl, by decide, by (simp [EntSR, SlR, VE, lookup, sc, VE.rfl']) <;> omega, BE.rfl' _, trivial⟩)
            | trace_state
      · repeat' (first | (with_reducible first | refine then_normal ?_ | refine then_ret ?_ | refine then_exit ?_ | refine block_normal ?_ | refine block_ret ?_) | ((with_reducible show blockQ _ _ _ _); first | refine block_exit ?_ | refine block_exit_ne rfl ?_) | ((with_reducible show AWP _ _ _ _ _); first | (refine AWP.holdW (id := 18) ?_) | (with_reducible first | refine AWP.seq ?_ | refine AWP.block ?_ | refine AWP.region ?_ | refine AWP.ret ?_ | refine AWP.exit ?_ | refine AWP.skip ?_) | refine AWP.drawn rfl (by kernel_rfl) ?_ | refine AWP.cond rfl ?_ ?_) | with_reducible refine ev_nil ?_ | ((first | ((with_reducible show evOps _ _ _ _ _ _); (first | refine ev_step rfl ?_ | refine ev_undef rfl rfl rfl ?_); intro K hK) | ((with_reducible show EvOpen _ _ _ _ _ _ _); refine ev_open ?_; intro K hK) | ((with_reducible show SkOpen _ _ _ _ _ _ _); refine sk_open ?_; intro K hK) | ((with_reducible show callK _ _ _ _ _ _ _ _); first  | fail)); simp only [evOp, evQ, binK, withS, opd, kput, putS, upd, lookup, skipOp, Nat.reduceEqDiff, Nat.reduceLT, ↓reduceIte, eq_self, true_and, and_true, Bool.not_true, Bool.true_eq_false, Bool.false_eq_true, false_implies, forall_const]) | refine ev_guard rfl rfl rfl ?_ ?_ | ((with_reducible show retQ _ _ _ _); simp only [eq_self]) | (with_reducible refine hK _ ?_; clear hK K) | (with_reducible refine And.intro ?_ ?_) | (with_reducible intro hc; try simp only [decide_eq_true_eq, decide_eq_false_iff_not, beq_iff_eq, beq_eq_false_iff_ne, Bool.not_true, Int.not_lt, Int.not_le, ne_eq, reduceCtorEq, Bool.true_eq_false] at hc) | omega)
        all_goals try (exfalso; omega; done)
        all_goals try exact retC_T rfl rfl rfl (Nat.le_refl _) (fun i hi => ⟨_, rfl⟩) rfl (by omega) (fun m e => ⟨by have := hi3 (by omega); omega, by omega⟩)
        all_goals
          unfold HoldW
          repeat' (first | ((with_reducible show evNx _ _ _ _ _ _); first | (with_reducible refine nx_done ?_) | (refine nx_one rfl ?_) | (refine nx_alt rfl ?_ ?_) | (with_reducible refine nx_st ?_)) | ((with_reducible show evSx _ _ _ _ _ _); first | (with_reducible refine sx_done ?_) | (with_reducible refine sx_st ?_) | (with_reducible refine sx_op ?_)) | ((with_reducible show evTake _ _ _ _ _); with_reducible refine take_nil ?_) | ((with_reducible show evSy _ _ _ _ _ _ _); first | (with_reducible refine sy_done ?_) | (refine sy_last rfl ?_) | (refine sy_one (by decide) rfl ?_) | (refine sy_alt (by decide) rfl ?_ ?_) | (with_reducible refine sy_st ?_)) | ((with_reducible show StK _ _ _); first | fail) | (with_reducible first | refine then_normal ?_ | refine then_ret ?_ | refine then_exit ?_ | refine block_normal ?_ | refine block_ret ?_) | ((with_reducible show blockQ _ _ _ _); first | refine block_exit ?_ | refine block_exit_ne rfl ?_) | ((with_reducible show AWP _ _ _ _ _); first | (refine AWP.region_sx (id := 18) [.op, .op, .op, .op, .op, .op, .op, .op, .op, .op, .op] ?_) | (with_reducible first | refine AWP.seq ?_ | refine AWP.block ?_ | refine AWP.region ?_ | refine AWP.ret ?_ | refine AWP.exit ?_ | refine AWP.skip ?_) | refine AWP.drawn rfl (by kernel_rfl) ?_ | refine AWP.cond rfl ?_ ?_) | with_reducible refine ev_nil ?_ | ((first | ((with_reducible show evNx _ _ _ _ _ _); refine nx_take rfl ?_; intro K hK) | ((with_reducible show Ax _ _ _ _ _); first | ((first | refine ax_callC (f := 48) ?_); refine callC_go (x := _) (xs := _) rfl rfl rfl (by first | exact .inl (by rw [hcx]; exact rfl) | exact .inr (by assumption)) (by (try simp only [okS, okSl, okH, eq_self, true_and, and_true, and_self]); repeat' (first | exact trivial | exact rfl | exact disj_cut | exact disj_lt (by assumption) | assumption | omega | refine And.intro ?_ ?_ | (intro i hi; first | exact trivial | (split <;> first | exact trivial | exact disj_lt (by assumption) | exact disj_cut) | (repeat' split) <;> exact trivial))) (by (try simp only [okS, okSl, okH, eq_self, true_and, and_true, and_self]); repeat' (first | exact trivial | exact rfl | exact disj_cut | exact disj_lt (by assumption) | assumption | omega | refine And.intro ?_ ?_ | (intro i hi; first | exact trivial | (split <;> first | exact trivial | exact disj_lt (by assumption) | exact disj_cut) | (repeat' split) <;> exact trivial))) (fun K1 hK1 => by simp only [argsC, opd, lookup, Nat.zero_add, Nat.reduceEqDiff, ↓reduceIte, List.getElem?_cons_zero, List.getElem?_cons_succ, List.reverse_cons, List.reverse_nil, List.nil_append, List.cons_append]; repeat' (first | exact hK1 | exact trivial | exact disj_cut | assumption | omega | refine And.intro ?_ ?_)) ?_; first | (refine ⟨_, _, small_fn _ (by omega) hb, ?_⟩; rintro _ ⟨z, hz, rfl⟩ hnewZ; clear hnewZ)) | (refine ax_op rfl ?_; intro K hK)) | ((with_reducible show evTake _ _ _ _ _); refine take_step rfl ?_; intro K hK) | ((with_reducible show evSy _ _ _ _ _ _ _); refine sy_take rfl ?_; intro K hK) | ((with_reducible show AxB _ _ _ _ _); first | (refine axb_op rfl rfl ?_; intro K hK)) | ((with_reducible show evOps _ _ _ _ _ _); (first | refine ev_step rfl ?_ | refine ev_undef rfl rfl rfl ?_); intro K hK) | ((with_reducible show EvOpen _ _ _ _ _ _ _); refine ev_open ?_; intro K hK) | ((with_reducible show SkOpen _ _ _ _ _ _ _); refine sk_open ?_; intro K hK) | ((with_reducible show callK _ _ _ _ _ _ _ _); first  | fail)); simp only [evOp, evQ, withS, opd, kput, putS, upd, lookup, bringIn, bring, Res.list, Res.slot, frz, newBlk, buildK, partsK, buildSliceK, plSlice, V.one, Value.oneCell', ei_terms, ea_terms, fi0, fi1, fi2, z_term, pl_term, Nat.zero_le, swpS, swSl, List.nil_append, List.cons_append, List.length_cons, List.length_nil, Nat.reduceEqDiff, Nat.reduceAdd, Nat.reduceLT, Nat.reduceLeDiff, Nat.reduceMul, Nat.one_mul, Nat.zero_mul, Nat.zero_add, Nat.sub_zero, ↓reduceIte, eq_self, true_and, Option.isSome_some]) | refine ev_guard rfl rfl rfl ?_ ?_ | ((with_reducible show retQ _ _ _ _); simp only [eq_self]) | (with_reducible refine hK _ ?_; clear hK K) | (with_reducible refine And.intro ?_ ?_) | (with_reducible intro hc; try simp only [eq_self] at hc) | omega)
          all_goals try first
            | (exfalso; omega; done)
            | ((repeat' split) <;> first | rfl | (exfalso; omega))
          all_goals
            (refine retC_T (n := 3) rfl rfl rfl (Nat.le_refl _) (fun i hi => ?_) rfl (by omega) (fun m e => ⟨by omega, by omega⟩); (try dsimp only); (repeat' split) <;> first | exact ⟨_, rfl⟩ | exact z3 (by omega) | (exfalso; omega) | trace_state)
    · unfold HoldW
      repeat' (first | (with_reducible first | refine then_normal ?_ | refine then_ret ?_ | refine then_exit ?_ | refine block_normal ?_ | refine block_ret ?_) | ((with_reducible show blockQ _ _ _ _); first | refine block_exit ?_ | refine block_exit_ne rfl ?_) | ((with_reducible show AWP _ _ _ _ _); first | (with_reducible first | refine AWP.seq ?_ | refine AWP.block ?_ | refine AWP.region ?_ | refine AWP.ret ?_ | refine AWP.exit ?_ | refine AWP.skip ?_) | refine AWP.drawn rfl (by kernel_rfl) ?_ | refine AWP.cond rfl ?_ ?_) | with_reducible refine ev_nil ?_ | ((first | ((with_reducible show evOps _ _ _ _ _ _); (first | refine ev_step rfl ?_ | refine ev_undef rfl rfl rfl ?_); intro K hK) | ((with_reducible show EvOpen _ _ _ _ _ _ _); refine ev_open ?_; intro K hK) | ((with_reducible show SkOpen _ _ _ _ _ _ _); refine sk_open ?_; intro K hK) | ((with_reducible show callK _ _ _ _ _ _ _ _); first | fail)); simp only [evOp, evQ, withS, opd, kput, putS, upd, lookup, Nat.reduceEqDiff, Nat.reduceLT, ↓reduceIte, eq_self, true_and]) | refine ev_guard rfl rfl rfl ?_ ?_ | ((with_reducible show retQ _ _ _ _); simp only [eq_self]) | (with_reducible refine hK _ ?_; clear hK K) | (with_reducible refine And.intro ?_ ?_) | (with_reducible intro hc; try simp only [eq_self] at hc) | omega)
      exact retC_T rfl rfl rfl (Nat.le_refl _) (fun i hi => ⟨_, rfl⟩) rfl (by omega) (fun m e => ⟨by have := hq3 (by omega); omega, by omega⟩)
end

open Go.RowKit Go.Proofs
set_option linter.unusedSimpArgs false
set_option linter.unusedVariables false
set_option maxRecDepth 20000
section
variable {b m : Nat} {Z : Nat → Prop} {g : Nat → Int}

set_option maxHeartbeats 8000000 in
theorem anyPlane_fn (k : Nat) (hk : k ≤ 549755808000) (hb : BytOk m g) : FnC Tryd.prog 23 b k (k + 400) Z (bytV m g) [] (someT (TQ 21)) := by
  refine FnC.of_body Tryd.call23 Tryd.func23 rfl Tryd.ntmps23 (ts := [2]) rfl (by simp) (someT.shape) (fun N cx hcx hbN => ?_)
  repeat' (first | ((with_reducible show evNx _ _ _ _ _ _); first | (with_reducible refine nx_done ?_) | (refine nx_one rfl ?_) | (refine nx_alt rfl ?_ ?_) | (with_reducible refine nx_st ?_)) | ((with_reducible show evSx _ _ _ _ _ _); first | (with_reducible refine sx_done ?_) | (with_reducible refine sx_st ?_) | (with_reducible refine sx_op ?_)) | ((with_reducible show evTake _ _ _ _ _); with_reducible refine take_nil ?_) | ((with_reducible show evSy _ _ _ _ _ _ _); first | (with_reducible refine sy_done ?_) | (refine sy_last rfl ?_) | (refine sy_one (by decide) rfl ?_) | (refine sy_alt (by decide) rfl ?_ ?_) | (with_reducible refine sy_st ?_)) | ((with_reducible show StK _ _ _); first | fail) | (with_reducible first | refine then_normal ?_ | refine then_ret ?_ | refine then_exit ?_ | refine block_normal ?_ | refine block_ret ?_) | ((with_reducible show blockQ _ _ _ _); first | refine block_exit ?_ | refine block_exit_ne rfl ?_) | ((with_reducible show AWP _ _ _ _ _); first | (refine AWP.holdW (id := 4) ?_) | (refine AWP.holdW (id := 6) ?_) | (refine AWP.holdW (id := 11) ?_) | (refine AWP.region_sx (id := 1) [.op, .op, .op] ?_) | (refine AWP.region_sx (id := 2) [.op, .op] ?_) | (with_reducible first | refine AWP.seq ?_ | refine AWP.block ?_ | refine AWP.region ?_ | refine AWP.ret ?_ | refine AWP.exit ?_ | refine AWP.skip ?_) | refine AWP.drawn rfl (by kernel_rfl) ?_ | refine AWP.cond rfl ?_ ?_) | with_reducible refine ev_nil ?_ | ((first | ((with_reducible show evNx _ _ _ _ _ _); refine nx_take rfl ?_; intro K hK) | ((with_reducible show Ax _ _ _ _ _); first | ((first | refine ax_callC (f := 46) ?_ | refine ax_callC (f := 40) ?_); refine callC_go (x := _) (xs := _) rfl rfl rfl (by first | exact .inl (by rw [hcx]; exact rfl) | exact .inr (by assumption)) (by (try simp only [okS, okSl, okH, eq_self, true_and, and_true, and_self]); repeat' (first | exact trivial | exact rfl | exact disj_cut | exact disj_lt (by assumption) | assumption | omega | refine And.intro ?_ ?_ | (intro i hi; first | exact trivial | (split <;> first | exact trivial | exact disj_lt (by assumption) | exact disj_cut) | (repeat' split) <;> exact trivial))) (by (try simp only [okS, okSl, okH, eq_self, true_and, and_true, and_self]); repeat' (first | exact trivial | exact rfl | exact disj_cut | exact disj_lt (by assumption) | assumption | omega | refine And.intro ?_ ?_ | (intro i hi; first | exact trivial | (split <;> first | exact trivial | exact disj_lt (by assumption) | exact disj_cut) | (repeat' split) <;> exact trivial))) (fun K1 hK1 => by simp only [argsC, opd, lookup, Nat.zero_add, Nat.reduceEqDiff, ↓reduceIte, List.getElem?_cons_zero, List.getElem?_cons_succ, List.reverse_cons, List.reverse_nil, List.nil_append, List.cons_append]; repeat' (first | exact hK1 | exact trivial | exact disj_cut | assumption | omega | refine And.intro ?_ ?_)) ?_; first | (refine ⟨_, _, plane_fn _ (by omega) hb, ?_⟩; rintro _ ⟨l, hl, rfl⟩ hnewZ; clear hnewZ) | (refine ⟨_, _, pick_fn _ _ (by omega) hb, ?_⟩; rintro _ ⟨x, hx, rfl⟩ hnewZ; clear hnewZ)) | (refine ax_op rfl ?_; intro K hK)) | ((with_reducible show evTake _ _ _ _ _); refine take_step rfl ?_; intro K hK) | ((with_reducible show evSy _ _ _ _ _ _ _); refine sy_take rfl ?_; intro K hK) | ((with_reducible show AxB _ _ _ _ _); first | (refine axb_op rfl rfl ?_; intro K hK)) | ((with_reducible show evOps _ _ _ _ _ _); (first | refine ev_step rfl ?_ | refine ev_undef rfl rfl rfl ?_); intro K hK) | ((with_reducible show EvOpen _ _ _ _ _ _ _); refine ev_open ?_; intro K hK) | ((with_reducible show SkOpen _ _ _ _ _ _ _); refine sk_open ?_; intro K hK) | ((with_reducible show callK _ _ _ _ _ _ _ _); first  | fail)); simp only [evOp, evQ, binK, withS, opd, kput, putS, upd, lookup, bringIn, bring, Res.list, Res.slot, slotsOf, bterms, swpS, swSl, List.map_nil, List.nil_append, List.length_nil, Nat.reduceEqDiff, Nat.reduceLT, Nat.zero_add, ↓reduceIte, eq_self, true_and]) | refine ev_guard rfl rfl rfl ?_ ?_ | ((with_reducible show retQ _ _ _ _); simp only [eq_self]) | (with_reducible refine hK _ ?_; clear hK K) | (with_reducible refine And.intro ?_ ?_) | (with_reducible intro hc; try simp only [beq_iff_eq, beq_eq_false_iff_ne, ne_eq] at hc) | omega)
  all_goals try (exfalso; omega; done)
  · have := hl.1; have := hl.2
    unfold HoldW
    repeat' (first | ((with_reducible show evNx _ _ _ _ _ _); first | (with_reducible refine nx_done ?_) | (refine nx_one rfl ?_) | (refine nx_alt rfl ?_ ?_) | (with_reducible refine nx_st ?_)) | ((with_reducible show evSx _ _ _ _ _ _); first | (with_reducible refine sx_done ?_) | (with_reducible refine sx_st ?_) | (with_reducible refine sx_op ?_)) | ((with_reducible show evTake _ _ _ _ _); with_reducible refine take_nil ?_) | ((with_reducible show evSy _ _ _ _ _ _ _); first | (with_reducible refine sy_done ?_) | (refine sy_last rfl ?_) | (refine sy_one (by decide) rfl ?_) | (refine sy_alt (by decide) rfl ?_ ?_) | (with_reducible refine sy_st ?_)) | ((with_reducible show StK _ _ _); first | fail) | (with_reducible first | refine then_normal ?_ | refine then_ret ?_ | refine then_exit ?_ | refine block_normal ?_ | refine block_ret ?_) | ((with_reducible show blockQ _ _ _ _); first | refine block_exit ?_ | refine block_exit_ne rfl ?_) | ((with_reducible show AWP _ _ _ _ _); first | (refine AWP.region_sx (id := 4) [.op, .op, .op, .op, .op, .op, .op, .op, .op, .op, .op, .op] ?_) | (with_reducible first | refine AWP.seq ?_ | refine AWP.block ?_ | refine AWP.region ?_ | refine AWP.ret ?_ | refine AWP.exit ?_ | refine AWP.skip ?_) | refine AWP.drawn rfl (by kernel_rfl) ?_ | refine AWP.cond rfl ?_ ?_) | with_reducible refine ev_nil ?_ | ((first | ((with_reducible show evNx _ _ _ _ _ _); refine nx_take rfl ?_; intro K hK) | ((with_reducible show Ax _ _ _ _ _); first | ((first | refine ax_callC (f := 40) ?_ | refine ax_callC (f := 22) ?_ | refine ax_callC (f := 47) ?_); refine callC_go (x := _) (xs := _) rfl rfl rfl (by first | exact .inl (by rw [hcx]; exact rfl) | exact .inr (by assumption)) (by (try simp only [okS, okSl, okH, eq_self, true_and, and_true, and_self]); repeat' (first | exact trivial | exact rfl | exact disj_cut | exact disj_lt (by assumption) | assumption | omega | refine And.intro ?_ ?_ | (intro i hi; first | exact trivial | (split <;> first | exact trivial | exact disj_lt (by assumption) | exact disj_cut) | (repeat' split) <;> exact trivial))) (by (try simp only [okS, okSl, okH, eq_self, true_and, and_true, and_self]); repeat' (first | exact trivial | exact rfl | exact disj_cut | exact disj_lt (by assumption) | assumption | omega | refine And.intro ?_ ?_ | (intro i hi; first | exact trivial | (split <;> first | exact trivial | exact disj_lt (by assumption) | exact disj_cut) | (repeat' split) <;> exact trivial))) (fun K1 hK1 => by simp only [argsC, opd, lookup, Nat.zero_add, Nat.reduceEqDiff, ↓reduceIte, List.getElem?_cons_zero, List.getElem?_cons_succ, List.reverse_cons, List.reverse_nil, List.nil_append, List.cons_append]; repeat' (first | exact hK1 | exact trivial | exact disj_cut | assumption | omega | refine And.intro ?_ ?_)) ?_; first | (refine ⟨_, _, pick_fn _ _ (by omega) hb, ?_⟩; rintro _ ⟨x, hx, rfl⟩ hnewZ; clear hnewZ) | (refine ⟨_, _, among4_fn _ _ _ _ _ _ (fun _ => True) (by omega) hb rfl rfl rfl rfl (by decide), ?_⟩; rintro _ ⟨z, hz, rfl⟩ hnewZ; clear hnewZ) | (refine ⟨_, _, place_fn _ (by omega) hb, ?_⟩; rintro _ ⟨y, hy, rfl⟩ hnewZ; clear hnewZ)) | (refine ax_op rfl ?_; intro K hK)) | ((with_reducible show evTake _ _ _ _ _); refine take_step rfl ?_; intro K hK) | ((with_reducible show evSy _ _ _ _ _ _ _); refine sy_take rfl ?_; intro K hK) | ((with_reducible show AxB _ _ _ _ _); first | (refine axb_op rfl rfl ?_; intro K hK)) | ((with_reducible show evOps _ _ _ _ _ _); (first | refine ev_step rfl ?_ | refine ev_undef rfl rfl rfl ?_); intro K hK) | ((with_reducible show EvOpen _ _ _ _ _ _ _); refine ev_open ?_; intro K hK) | ((with_reducible show SkOpen _ _ _ _ _ _ _); refine sk_open ?_; intro K hK) | ((with_reducible show callK _ _ _ _ _ _ _ _); first  | fail)); simp only [evOp, evQ, withS, opd, kput, putS, upd, lookup, bringIn, bring, Res.list, Res.slot, appendK, srcK, growK, frz, newBlk, buildK, partsK, buildSliceK, plSlice, V.one, Value.oneCell', List.set_cons_zero, ei_ints, ea_ints, ei_terms, ea_terms, fi0, fi1, fi2, z_term, pl_term, Nat.zero_le, swpS, swSl, List.getElem?_cons_zero, List.getElem?_cons_succ, List.nil_append, List.cons_append, List.length_cons, List.length_nil, Nat.reduceEqDiff, Nat.reduceAdd, Nat.reduceLT, Nat.reduceLeDiff, Nat.mul_one, Nat.one_mul, Nat.zero_mul, Nat.zero_add, Nat.sub_zero, Nat.mod_one, List.getD_cons_zero, ↓reduceIte, eq_self, true_and, Bool.false_eq_true, forall_const, implies_true, Option.isSome_some]) | refine ev_guard rfl rfl rfl ?_ ?_ | ((with_reducible show retQ _ _ _ _); simp only [eq_self]) | (with_reducible refine hK _ ?_; clear hK K) | (with_reducible refine And.intro ?_ ?_) | (with_reducible intro hc; try simp only [eq_self] at hc) | omega)
    all_goals first
      | (exfalso; omega)
      | ((repeat' split) <;> first | rfl | (exfalso; omega))
      | (refine retC_T rfl rfl rfl (Nat.le_refl _) (fun i hi => ?_) rfl (by omega) (fun m e => by show m.length ≤ 21; omega); (try dsimp only); (repeat' split) <;> first | exact ⟨_, rfl⟩ | exact z3 (by omega) | (exfalso; omega))
      | trace_state
  · unfold HoldW
    repeat' (first | ((with_reducible show evNx _ _ _ _ _ _); first | (with_reducible refine nx_done ?_) | (refine nx_one rfl ?_) | (refine nx_alt rfl ?_ ?_) | (with_reducible refine nx_st ?_)) | ((with_reducible show evSx _ _ _ _ _ _); first | (with_reducible refine sx_done ?_) | (with_reducible refine sx_st ?_) | (with_reducible refine sx_op ?_)) | ((with_reducible show evTake _ _ _ _ _); with_reducible refine take_nil ?_) | ((with_reducible show evSy _ _ _ _ _ _ _); first | (with_reducible refine sy_done ?_) | (refine sy_last rfl ?_) | (refine sy_one (by decide) rfl ?_) | (refine sy_alt (by decide) rfl ?_ ?_) | (with_reducible refine sy_st ?_)) | ((with_reducible show StK _ _ _); first | fail) | (with_reducible first | refine then_normal ?_ | refine then_ret ?_ | refine then_exit ?_ | refine block_normal ?_ | refine block_ret ?_) | ((with_reducible show blockQ _ _ _ _); first | refine block_exit ?_ | refine block_exit_ne rfl ?_) | ((with_reducible show AWP _ _ _ _ _); first | (refine AWP.region_sx (id := 7) [.op, .op, .op, .op] ?_) | (with_reducible first | refine AWP.seq ?_ | refine AWP.block ?_ | refine AWP.region ?_ | refine AWP.ret ?_ | refine AWP.exit ?_ | refine AWP.skip ?_) | refine AWP.drawn rfl (by kernel_rfl) ?_ | refine AWP.cond rfl ?_ ?_) | with_reducible refine ev_nil ?_ | ((first | ((with_reducible show evNx _ _ _ _ _ _); refine nx_take rfl ?_; intro K hK) | ((with_reducible show Ax _ _ _ _ _); first | ((first | refine ax_callC (f := 40) ?_); refine callC_go (x := _) (xs := _) rfl rfl rfl (by first | exact .inl (by rw [hcx]; exact rfl) | exact .inr (by assumption)) (by (try simp only [okS, okSl, okH, eq_self, true_and, and_true, and_self]); repeat' (first | exact trivial | exact rfl | exact disj_cut | exact disj_lt (by assumption) | assumption | omega | refine And.intro ?_ ?_ | (intro i hi; first | exact trivial | (split <;> first | exact trivial | exact disj_lt (by assumption) | exact disj_cut) | (repeat' split) <;> exact trivial))) (by (try simp only [okS, okSl, okH, eq_self, true_and, and_true, and_self]); repeat' (first | exact trivial | exact rfl | exact disj_cut | exact disj_lt (by assumption) | assumption | omega | refine And.intro ?_ ?_ | (intro i hi; first | exact trivial | (split <;> first | exact trivial | exact disj_lt (by assumption) | exact disj_cut) | (repeat' split) <;> exact trivial))) (fun K1 hK1 => by simp only [argsC, opd, lookup, Nat.zero_add, Nat.reduceEqDiff, ↓reduceIte, List.getElem?_cons_zero, List.getElem?_cons_succ, List.reverse_cons, List.reverse_nil, List.nil_append, List.cons_append]; repeat' (first | exact hK1 | exact trivial | exact disj_cut | assumption | omega | refine And.intro ?_ ?_)) ?_; first | (refine ⟨_, _, pick_fn _ _ (by omega) hb, ?_⟩; rintro _ ⟨y, hy, rfl⟩ hnewZ; clear hnewZ)) | (refine ax_op rfl ?_; intro K hK)) | ((with_reducible show evTake _ _ _ _ _); refine take_step rfl ?_; intro K hK) | ((with_reducible show evSy _ _ _ _ _ _ _); refine sy_take rfl ?_; intro K hK) | ((with_reducible show AxB _ _ _ _ _); first | (refine axb_op rfl rfl ?_; intro K hK)) | ((with_reducible show evOps _ _ _ _ _ _); (first | refine ev_step rfl ?_ | refine ev_undef rfl rfl rfl ?_); intro K hK) | ((with_reducible show EvOpen _ _ _ _ _ _ _); refine ev_open ?_; intro K hK) | ((with_reducible show SkOpen _ _ _ _ _ _ _); refine sk_open ?_; intro K hK) | ((with_reducible show callK _ _ _ _ _ _ _ _); first  | fail)); simp only [evOp, evQ, binK, withS, opd, kput, putS, upd, lookup, bringIn, bring, Res.list, Res.slot, InK_i64, swpS, swSl, Nat.reduceEqDiff, Nat.reduceLT, ↓reduceIte, eq_self, true_and]) | refine ev_guard rfl rfl rfl ?_ ?_ | ((with_reducible show retQ _ _ _ _); simp only [eq_self]) | (with_reducible refine hK _ ?_; clear hK K) | (with_reducible refine And.intro ?_ ?_) | (with_reducible intro hc; try simp only [eq_self] at hc) | omega)
    refine AWP.virtual 3 69 3 rfl ?_
    refine AWP.loop_entR [0, 1] (fun l2 : List T3 => ⟨[(0, .one (.pv (.cur b (k + 310 + 2 * l2.length) Z (bytV m g)))), (3, .one (.own 1 3 0 l2.length)), (4, sc (.int .i64 (12 + y)))], [none, some ⟨69, l2.length * 3, fun i => vi (tf l2 i)⟩], 58⟩)
      (fun l2 => (l2.length : Int) ≤ 12 + y) (fun l2 => 14 - l2.length) [] (by simp; omega) (by simp [EntR, EntSR, EntHR, SlR, VE, lookup, BE, upd, sc, VE.rfl', oldC]; try omega) ?_
    intro l2 hl2
    by_cases hlt : (l2.length : Int) < 12 + y
    · repeat' (first | ((with_reducible show evNx _ _ _ _ _ _); first | (with_reducible refine nx_done ?_) | (refine nx_one rfl ?_) | (refine nx_alt rfl ?_ ?_) | (with_reducible refine nx_st ?_)) | ((with_reducible show evSx _ _ _ _ _ _); first | (with_reducible refine sx_done ?_) | (with_reducible refine sx_st ?_) | (with_reducible refine sx_op ?_)) | ((with_reducible show evTake _ _ _ _ _); with_reducible refine take_nil ?_) | ((with_reducible show evSy _ _ _ _ _ _ _); first | (with_reducible refine sy_done ?_) | (refine sy_last rfl ?_) | (refine sy_one (by decide) rfl ?_) | (refine sy_alt (by decide) rfl ?_ ?_) | (with_reducible refine sy_st ?_)) | ((with_reducible show StK _ _ _); first | fail) | (with_reducible first | refine then_normal ?_ | refine then_ret ?_ | refine then_exit ?_ | refine block_normal ?_ | refine block_ret ?_) | ((with_reducible show blockQ _ _ _ _); first | refine block_exit ?_ | refine block_exit_ne rfl ?_) | ((with_reducible show AWP _ _ _ _ _); first | (refine AWP.region_sx (id := 9) [.op, .op, .op, .op, .op, .op, .op, .op, .op, .op, .op, .op, .op] ?_) | (with_reducible first | refine AWP.seq ?_ | refine AWP.block ?_ | refine AWP.region ?_ | refine AWP.ret ?_ | refine AWP.exit ?_ | refine AWP.skip ?_) | refine AWP.drawn rfl (by kernel_rfl) ?_ | refine AWP.cond rfl ?_ ?_) | with_reducible refine ev_nil ?_ | ((first | ((with_reducible show evNx _ _ _ _ _ _); refine nx_take rfl ?_; intro K hK) | ((with_reducible show Ax _ _ _ _ _); first | ((first | refine ax_callC (f := 48) ?_); refine callC_go (x := _) (xs := _) rfl rfl rfl (by first | exact .inl (by rw [hcx]; exact rfl) | exact .inr (by assumption)) (by (try simp only [okS, okSl, okH, eq_self, true_and, and_true, and_self]); repeat' (first | exact trivial | exact rfl | exact disj_cut | exact disj_lt (by assumption) | assumption | omega | refine And.intro ?_ ?_ | (intro i hi; first | exact trivial | (split <;> first | exact trivial | exact disj_lt (by assumption) | exact disj_cut) | (repeat' split) <;> exact trivial))) (by (try simp only [okS, okSl, okH, eq_self, true_and, and_true, and_self]); repeat' (first | exact trivial | exact rfl | exact disj_cut | exact disj_lt (by assumption) | assumption | omega | refine And.intro ?_ ?_ | (intro i hi; first | exact trivial | (split <;> first | exact trivial | exact disj_lt (by assumption) | exact disj_cut) | (repeat' split) <;> exact trivial))) (fun K1 hK1 => by simp only [argsC, opd, lookup, Nat.zero_add, Nat.reduceEqDiff, ↓reduceIte, List.getElem?_cons_zero, List.getElem?_cons_succ, List.reverse_cons, List.reverse_nil, List.nil_append, List.cons_append]; repeat' (first | exact hK1 | exact trivial | exact disj_cut | assumption | omega | refine And.intro ?_ ?_)) ?_; first | (refine ⟨_, _, small_fn _ (by omega) hb, ?_⟩; rintro _ ⟨z, hz, rfl⟩ hnewZ; clear hnewZ)) | (refine ax_op rfl ?_; intro K hK)) | ((with_reducible show evTake _ _ _ _ _); refine take_step rfl ?_; intro K hK) | ((with_reducible show evSy _ _ _ _ _ _ _); refine sy_take rfl ?_; intro K hK) | ((with_reducible show AxB _ _ _ _ _); first | (refine axb_op rfl rfl ?_; intro K hK)) | ((with_reducible show evOps _ _ _ _ _ _); (first | refine ev_step rfl ?_ | refine ev_undef rfl rfl rfl ?_); intro K hK) | ((with_reducible show EvOpen _ _ _ _ _ _ _); refine ev_open ?_; intro K hK) | ((with_reducible show SkOpen _ _ _ _ _ _ _); refine sk_open ?_; intro K hK) | ((with_reducible show callK _ _ _ _ _ _ _ _); first  | fail)); simp only [evOp, evQ, evB, binK, withS, opd, kput, putS, upd, lookup, bringIn, bring, Res.list, Res.slot, InK_i64, appendK, srcK, growK, frz, newBlk, buildK, partsK, buildSliceK, plSlice, V.one, Value.oneCell', List.set_cons_zero, List.set_cons_succ, sz_terms, ei_terms, ea_terms, fi0, fi1, fi2, z_term, pl_term, Nat.zero_le, swpS, swSl, List.getElem?_cons_zero, List.getElem?_cons_succ, List.nil_append, List.cons_append, List.length_cons, List.length_nil, Nat.reduceEqDiff, Nat.reduceAdd, Nat.reduceLT, Nat.reduceLeDiff, Nat.one_mul, Nat.zero_mul, Nat.zero_add, Nat.sub_zero, ↓reduceIte, eq_self, true_and, forall_const, implies_true, Option.isSome_some]) | refine ev_guard rfl rfl rfl ?_ ?_ | ((with_reducible show retQ _ _ _ _); simp only [eq_self]) | (with_reducible refine hK _ ?_; clear hK K) | (with_reducible refine And.intro ?_ ?_) | (with_reducible intro hc; try simp only [decide_eq_true_eq, decide_eq_false_iff_not, Int.not_lt] at hc) | omega)
      all_goals try (exfalso; omega; done)
      all_goals try ((repeat' split) <;> first | rfl | (exfalso; omega))
      refine ⟨l2 ++ [((l2.length : Int) / 3, (l2.length : Int) % 3, z)], by simp; omega, by simp; omega, [0, 3], rfl, by decide, by (simp [EntSR, SlR, VE, lookup, sc, VE.rfl']) <;> omega, snocT_be (Nat.le_refl _) (fun q hq => if_pos hq) (fun q hq => ?_), trivial⟩
      try dsimp only
      rw [if_neg (by omega), Nat.add_sub_cancel_left]
      rcases three hq with rfl | rfl | rfl <;> rfl
    · repeat' (first | (with_reducible first | refine then_normal ?_ | refine then_ret ?_ | refine then_exit ?_ | refine block_normal ?_ | refine block_ret ?_) | ((with_reducible show blockQ _ _ _ _); first | refine block_exit ?_ | refine block_exit_ne rfl ?_) | ((with_reducible show AWP _ _ _ _ _); first | (with_reducible first | refine AWP.seq ?_ | refine AWP.block ?_ | refine AWP.region ?_ | refine AWP.ret ?_ | refine AWP.exit ?_ | refine AWP.skip ?_) | refine AWP.drawn rfl (by kernel_rfl) ?_ | refine AWP.cond rfl ?_ ?_) | with_reducible refine ev_nil ?_ | ((first | ((with_reducible show evOps _ _ _ _ _ _); (first | refine ev_step rfl ?_ | refine ev_undef rfl rfl rfl ?_); intro K hK) | ((with_reducible show EvOpen _ _ _ _ _ _ _); refine ev_open ?_; intro K hK) | ((with_reducible show SkOpen _ _ _ _ _ _ _); refine sk_open ?_; intro K hK) | ((with_reducible show callK _ _ _ _ _ _ _ _); first | fail)); simp only [evOp, evQ, evB, binK, withS, opd, kput, putS, upd, lookup, argsK, InK_i64, sz_terms, List.reverse_cons, List.reverse_nil, List.nil_append, Nat.reduceEqDiff, Nat.reduceLT, ↓reduceIte, eq_self, true_and, Option.isSome_some]) | refine ev_guard rfl rfl rfl ?_ ?_ | ((with_reducible show retQ _ _ _ _); simp only [eq_self]) | (with_reducible refine hK _ ?_; clear hK K) | (with_reducible refine And.intro ?_ ?_) | (with_reducible intro hc; try simp only [decide_eq_true_eq, decide_eq_false_iff_not, Int.not_lt] at hc) | omega)
      all_goals first
        | (exfalso; omega)
        | exact retC_T rfl rfl rfl (Nat.le_refl _) (fun i hi => ⟨_, rfl⟩) rfl (by omega) (fun m e => by show m.length ≤ 21; omega)
        | trace_state
  · unfold HoldW
    have := hl.1; have := hl.2
    repeat' (first | ((with_reducible show evNx _ _ _ _ _ _); first | (with_reducible refine nx_done ?_) | (refine nx_one rfl ?_) | (refine nx_alt rfl ?_ ?_) | (with_reducible refine nx_st ?_)) | ((with_reducible show evSx _ _ _ _ _ _); first | (with_reducible refine sx_done ?_) | (with_reducible refine sx_st ?_) | (with_reducible refine sx_op ?_)) | ((with_reducible show evTake _ _ _ _ _); with_reducible refine take_nil ?_) | ((with_reducible show evSy _ _ _ _ _ _ _); first | (with_reducible refine sy_done ?_) | (refine sy_last rfl ?_) | (refine sy_one (by decide) rfl ?_) | (refine sy_alt (by decide) rfl ?_ ?_) | (with_reducible refine sy_st ?_)) | ((with_reducible show StK _ _ _); first | fail) | (with_reducible first | refine then_normal ?_ | refine then_ret ?_ | refine then_exit ?_ | refine block_normal ?_ | refine block_ret ?_) | ((with_reducible show blockQ _ _ _ _); first | refine block_exit ?_ | refine block_exit_ne rfl ?_) | ((with_reducible show AWP _ _ _ _ _); first | (refine AWP.region_sx (id := 11) [.op, .op, .op, .op, .op, .op, .op, .op, .op, .op, .op] ?_) | (with_reducible first | refine AWP.seq ?_ | refine AWP.block ?_ | refine AWP.region ?_ | refine AWP.ret ?_ | refine AWP.exit ?_ | refine AWP.skip ?_) | refine AWP.drawn rfl (by kernel_rfl) ?_ | refine AWP.cond rfl ?_ ?_) | with_reducible refine ev_nil ?_ | ((first | ((with_reducible show evNx _ _ _ _ _ _); refine nx_take rfl ?_; intro K hK) | ((with_reducible show Ax _ _ _ _ _); first | ((first | refine ax_callC (f := 40) ?_ | refine ax_callC (f := 22) ?_); refine callC_go (x := _) (xs := _) rfl rfl rfl (by first | exact .inl (by rw [hcx]; exact rfl) | exact .inr (by assumption)) (by (try simp only [okS, okSl, okH, eq_self, true_and, and_true, and_self]); repeat' (first | exact trivial | exact rfl | exact disj_cut | exact disj_lt (by assumption) | assumption | omega | refine And.intro ?_ ?_ | (intro i hi; first | exact trivial | (split <;> first | exact trivial | exact disj_lt (by assumption) | exact disj_cut) | (repeat' split) <;> exact trivial))) (by (try simp only [okS, okSl, okH, eq_self, true_and, and_true, and_self]); repeat' (first | exact trivial | exact rfl | exact disj_cut | exact disj_lt (by assumption) | assumption | omega | refine And.intro ?_ ?_ | (intro i hi; first | exact trivial | (split <;> first | exact trivial | exact disj_lt (by assumption) | exact disj_cut) | (repeat' split) <;> exact trivial))) (fun K1 hK1 => by simp only [argsC, opd, lookup, Nat.zero_add, Nat.reduceEqDiff, ↓reduceIte, List.getElem?_cons_zero, List.getElem?_cons_succ, List.reverse_cons, List.reverse_nil, List.nil_append, List.cons_append]; repeat' (first | exact hK1 | exact trivial | exact disj_cut | assumption | omega | refine And.intro ?_ ?_)) ?_; first | (refine ⟨_, _, pick_fn _ _ (by omega) hb, ?_⟩; rintro _ ⟨y, hy, rfl⟩ hnewZ; clear hnewZ) | (refine ⟨_, _, among5_fn _ _ _ _ _ _ _ (fun _ => True) (by omega) hb rfl rfl rfl rfl rfl (by decide), ?_⟩; rintro _ ⟨z, hz, rfl⟩ hnewZ; clear hnewZ)) | (refine ax_op rfl ?_; intro K hK)) | ((with_reducible show evTake _ _ _ _ _); refine take_step rfl ?_; intro K hK) | ((with_reducible show evSy _ _ _ _ _ _ _); refine sy_take rfl ?_; intro K hK) | ((with_reducible show AxB _ _ _ _ _); first | (refine axb_op rfl rfl ?_; intro K hK)) | ((with_reducible show evOps _ _ _ _ _ _); (first | refine ev_step rfl ?_ | refine ev_undef rfl rfl rfl ?_); intro K hK) | ((with_reducible show EvOpen _ _ _ _ _ _ _); refine ev_open ?_; intro K hK) | ((with_reducible show SkOpen _ _ _ _ _ _ _); refine sk_open ?_; intro K hK) | ((with_reducible show callK _ _ _ _ _ _ _ _); first  | fail)); simp only [evOp, evQ, evB, withS, opd, kput, putS, upd, lookup, bringIn, bring, Res.list, Res.slot, storeK, frz, storeV, setBlk, newBlk, partsK, buildSliceK, plSlice, V.one, Value.oneCell', List.set_cons_zero, c_int, ei_ints, ea_ints, sz_terms, fi2, swpS, swSl, List.getElem?_cons_zero, List.nil_append, List.cons_append, List.length_cons, List.length_nil, Nat.reduceEqDiff, Nat.reduceLT, Nat.reduceLeDiff, Nat.mul_one, Nat.zero_add, Nat.mod_one, List.getD_cons_zero, ↓reduceIte, eq_self, true_and, Bool.false_eq_true, Option.isSome_some]) | refine ev_guard rfl rfl rfl ?_ ?_ | ((with_reducible show retQ _ _ _ _); simp only [eq_self]) | (with_reducible refine hK _ ?_; clear hK K) | (with_reducible refine And.intro ?_ ?_) | (with_reducible intro hc; try simp only [eq_self] at hc) | omega)
    all_goals first
      | (exfalso; omega)
      | ((repeat' split) <;> first | rfl | (exfalso; omega))
      | (refine retC_T rfl rfl rfl (Nat.le_refl _) (fun i hi => ?_) rfl (by omega) (fun m e => by show m.length ≤ 21; omega); (try dsimp only); (repeat' split) <;> first | exact ⟨_, rfl⟩ | exact z3 (by omega) | (exfalso; omega))
      | trace_state
  all_goals first
    | exact retC_Tnil rfl rfl (by omega) (by show 0 ≤ 21; omega)
    | exact retC_T rfl rfl rfl (Nat.le_refl _) (fun i hi => ⟨_, rfl⟩) rfl (by omega) (fun m e => by have := hl.2; show m.length ≤ 21; omega)
    | trace_state
end

open Go.RowKit Go.Proofs
set_option linter.unusedSimpArgs false
set_option linter.unusedVariables false
set_option maxRecDepth 20000

/-- Two lists of terms of which p holds. -/
def some2T (p : List T3 → Prop) : Res → Prop := fun r => ∃ l h : List T3, (p l ∧ p h) ∧ r = .many [.fr 3 l.length (bterms l), .fr 3 h.length (bterms h)]
theorem some2T.shape {p : List T3 → Prop} (r : Res) (h : some2T p r) : r.shape 2 = true := by obtain ⟨x, y, _, rfl⟩ := h; rfl
section
variable {m : Nat} {g : Nat → Int}
end

open Go.RowKit Go.Proofs
set_option linter.unusedSimpArgs false
set_option linter.unusedVariables false
set_option maxRecDepth 20000

/-- Rows of terms. -/
def rowsF (L : List (List T3)) (U : Nat → Value) (W : Nat → Nat → Prop) : Nat → V := fun i => .row (U i) (W i) 3 (tsAt L i).length fun j => vi (tf (tsAt L i) j)
def psOk (q : Nat) (L : List (List T3)) : Prop := L.length ≤ 11 ∧ ∀ i, i < L.length → (tsAt L i).length ≤ q
def wOk (N n : Nat) (W : Nat → Nat → Prop) : Prop := (∀ i, i < n → ∀ b, W i b → N ≤ b) ∧ ∀ i j, i < n → j < n → j ≠ i → Disj (W i) (W j)
/-- Some lists of terms. -/
def someTS : Res → Prop := fun r => ∃ (L : List (List T3)) (U : Nat → Value) (W : Nat → Nat → Prop), (psOk 21 L ∧ ∀ i j, i < L.length → j < L.length → j ≠ i → Disj (W i) (W j)) ∧ r = .one (.fr 1 L.length ⟨24, L.length, rowsF L U W⟩)
theorem someTS.shape (r : Res) (h : someTS r) : r.shape 1 = true := by obtain ⟨L, U, W, _, rfl⟩ := h; rfl

theorem tsAt_low {L : List (List T3)} {l : List T3} {i : Nat} (h : i < L.length) : tsAt (L ++ [l]) i = tsAt L i := by
  show (L ++ [l]).getD i [] = L.getD i []
  rw [List.getD, List.getD, List.getElem?_append_left h]
theorem tsAt_end {L : List (List T3)} {l : List T3} : tsAt (L ++ [l]) L.length = l := by
  show (L ++ [l]).getD L.length [] = l
  simp [List.getD]
theorem psOk.snoc {q : Nat} {L : List (List T3)} {l : List T3} (h : ∀ i, i < L.length → (tsAt L i).length ≤ q) (hl : l.length ≤ q) : ∀ i, i < (L ++ [l]).length → (tsAt (L ++ [l]) i).length ≤ q := fun i hi => by
  by_cases hlt : i < L.length
  · rw [tsAt_low hlt]; exact h i hlt
  · obtain rfl : i = L.length := by simp at hi; omega
    rw [tsAt_end]; exact hl
theorem wOk.snoc {N n : Nat} {W : Nat → Nat → Prop} {Z : Nat → Prop} (h : wOk N n W) (hZ : ∀ b, Z b → N ≤ b) (hd : ∀ i, i < n → Disj (W i) Z) : wOk N (n + 1) (fun i => if i = n then Z else W i) := by
  refine ⟨fun i hi b hb => ?_, fun i j hi hj e => ?_⟩
  · by_cases hin : i = n
    · exact hZ b (by simpa [hin] using hb)
    · exact h.1 i (by omega) b (by simpa [hin] using hb)
  · by_cases hin : i = n
    · have hjn : ¬ j = n := by omega
      simp only [hin, hjn, if_true, if_false]
      exact fun b hb hb' => hd j (by omega) b hb' hb
    · by_cases hjn : j = n
      · simp only [hin, hjn, if_true, if_false]; exact hd i (by omega)
      · simp only [hin, hjn, if_false]; exact h.2 i j (by omega) (by omega) e
theorem wOk.set {N n x : Nat} {W : Nat → Nat → Prop} {Z : Nat → Prop} (h : wOk N n W) (hZ : ∀ b, Z b → N ≤ b) (hd : ∀ i, i < n → Disj (W i) Z) : wOk N n (fun i => if i = x then Z else W i) := by
  refine ⟨fun i hi b hb => ?_, fun i j hi hj e => ?_⟩
  · by_cases hin : i = x
    · exact hZ b (by simpa [hin] using hb)
    · exact h.1 i hi b (by simpa [hin] using hb)
  · by_cases hin : i = x
    · have hjn : ¬ j = x := by omega
      simp only [hin, hjn, if_true, if_false]
      exact fun b hb hb' => hd j hj b hb' hb
    · by_cases hjn : j = x
      · simp only [hin, hjn, if_true, if_false]; exact hd i hi
      · simp only [hin, hjn, if_false]; exact h.2 i j hi hj e

section
variable {b m : Nat} {Z : Nat → Prop} {g : Nat → Int}

end

end Go.Proofs.YteapdildbfimnaaDoor
