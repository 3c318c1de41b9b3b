/- Matrices turned, in new memory. Conditions: rows of one length; lists no longer than 2^40. -/
import Derived.Test.YtpimjkhfookipaaEngN
import Derived.Test.YtpimjkhfookipaaFnZ
import Derived.Test.YtpimjkhfookipaaEngX
import Derived.Test.YtpimjkhfookipaaPureMx
namespace Go.Proofs.Ytpimjkhfookipaa
open Go.RowKit Go.Proofs
set_option linter.unusedSimpArgs false
set_option linter.unusedVariables false

/-- A list of numbers that may grow. -/
def isG (l : List Int) (v : V) : Prop := ∃ (u : Value) (Z : Nat → Prop), v = .grow u Z 3 1 l.length fun j => vi (l.getD j 0)
def gL (N n : Nat) (p : Nat → List Int) (F : Nat → V) : Prop := ∀ q, q < n → isG (p q) (F q) ∧ (∀ b, Zof (F q) b → N ≤ b) ∧ ∀ r, r < n → r ≠ q → Apart (F q) (F r)
theorem isG.one {l : List Int} {v : V} (h : isG l v) : v.one = true := by obtain ⟨u, Z, rfl⟩ := h; rfl
theorem Zof.grow {u : Value} {Z : Nat → Prop} {e : TypeId} {n : Nat} {g : Nat → Int} {b : Nat} : Zof (.grow u Z e 1 n fun j => vi (g j)) b ↔ Z b := by
  constructor
  · rintro ⟨Z', h, hb⟩
    cases h with
    | grow => exact hb
    | inGrow _ _ _ _ _ _ i _ h => cases h
  · intro h; exact ⟨Z, .grow _ _ _ _ _, h⟩
theorem isG.keeps {l : List Int} {v : V} {T : Nat → Prop} (h : isG l v) (hT : Disj (Zof v) T) : Keeps T v := by
  obtain ⟨u, Z, rfl⟩ := h
  exact ⟨fun b hb => hT b (Zof.grow.2 hb), fun _ _ => trivial⟩
theorem isG.new {l : List Int} {v : V} (h : isG l v) : NewV (fun _ => True) v := by obtain ⟨u, Z, rfl⟩ := h; exact ⟨trivial, fun _ _ => trivial⟩
/-- Let go as a row. -/
def rowOfG : V → V
  | .grow u Z _ sz n f => .row u Z sz n f
  | v => v
theorem isG.row {l : List Int} {v : V} (h : isG l v) : isRow l (rowOfG v) ∧ VE v (rowOfG v) ∧ ∀ b, Zof (rowOfG v) b ↔ Zof v b := by
  obtain ⟨u, Z, rfl⟩ := h
  refine ⟨⟨u, Z, rfl⟩, ⟨rfl, rfl, rfl, rfl, fun i _ => VE.rfl' _⟩, fun b => ⟨?_, ?_⟩⟩
  · rintro ⟨Z', h, hb⟩
    cases h with
    | row => exact Zof.grow.2 hb
    | inRow _ _ _ _ _ i _ h => cases h
  · intro h; exact ⟨Z, .row _ _ _ _, Zof.grow.1 h⟩
/-- One of the lists has grown. -/
theorem gL.step {N n k : Nat} {p p' : Nat → List Int} {F : Nat → V} {u1 : Value} {Z1 : Nat → Prop} (h : gL N n p F) (hk : k < n) (hp : ∀ q, q < n → q ≠ k → p' q = p q) (hN : ∀ b, Z1 b → N ≤ b) (hd : ∀ q, q < n → q ≠ k → Disj (Zof (F q)) Z1) :
    gL N n p' fun q => if q = k then .grow u1 Z1 3 1 (p' k).length fun j => vi ((p' k).getD j 0) else F q := by
  intro q hq
  by_cases e : q = k
  · subst e
    simp only [if_pos]
    refine ⟨⟨u1, Z1, rfl⟩, fun b hb => hN b (Zof.grow.1 hb), fun r hr hne => ?_⟩
    rw [if_neg hne]
    exact fun b hb hb' => hd r hr hne b hb' (Zof.grow.1 hb)
  · obtain ⟨h1, h2, h3⟩ := h q hq
    simp only [if_neg e]
    refine ⟨by rw [hp q hq e]; exact h1, h2, fun r hr hne => ?_⟩
    by_cases e' : r = k
    · rw [if_pos e']
      exact fun b hb hb' => hd q hq e b hb (Zof.grow.1 hb')
    · rw [if_neg e']; exact h3 r hr hne

theorem letRow_go {N t : Nat} {s : ASt} {K : ASt → Prop} {id sz len : Nat} {blk : Blk} (ht : lookup s.σ t = some (.one (.own id sz 0 len))) (hb : s.h[id]? = some (some blk)) (hl : len * sz ≤ blk.n)
    (h : ∀ (u0 : Value) (Z : Nat → Prop), (∀ b, Z b → N ≤ b) → (∀ Z', ZSt Z' s → Disj Z' Z) → K ⟨upd s.σ t (.one (.pv (.row u0 Z sz len blk.f))), s.h.set id none, s.nt⟩) : letRowK N t s K := ⟨id, sz, len, blk, ht, hb, hl, h⟩
theorem grow_if {e : TypeId} {k : Nat} {F : Nat → V} {v v' z : V} (h : VE v v') : BE ⟨e, k + 1, fun i => if i < k then F i else if i - k = 0 then v else z⟩ ⟨e, k + 1, fun i => if i = k then v' else F i⟩ := by
  refine ⟨rfl, Nat.le_refl _, fun i hi => ?_⟩
  have hi : i < k + 1 := hi
  show VE (if i < k then F i else if i - k = 0 then v else z) (if i = k then v' else F i)
  by_cases e : i = k
  · subst e; rw [if_neg (by omega), if_pos (by omega), if_pos rfl]; exact h
  · rw [if_pos (by omega), if_neg e]; exact VE.rfl' _
open Go.RowKit Go.Proofs
set_option linter.unusedSimpArgs false
set_option linter.unusedVariables false
def gS (N k : Nat) (p : Nat → V → Prop) (v : V) : Prop := ∃ (u : Value) (Z : Nat → Prop) (F : Nat → V), v = .grow u Z 45 1 k F ∧ (∀ b, Z b → N ≤ b) ∧ ∀ i, i < k → p i (F i) ∧ (∀ b, Zof (F i) b → N ≤ b) ∧ Disj Z (Zof (F i)) ∧ ∀ j, j < k → j ≠ i → Apart (F i) (F j)

theorem Zof.growF {u : Value} {Z : Nat → Prop} {e : TypeId} {n : Nat} {F : Nat → V} {b : Nat} : Zof (.grow u Z e 1 n F) b ↔ Z b ∨ ∃ i, i < n ∧ Zof (F i) b := by
  constructor
  · rintro ⟨Z', h, hb⟩
    cases h with
    | grow => exact .inl hb
    | inGrow _ _ _ _ _ _ i hi h => exact .inr ⟨i, by omega, Z', h, hb⟩
  · rintro (h | ⟨i, hi, Z', h, hb⟩)
    · exact ⟨Z, .grow _ _ _ _ _, h⟩
    · exact ⟨Z', .inGrow _ _ _ _ _ _ i (by omega) h, hb⟩
theorem gS.nil (N : Nat) (p : Nat → V → Prop) : gS N 0 p (.grow (.slice none 0 0) (fun _ => False) 45 1 0 fun _ => .val undef) := ⟨_, _, _, rfl, fun _ h => h.elim, fun i hi => by omega⟩
theorem gS.step {N k : Nat} {p : Nat → V → Prop} {Z Z2 : Nat → Prop} {u2 : Value} {F : Nat → V} {v : V} (h : ∀ i, i < k → p i (F i) ∧ (∀ b, Zof (F i) b → N ≤ b) ∧ Disj Z (Zof (F i)) ∧ ∀ j, j < k → j ≠ i → Apart (F i) (F j)) (hv : p k v) (hN : ∀ b, Zof v b → N ≤ b) (ha : ∀ i, i < k → Apart (F i) v)
    (hZ : ∀ b, Z2 b → N ≤ b) (hd : ∀ i, i < k → Disj Z2 (Zof (F i))) (hdv : Disj Z2 (Zof v)) : gS N (k + 1) p (.grow u2 Z2 45 1 (k + 1) fun i => if i = k then v else F i) := by
  refine ⟨u2, Z2, _, rfl, hZ, fun i hi => ?_⟩
  by_cases e : i = k
  · subst e
    simp only [if_pos]
    exact ⟨hv, hN, hdv, fun j hj hne => by rw [if_neg hne]; exact (ha j (by omega)).symm⟩
  · obtain ⟨q1, q2, q3, q4⟩ := h i (by omega)
    simp only [if_neg e]
    refine ⟨q1, q2, hd i (by omega), fun j hj hne => ?_⟩
    by_cases e' : j = k
    · rw [if_pos e']; exact ha i (by omega)
    · rw [if_neg e']; exact q4 j (by omega) hne
theorem gS.new {N k : Nat} {p : Nat → V → Prop} {v : V} (hp : ∀ i v, p i v → NewV (fun _ => True) v) (h : gS N k p v) : NewV (fun _ => True) v := by
  obtain ⟨u, Z, F, rfl, h1, h2⟩ := h
  exact ⟨trivial, fun i hi => hp i _ (h2 i (by omega)).1⟩
theorem gS.ge {N k : Nat} {p : Nat → V → Prop} {v : V} (h : gS N k p v) : ∀ b, Zof v b → N ≤ b := by
  obtain ⟨u, Z, F, rfl, h1, h2⟩ := h
  intro b hb
  rcases Zof.growF.1 hb with hb | ⟨i, hi, hb⟩
  · exact h1 b hb
  · exact (h2 i hi).2.1 b hb
theorem gS.one {N k : Nat} {p : Nat → V → Prop} {v : V} (h : gS N k p v) : v.one = true := by obtain ⟨u, Z, F, rfl, h⟩ := h; rfl
theorem one_sw {Z : Nat → Prop} {ps : List (V × V)} {v z : V} (h : Keeps Z v) : ∀ i, i < 1 → ZStep Z ps (if i = 0 then v else z) v := fun i hi => by
  obtain rfl : i = 0 := by omega
  exact .inl ⟨h, rfl⟩
/-- The rows that are being made, apart from what is there. -/
def pU (N n cnt : Nat) (m : List (List Int)) (O : Nat → V) (F : Nat → V) : Prop := partL N n cnt (fun q => isRow (rowAt m q)) F ∧ ∀ q, q < cnt → ∀ i, i < 3 → Apart (O i) (F q)
theorem pU.nil (N n : Nat) (m : List (List Int)) (O F : Nat → V) : pU N n 0 m O F := ⟨⟨by omega, fun i hi => by omega⟩, fun q hq => by omega⟩
theorem pU.grow {N n cnt : Nat} {m : List (List Int)} {O F : Nat → V} {v : V} (h : pU N n cnt m O F) (hc : cnt < n) (hv : isRow (rowAt m cnt) v) (hN : ∀ b, Zof v b → N ≤ b) (hd : ∀ i, i < cnt → Apart (F i) v) (ho : ∀ i, i < 3 → Apart (O i) v) : pU N n (cnt + 1) m O (fun i => if i = cnt then v else F i) := by
  refine ⟨h.1.grow hc hv hN hd, fun q hq i hi => ?_⟩
  show Apart (O i) (if q = cnt then v else F q)
  by_cases e : q = cnt
  · rw [if_pos e]; exact ho i hi
  · rw [if_neg e]; exact h.2 q (by omega) i hi
end Go.Proofs.Ytpimjkhfookipaa
