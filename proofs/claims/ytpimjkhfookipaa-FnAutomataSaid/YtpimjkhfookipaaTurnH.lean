/- Matrices turned, in new memory. Conditions: rows of one length; lists no longer than 2^40. -/
import Derived.Test.YtpimjkhfookipaaEngN
import Derived.Test.YtpimjkhfookipaaFnZ
namespace Go.Proofs.Ytpimjkhfookipaa
open Go.RowKit Go.Proofs
set_option linter.unusedSimpArgs false
set_option linter.unusedVariables false

/-- A list of numbers that may grow. -/
def isG (l : List Int) (v : V) : Prop := ∃ (u : Value) (Z : Nat → Prop), v = .grow u Z 3 1 l.length fun j => vi (l.getD j 0)
def gL (N n : Nat) (p : Nat → List Int) (F : Nat → V) : Prop := ∀ q, q < n → isG (p q) (F q) ∧ (∀ b, Zof (F q) b → N ≤ b) ∧ ∀ r, r < n → r ≠ q → Apart (F q) (F r)
theorem isG.one {l : List Int} {v : V} (h : isG l v) : v.one = true := by obtain ⟨u, Z, rfl⟩ := h; rfl
theorem Zof.grow {u : Value} {Z : Nat → Prop} {e : TypeId} {n : Nat} {g : Nat → Int} {b : Nat} : Zof (.grow u Z e 1 n fun j => vi (g j)) b ↔ Z b := by
  constructor
  · rintro ⟨Z', h, hb⟩
    cases h with
    | grow => exact hb
    | inGrow _ _ _ _ _ _ i _ h => cases h
  · intro h; exact ⟨Z, .grow _ _ _ _ _, h⟩
theorem isG.new {l : List Int} {v : V} (h : isG l v) : NewV (fun _ => True) v := by obtain ⟨u, Z, rfl⟩ := h; exact ⟨trivial, fun _ _ => trivial⟩
/-- Let go as a row. -/
def rowOfG : V → V
  | .grow u Z _ sz n f => .row u Z sz n f
  | v => v
theorem isG.row {l : List Int} {v : V} (h : isG l v) : isRow l (rowOfG v) ∧ VE v (rowOfG v) ∧ ∀ b, Zof (rowOfG v) b ↔ Zof v b := by
  obtain ⟨u, Z, rfl⟩ := h
  refine ⟨⟨u, Z, rfl⟩, ⟨rfl, rfl, rfl, rfl, fun i _ => VE.rfl' _⟩, fun b => ⟨?_, ?_⟩⟩
  · rintro ⟨Z', h, hb⟩
    cases h with
    | row => exact Zof.grow.2 hb
    | inRow _ _ _ _ _ i _ h => cases h
  · intro h; exact ⟨Z, .row _ _ _ _, Zof.grow.1 h⟩
/-- One of the lists has grown. -/
theorem gL.step {N n k : Nat} {p p' : Nat → List Int} {F : Nat → V} {u1 : Value} {Z1 : Nat → Prop} (h : gL N n p F) (hk : k < n) (hp : ∀ q, q < n → q ≠ k → p' q = p q) (hN : ∀ b, Z1 b → N ≤ b) (hd : ∀ q, q < n → q ≠ k → Disj (Zof (F q)) Z1) :
    gL N n p' fun q => if q = k then .grow u1 Z1 3 1 (p' k).length fun j => vi ((p' k).getD j 0) else F q := by
  intro q hq
  by_cases e : q = k
  · subst e
    simp only [if_pos]
    refine ⟨⟨u1, Z1, rfl⟩, fun b hb => hN b (Zof.grow.1 hb), fun r hr hne => ?_⟩
    rw [if_neg hne]
    exact fun b hb hb' => hd r hr hne b hb' (Zof.grow.1 hb)
  · obtain ⟨h1, h2, h3⟩ := h q hq
    simp only [if_neg e]
    refine ⟨by rw [hp q hq e]; exact h1, h2, fun r hr hne => ?_⟩
    by_cases e' : r = k
    · rw [if_pos e']
      exact fun b hb hb' => hd q hq e b hb (Zof.grow.1 hb')
    · rw [if_neg e']; exact h3 r hr hne

theorem letRow_go {N t : Nat} {s : ASt} {K : ASt → Prop} {id sz len : Nat} {blk : Blk} (ht : lookup s.σ t = some (.one (.own id sz 0 len))) (hb : s.h[id]? = some (some blk)) (hl : len * sz ≤ blk.n)
    (h : ∀ (u0 : Value) (Z : Nat → Prop), (∀ b, Z b → N ≤ b) → (∀ Z', ZSt Z' s → Disj Z' Z) → K ⟨upd s.σ t (.one (.pv (.row u0 Z sz len blk.f))), s.h.set id none, s.nt⟩) : letRowK N t s K := ⟨id, sz, len, blk, ht, hb, hl, h⟩
theorem grow_if {e : TypeId} {k : Nat} {F : Nat → V} {v v' z : V} (h : VE v v') : BE ⟨e, k + 1, fun i => if i < k then F i else if i - k = 0 then v else z⟩ ⟨e, k + 1, fun i => if i = k then v' else F i⟩ := by
  refine ⟨rfl, Nat.le_refl _, fun i hi => ?_⟩
  have hi : i < k + 1 := hi
  show VE (if i < k then F i else if i - k = 0 then v else z) (if i = k then v' else F i)
  by_cases e : i = k
  · subst e; rw [if_neg (by omega), if_pos (by omega), if_pos rfl]; exact h
  · rw [if_pos (by omega), if_neg e]; exact VE.rfl' _
theorem zofRow {u : Value} {Z : Nat → Prop} {n : Nat} {g : Nat → Int} {b : Nat} : Zof (.row u Z 1 n fun j => vi (g j)) b ↔ Z b := by
  constructor
  · rintro ⟨Z', h, hb⟩
    cases h with
    | row => exact hb
    | inRow _ _ _ _ _ i _ h => cases h
  · intro h; exact ⟨Z, .row _ _ _ _, h⟩
end Go.Proofs.Ytpimjkhfookipaa
