/- Automata turned round, in new memory. Conditions: none but that they are good. -/
import Derived.Test.YtpimjkhfookipaaEngX
import Derived.Test.YtpimjkhfookipaaTurnH
import Derived.Test.YtpimjkhfookipaaLawZ
import Derived.Test.YtpimjkhfookipaaPureMx
namespace Go.Proofs.Ytpimjkhfookipaa
open Go.RowKit Go.Proofs
set_option linter.unusedSimpArgs false
set_option linter.unusedVariables false
def gS (N k : Nat) (p : Nat → V → Prop) (v : V) : Prop := ∃ (u : Value) (Z : Nat → Prop) (F : Nat → V), v = .grow u Z 45 1 k F ∧ (∀ b, Z b → N ≤ b) ∧ ∀ i, i < k → p i (F i) ∧ (∀ b, Zof (F i) b → N ≤ b) ∧ Disj Z (Zof (F i)) ∧ ∀ j, j < k → j ≠ i → Apart (F i) (F j)

theorem Zof.growF {u : Value} {Z : Nat → Prop} {e : TypeId} {n : Nat} {F : Nat → V} {b : Nat} : Zof (.grow u Z e 1 n F) b ↔ Z b ∨ ∃ i, i < n ∧ Zof (F i) b := by
  constructor
  · rintro ⟨Z', h, hb⟩
    cases h with
    | grow => exact .inl hb
    | inGrow _ _ _ _ _ _ i hi h => exact .inr ⟨i, by omega, Z', h, hb⟩
  · rintro (h | ⟨i, hi, Z', h, hb⟩)
    · exact ⟨Z, .grow _ _ _ _ _, h⟩
    · exact ⟨Z', .inGrow _ _ _ _ _ _ i (by omega) h, hb⟩
theorem gS.nil (N : Nat) (p : Nat → V → Prop) : gS N 0 p (.grow (.slice none 0 0) (fun _ => False) 45 1 0 fun _ => .val undef) := ⟨_, _, _, rfl, fun _ h => h.elim, fun i hi => by omega⟩
theorem gS.nil_apart (v : V) : Apart v (.grow (.slice none 0 0) (fun _ => False) 45 1 0 fun _ => .val undef) := fun b _ h => by
  rcases Zof.growF.1 h with h | ⟨i, hi, _⟩
  · exact h
  · omega
theorem gS.step {N k : Nat} {p : Nat → V → Prop} {Z Z2 : Nat → Prop} {u2 : Value} {F : Nat → V} {v : V} (h : ∀ i, i < k → p i (F i) ∧ (∀ b, Zof (F i) b → N ≤ b) ∧ Disj Z (Zof (F i)) ∧ ∀ j, j < k → j ≠ i → Apart (F i) (F j)) (hv : p k v) (hN : ∀ b, Zof v b → N ≤ b) (ha : ∀ i, i < k → Apart (F i) v)
    (hZ : ∀ b, Z2 b → N ≤ b) (hd : ∀ i, i < k → Disj Z2 (Zof (F i))) (hdv : Disj Z2 (Zof v)) : gS N (k + 1) p (.grow u2 Z2 45 1 (k + 1) fun i => if i = k then v else F i) := by
  refine ⟨u2, Z2, _, rfl, hZ, fun i hi => ?_⟩
  by_cases e : i = k
  · subst e
    simp only [if_pos]
    exact ⟨hv, hN, hdv, fun j hj hne => by rw [if_neg hne]; exact (ha j (by omega)).symm⟩
  · obtain ⟨q1, q2, q3, q4⟩ := h i (by omega)
    simp only [if_neg e]
    refine ⟨q1, q2, hd i (by omega), fun j hj hne => ?_⟩
    by_cases e' : j = k
    · rw [if_pos e']; exact ha i (by omega)
    · rw [if_neg e']; exact q4 j (by omega) hne
theorem gS.new {N k : Nat} {p : Nat → V → Prop} {v : V} (hp : ∀ i v, p i v → NewV (fun _ => True) v) (h : gS N k p v) : NewV (fun _ => True) v := by
  obtain ⟨u, Z, F, rfl, h1, h2⟩ := h
  exact ⟨trivial, fun i hi => hp i _ (h2 i (by omega)).1⟩
theorem gS.ge {N k : Nat} {p : Nat → V → Prop} {v : V} (h : gS N k p v) : ∀ b, Zof v b → N ≤ b := by
  obtain ⟨u, Z, F, rfl, h1, h2⟩ := h
  intro b hb
  rcases Zof.growF.1 hb with hb | ⟨i, hi, hb⟩
  · exact h1 b hb
  · exact (h2 i hi).2.1 b hb
theorem gS.one {N k : Nat} {p : Nat → V → Prop} {v : V} (h : gS N k p v) : v.one = true := by obtain ⟨u, Z, F, rfl, h⟩ := h; rfl
/-- All of it is there: a list. -/
theorem gS.isL {N k : Nat} {p : Nat → V → Prop} {v : V} (h : gS N k p v) : isL k p (rowOfG v) ∧ VE v (rowOfG v) ∧ ∀ b, Zof (rowOfG v) b → Zof v b := by
  obtain ⟨u, Z, F, rfl, h1, h2⟩ := h
  refine ⟨⟨u, Z, F, rfl, fun i hi => ⟨(h2 i hi).1, (h2 i hi).2.2.1, (h2 i hi).2.2.2⟩⟩, ⟨rfl, rfl, rfl, rfl, fun i _ => VE.rfl' _⟩, fun b hb => ?_⟩
  rcases Zof.row hb with hb | ⟨i, hi, hb⟩
  · exact Zof.growF.2 (.inl hb)
  · exact Zof.growF.2 (.inr ⟨i, hi, hb⟩)
theorem keepRow {l : List Int} {v x : V} {u : Value} {Z : Nat → Prop} {e : TypeId} {n : Nat} {F : Nat → V} (h : isRow l v) (ha : Apart v (.grow u Z e 1 n F)) : Keeps Z v := Keeps.of_apart v h.new fun b hb hz => ha b hb (Zof.growF.2 (.inl hz))
theorem out_sw {Z : Nat → Prop} {u : Value} {v0 v1 g : V} (k0 : Keeps Z v0) (k1 : Keeps Z v1) : ∀ i, i < 3 → ZStep Z [(g, .val u)] (if i = 0 then v0 else if i = 1 then v1 else g) (if i = 0 then v0 else if i = 1 then v1 else .val u) := fun i hi => by
  rcases (show i = 0 ∨ i = 1 ∨ i = 2 by omega) with rfl | rfl | rfl
  · exact .inl ⟨k0, rfl⟩
  · exact .inl ⟨k1, rfl⟩
  · exact .inr (by simp)
theorem one_sw {Z : Nat → Prop} {ps : List (V × V)} {v z : V} (h : Keeps Z v) : ∀ i, i < 1 → ZStep Z ps (if i = 0 then v else z) v := fun i hi => by
  obtain rfl : i = 0 := by omega
  exact .inl ⟨h, rfl⟩
/-- What the grown list lies apart from. -/
theorem apart_step {k : Nat} {Z Z4 : Nat → Prop} {u u4 : Value} {e : TypeId} {F : Nat → V} {v vn : V} (h : Apart v (.grow u Z e 1 k F)) (hn : Apart v vn) (hz : Disj (Zof v) Z4) : Apart v (.grow u4 Z4 e 1 (k + 1) fun i => if i = k then vn else F i) := fun b hb hb' => by
  rcases Zof.growF.1 hb' with hb' | ⟨i, hi, hb'⟩
  · exact hz b hb hb'
  · by_cases e : i = k
    · rw [if_pos e] at hb'; exact hn b hb hb'
    · rw [if_neg e] at hb'; exact h b hb (Zof.growF.2 (.inr ⟨i, by omega, hb'⟩))
theorem grow_if' {k : Nat} {F : Nat → V} {v : V} {u4 : Value} {Z4 : Nat → Prop} {e : TypeId} : VE (.grow u4 Z4 e 1 (k + 1) fun i => if i < k then F i else v) (.grow u4 Z4 e 1 (k + 1) fun i => if i = k then v else F i) := by
  refine ⟨rfl, rfl, rfl, rfl, rfl, fun i hi => VE.of_eq ?_⟩
  show (if i < k then F i else v) = if i = k then v else F i
  by_cases e : i = k
  · subst e; rw [if_neg (by omega), if_pos rfl]
  · rw [if_pos (by omega), if_neg e]
/-- The variable behind the store. -/
theorem out_ve {k : Nat} {v0 v1 vn z : V} {F : Nat → V} {u4 : Value} {Z4 : Nat → Prop} {e : TypeId} : ∀ i, i < 3 → VE (if i = 2 then .grow u4 Z4 e 1 (k + 1) fun i => if i < k then F i else vn else if i = 0 then v0 else if i = 1 then v1 else z)
    (if i = 0 then v0 else if i = 1 then v1 else .grow u4 Z4 e 1 (k + 1) fun i => if i = k then vn else F i) := fun i hi => by
  rcases (show i = 0 ∨ i = 1 ∨ i = 2 by omega) with rfl | rfl | rfl
  · exact VE.rfl' _
  · exact VE.rfl' _
  · exact grow_if'

theorem isMats.of {s : List (List (List Int))} {n : Nat} {p : Nat → V → Prop} {v : V} (h : isL n p v) (hl : s.length = n) (hp : ∀ i v, i < n → p i v → isMat (matAt s i) v) : isMats s v := by
  subst hl
  obtain ⟨u, Z, F, rfl, h⟩ := h
  exact ⟨u, Z, F, rfl, fun i hi => ⟨hp i _ hi (h i hi).1, (h i hi).2⟩⟩
/-- The rows that are being made, apart from what is there. -/
def pU (N n cnt : Nat) (m : List (List Int)) (O : Nat → V) (F : Nat → V) : Prop := partL N n cnt (fun q => isRow (rowAt m q)) F ∧ ∀ q, q < cnt → ∀ i, i < 3 → Apart (O i) (F q)
theorem pU.nil (N n : Nat) (m : List (List Int)) (O F : Nat → V) : pU N n 0 m O F := ⟨⟨by omega, fun i hi => by omega⟩, fun q hq => by omega⟩
theorem pU.grow {N n cnt : Nat} {m : List (List Int)} {O F : Nat → V} {v : V} (h : pU N n cnt m O F) (hc : cnt < n) (hv : isRow (rowAt m cnt) v) (hN : ∀ b, Zof v b → N ≤ b) (hd : ∀ i, i < cnt → Apart (F i) v) (ho : ∀ i, i < 3 → Apart (O i) v) : pU N n (cnt + 1) m O (fun i => if i = cnt then v else F i) := by
  refine ⟨h.1.grow hc hv hN hd, fun q hq i hi => ?_⟩
  show Apart (O i) (if q = cnt then v else F q)
  by_cases e : q = cnt
  · rw [if_pos e]; exact ho i hi
  · rw [if_neg e]; exact h.2 q (by omega) i hi
/-- A row of new memory behind an own slice of rows. -/
theorem isMat_letu {N n cnt : Nat} {m : List (List Int)} {F : Nat → V} {u : Value} {Z : Nat → Prop} (hc : m.length = cnt) (h : partL N n cnt (fun q => isRow (rowAt m q)) F) (hd : ∀ q, q < cnt → Disj (Zof (F q)) Z) : isMat m (.row u Z 1 cnt F) := by
  subst hc
  exact ⟨u, Z, F, rfl, fun q hq => ⟨(h.2 q hq).1, (hd q hq).symm, (h.2 q hq).2.2⟩⟩

end Go.Proofs.Ytpimjkhfookipaa
