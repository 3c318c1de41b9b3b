/- Matrices turned, in new memory. Conditions: rows of one length; lists no longer than 2^40. -/
import Derived.Test.YtpimjkhfookipaaDoorEngN
import Derived.Test.YtpimjkhfookipaaDoorFnZ
import Derived.Test.YtpimjkhfookipaaDoorEngX
import Derived.Test.YtpimjkhfookipaaDoorPureMx
namespace Go.Proofs.YtpimjkhfookipaaDoor
open Go.RowKit Go.Proofs
set_option linter.unusedSimpArgs false
set_option linter.unusedVariables false

/-- The first i numbers of column k. -/
def colP (m : List (List Int)) (k i : Nat) : List Int := (List.range i).map fun j => (rowAt m j).getD k 0
theorem colP_len (m : List (List Int)) (k i : Nat) : (colP m k i).length = i := by simp [colP]
theorem colP_get {m : List (List Int)} {k i j : Nat} (h : j < i) : (colP m k i).getD j 0 = (rowAt m j).getD k 0 := by simp [colP, List.getD, h]
/-- The matrix turned. -/
def turnM (m : List (List Int)) : List (List Int) := (List.range (rowAt m 0).length).map fun k => colP m k m.length
theorem turnM_len (m : List (List Int)) : (turnM m).length = (rowAt m 0).length := by simp [turnM]
theorem turnM_at {m : List (List Int)} {k : Nat} (h : k < (rowAt m 0).length) : rowAt (turnM m) k = colP m k m.length := by
  have h2 : k < (turnM m).length := by rw [turnM_len]; exact h
  unfold rowAt
  rw [List.getD, List.getElem?_eq_getElem h2]
  simp [turnM]

/-- A list of numbers that may grow. -/
def isG (l : List Int) (v : V) : Prop := ∃ (u : Value) (Z : Nat → Prop), v = .grow u Z 3 1 l.length fun j => vi (l.getD j 0)
def gL (N n : Nat) (p : Nat → List Int) (F : Nat → V) : Prop := ∀ q, q < n → isG (p q) (F q) ∧ (∀ b, Zof (F q) b → N ≤ b) ∧ ∀ r, r < n → r ≠ q → Apart (F q) (F r)
theorem isG.one {l : List Int} {v : V} (h : isG l v) : v.one = true := by obtain ⟨u, Z, rfl⟩ := h; rfl
theorem Zof.grow {u : Value} {Z : Nat → Prop} {e : TypeId} {n : Nat} {g : Nat → Int} {b : Nat} : Zof (.grow u Z e 1 n fun j => vi (g j)) b ↔ Z b := by
  constructor
  · rintro ⟨Z', h, hb⟩
    cases h with
    | grow => exact hb
    | inGrow _ _ _ _ _ _ i _ h => cases h
  · intro h; exact ⟨Z, .grow _ _ _ _ _, h⟩
theorem isG.keeps {l : List Int} {v : V} {T : Nat → Prop} (h : isG l v) (hT : Disj (Zof v) T) : Keeps T v := by
  obtain ⟨u, Z, rfl⟩ := h
  exact ⟨fun b hb => hT b (Zof.grow.2 hb), fun _ _ => trivial⟩
theorem isG.new {l : List Int} {v : V} (h : isG l v) : NewV (fun _ => True) v := by obtain ⟨u, Z, rfl⟩ := h; exact ⟨trivial, fun _ _ => trivial⟩
/-- Let go as a row. -/
def rowOfG : V → V
  | .grow u Z _ sz n f => .row u Z sz n f
  | v => v
theorem isG.row {l : List Int} {v : V} (h : isG l v) : isRow l (rowOfG v) ∧ VE v (rowOfG v) ∧ ∀ b, Zof (rowOfG v) b ↔ Zof v b := by
  obtain ⟨u, Z, rfl⟩ := h
  refine ⟨⟨u, Z, rfl⟩, ⟨rfl, rfl, rfl, rfl, fun i _ => VE.rfl' _⟩, fun b => ⟨?_, ?_⟩⟩
  · rintro ⟨Z', h, hb⟩
    cases h with
    | row => exact Zof.grow.2 hb
    | inRow _ _ _ _ _ i _ h => cases h
  · intro h; exact ⟨Z, .row _ _ _ _, Zof.grow.1 h⟩
/-- One of the lists has grown. -/
theorem gL.step {N n k : Nat} {p p' : Nat → List Int} {F : Nat → V} {u1 : Value} {Z1 : Nat → Prop} (h : gL N n p F) (hk : k < n) (hp : ∀ q, q < n → q ≠ k → p' q = p q) (hN : ∀ b, Z1 b → N ≤ b) (hd : ∀ q, q < n → q ≠ k → Disj (Zof (F q)) Z1) :
    gL N n p' fun q => if q = k then .grow u1 Z1 3 1 (p' k).length fun j => vi ((p' k).getD j 0) else F q := by
  intro q hq
  by_cases e : q = k
  · subst e
    simp only [if_pos]
    refine ⟨⟨u1, Z1, rfl⟩, fun b hb => hN b (Zof.grow.1 hb), fun r hr hne => ?_⟩
    rw [if_neg hne]
    exact fun b hb hb' => hd r hr hne b hb' (Zof.grow.1 hb)
  · obtain ⟨h1, h2, h3⟩ := h q hq
    simp only [if_neg e]
    refine ⟨by rw [hp q hq e]; exact h1, h2, fun r hr hne => ?_⟩
    by_cases e' : r = k
    · rw [if_pos e']
      exact fun b hb hb' => hd q hq e b hb (Zof.grow.1 hb')
    · rw [if_neg e']; exact h3 r hr hne

theorem letRow_go {N t : Nat} {s : ASt} {K : ASt → Prop} {id sz len : Nat} {blk : Blk} (ht : lookup s.σ t = some (.one (.own id sz 0 len))) (hb : s.h[id]? = some (some blk)) (hl : len * sz ≤ blk.n)
    (h : ∀ (u0 : Value) (Z : Nat → Prop), (∀ b, Z b → N ≤ b) → (∀ Z', ZSt Z' s → Disj Z' Z) → K ⟨upd s.σ t (.one (.pv (.row u0 Z sz len blk.f))), s.h.set id none, s.nt⟩) : letRowK N t s K := ⟨id, sz, len, blk, ht, hb, hl, h⟩
theorem grow_if {e : TypeId} {k : Nat} {F : Nat → V} {v v' z : V} (h : VE v v') : BE ⟨e, k + 1, fun i => if i < k then F i else if i - k = 0 then v else z⟩ ⟨e, k + 1, fun i => if i = k then v' else F i⟩ := by
  refine ⟨rfl, Nat.le_refl _, fun i hi => ?_⟩
  have hi : i < k + 1 := hi
  show VE (if i < k then F i else if i - k = 0 then v else z) (if i = k then v' else F i)
  by_cases e : i = k
  · subst e; rw [if_neg (by omega), if_pos (by omega), if_pos rfl]; exact h
  · rw [if_pos (by omega), if_neg e]; exact VE.rfl' _
theorem zofRow {u : Value} {Z : Nat → Prop} {n : Nat} {g : Nat → Int} {b : Nat} : Zof (.row u Z 1 n fun j => vi (g j)) b ↔ Z b := by
  constructor
  · rintro ⟨Z', h, hb⟩
    cases h with
    | row => exact hb
    | inRow _ _ _ _ _ i _ h => cases h
  · intro h; exact ⟨Z, .row _ _ _ _, h⟩

open Go.RowKit Go.Proofs
set_option linter.unusedSimpArgs false
set_option linter.unusedVariables false
theorem oldV_seq (N sz n : Nat) (f : Nat → V) : oldV N (.seq sz n f) = .old (fun b => b < N) (.seq sz n f) := rfl

/-- A good or a nil automaton in new memory, and whether it is good. -/
def autL2 (a e : List Int) (s : List (List (List Int))) (ok : Bool) : Res → Prop := fun r => ∃ F, isAut a e s F ∧ r = .many [.pv (.agg 3 F), .pv (vb ok)]

theorem Zof.growF {u : Value} {Z : Nat → Prop} {e : TypeId} {n : Nat} {F : Nat → V} {b : Nat} : Zof (.grow u Z e 1 n F) b ↔ Z b ∨ ∃ i, i < n ∧ Zof (F i) b := by
  constructor
  · rintro ⟨Z', h, hb⟩
    cases h with
    | grow => exact .inl hb
    | inGrow _ _ _ _ _ _ i hi h => exact .inr ⟨i, by omega, Z', h, hb⟩
  · rintro (h | ⟨i, hi, Z', h, hb⟩)
    · exact ⟨Z, .grow _ _ _ _ _, h⟩
    · exact ⟨Z', .inGrow _ _ _ _ _ _ i (by omega) h, hb⟩
theorem goodM_turn {n : Nat} {m : List (List Int)} (hn : 1 ≤ n ∧ n ≤ 6) (h : goodM n m) : (0 < m.length ∧ m.length ≤ 1099511627776) ∧ (rowAt m 0).length ≤ 1099511627776 ∧ ∀ i, i < m.length → (rowAt m i).length = (rowAt m 0).length := by
  obtain ⟨h1, h2⟩ := h
  have h0 := (h2 0 (by omega)).1
  exact ⟨by omega, by omega, fun i hi => by rw [(h2 i (by omega)).1, h0]⟩
theorem autB_len {a e : List Int} {s : List (List (List Int))} (h : autB a e s = true) : a.length ≤ 1099511627776 ∧ e.length ≤ 1099511627776 ∧ s.length ≤ 1099511627776 ∧ ∀ i, i < s.length → lenM (matAt s i) := by
  obtain ⟨h1, _, _, h4, h5, h6⟩ := autB_get h
  exact ⟨by omega, by omega, by omega, fun i hi => ⟨by have := (h6 i hi).1; omega, fun j hj => by
    have h7 := (h6 i hi).1
    have := ((h6 i hi).2 j (by omega)).1; omega⟩⟩

theorem keepRow {l : List Int} {v x : V} {u : Value} {Z : Nat → Prop} {e : TypeId} {n : Nat} {F : Nat → V} (h : isRow l v) (ha : Apart v (.grow u Z e 1 n F)) : Keeps Z v := Keeps.of_apart v h.new fun b hb hz => ha b hb (Zof.growF.2 (.inl hz))
theorem out_sw {Z : Nat → Prop} {u : Value} {v0 v1 g : V} (k0 : Keeps Z v0) (k1 : Keeps Z v1) : ∀ i, i < 3 → ZStep Z [(g, .val u)] (if i = 0 then v0 else if i = 1 then v1 else g) (if i = 0 then v0 else if i = 1 then v1 else .val u) := fun i hi => by
  rcases (show i = 0 ∨ i = 1 ∨ i = 2 by omega) with rfl | rfl | rfl
  · exact .inl ⟨k0, rfl⟩
  · exact .inl ⟨k1, rfl⟩
  · exact .inr (by simp)
theorem one_sw {Z : Nat → Prop} {ps : List (V × V)} {v z : V} (h : Keeps Z v) : ∀ i, i < 1 → ZStep Z ps (if i = 0 then v else z) v := fun i hi => by
  obtain rfl : i = 0 := by omega
  exact .inl ⟨h, rfl⟩
/-- What the grown list lies apart from. -/
theorem apart_step {k : Nat} {Z Z4 : Nat → Prop} {u u4 : Value} {e : TypeId} {F : Nat → V} {v vn : V} (h : Apart v (.grow u Z e 1 k F)) (hn : Apart v vn) (hz : Disj (Zof v) Z4) : Apart v (.grow u4 Z4 e 1 (k + 1) fun i => if i = k then vn else F i) := fun b hb hb' => by
  rcases Zof.growF.1 hb' with hb' | ⟨i, hi, hb'⟩
  · exact hz b hb hb'
  · by_cases e : i = k
    · rw [if_pos e] at hb'; exact hn b hb hb'
    · rw [if_neg e] at hb'; exact h b hb (Zof.growF.2 (.inr ⟨i, by omega, hb'⟩))
theorem grow_if' {k : Nat} {F : Nat → V} {v : V} {u4 : Value} {Z4 : Nat → Prop} {e : TypeId} : VE (.grow u4 Z4 e 1 (k + 1) fun i => if i < k then F i else v) (.grow u4 Z4 e 1 (k + 1) fun i => if i = k then v else F i) := by
  refine ⟨rfl, rfl, rfl, rfl, rfl, fun i hi => VE.of_eq ?_⟩
  show (if i < k then F i else v) = if i = k then v else F i
  by_cases e : i = k
  · subst e; rw [if_neg (by omega), if_pos rfl]
  · rw [if_pos (by omega), if_neg e]
/-- The variable behind the store. -/
theorem out_ve {k : Nat} {v0 v1 vn z : V} {F : Nat → V} {u4 : Value} {Z4 : Nat → Prop} {e : TypeId} : ∀ i, i < 3 → VE (if i = 2 then .grow u4 Z4 e 1 (k + 1) fun i => if i < k then F i else vn else if i = 0 then v0 else if i = 1 then v1 else z)
    (if i = 0 then v0 else if i = 1 then v1 else .grow u4 Z4 e 1 (k + 1) fun i => if i = k then vn else F i) := fun i hi => by
  rcases (show i = 0 ∨ i = 1 ∨ i = 2 by omega) with rfl | rfl | rfl
  · exact VE.rfl' _
  · exact VE.rfl' _
  · exact grow_if'

theorem matAt_map {f : List (List Int) → List (List Int)} {s : List (List (List Int))} {i : Nat} (hi : i < s.length) : matAt (s.map f) i = f (matAt s i) := by simp [List.getD, hi]
theorem isMats.of {s : List (List (List Int))} {n : Nat} {p : Nat → V → Prop} {v : V} (h : isL n p v) (hl : s.length = n) (hp : ∀ i v, i < n → p i v → isMat (matAt s i) v) : isMats s v := by
  subst hl
  obtain ⟨u, Z, F, rfl, h⟩ := h
  exact ⟨u, Z, F, rfl, fun i hi => ⟨hp i _ hi (h i hi).1, (h i hi).2⟩⟩
/-- An automaton in a variable comes back. -/
theorem cell2_go {N t tb id : Nat} {R : Res → Prop} {s : ASt} {blk : Blk} {a e : List Int} {S : List (List (List Int))} (v0 v1 v2 : V) (ok : Bool) (h0 : isRow a v0) (h1 : isRow e v1) (h2 : isMats S v2) (h01 : Apart v0 v1) (h02 : Apart v0 v2) (h12 : Apart v1 v2)
    (g0 : ∀ b, Zof v0 b → N ≤ b) (g1 : ∀ b, Zof v1 b → N ≤ b) (g2 : ∀ b, Zof v2 b → N ≤ b) (hR : R (.many [.pv (.agg 3 fun i => if i = 0 then v0 else if i = 1 then v1 else v2), .pv (vb ok)]))
    (ht : lookup s.σ t = some (.one (.ptr id 0))) (hb : s.h[id]? = some (some blk)) (hn : blk.n = 3) (hf : ∀ i, i < 3 → VE (blk.f i) (if i = 0 then v0 else if i = 1 then v1 else v2)) (htb : lookup s.σ tb = some (sc (.bool ok))) : cell2Ok t 3 tb N R s := by
  refine ⟨_, ok, hR, fun i hi => ?_, ?_, htb⟩
  · rcases (show i = 0 ∨ i = 1 ∨ i = 2 by omega) with rfl | rfl | rfl
    · exact NewV.of_zof h0.new g0
    · exact NewV.of_zof h1.new g1
    · exact NewV.of_zof h2.new g2
  · unfold retCell.cellOk
    rw [ht]
    simp only [hb]
    exact ⟨by omega, fun i hi => by rw [Nat.zero_add]; exact hf i hi⟩

/-- An automaton in a variable comes back. -/
theorem cell1_go {N t id : Nat} {R : Res → Prop} {s : ASt} {blk : Blk} {a e : List Int} {S : List (List (List Int))} (v0 v1 v2 : V) (h0 : isRow a v0) (h1 : isRow e v1) (h2 : isMats S v2) (h01 : Apart v0 v1) (h02 : Apart v0 v2) (h12 : Apart v1 v2)
    (g0 : ∀ b, Zof v0 b → N ≤ b) (g1 : ∀ b, Zof v1 b → N ≤ b) (g2 : ∀ b, Zof v2 b → N ≤ b) (hR : R (.one (.pv (.agg 3 fun i => if i = 0 then v0 else if i = 1 then v1 else v2))))
    (ht : lookup s.σ t = some (.one (.ptr id 0))) (hb : s.h[id]? = some (some blk)) (hn : blk.n = 3) (hf : ∀ i, i < 3 → VE (blk.f i) (if i = 0 then v0 else if i = 1 then v1 else v2)) :
    ∃ g, R (.one (.pv (.agg 3 g))) ∧ NewV (fun Z => ∀ b, Z b → N ≤ b) (.agg 3 g) ∧ retCell.cellOk t 3 g s := by
  refine ⟨_, hR, fun i hi => ?_, ?_⟩
  · rcases (show i = 0 ∨ i = 1 ∨ i = 2 by omega) with rfl | rfl | rfl
    · exact NewV.of_zof h0.new g0
    · exact NewV.of_zof h1.new g1
    · exact NewV.of_zof h2.new g2
  · unfold retCell.cellOk
    rw [ht]
    simp only [hb]
    exact ⟨by omega, fun i hi => by rw [Nat.zero_add]; exact hf i hi⟩

/-- The nil automaton. -/
abbrev nilR : V := .row (.slice none 0 0) (fun _ => False) 1 ([] : List Int).length fun j => vi (([] : List Int).getD j 0)
abbrev nilM : V := .row (.slice none 0 0) (fun _ => False) 1 ([] : List (List (List Int))).length fun _ => .val undef
theorem nilR_row : isRow [] nilR := ⟨_, _, rfl⟩
theorem nilM_mats : isMats [] nilM := ⟨_, _, _, rfl, fun i hi => by simp at hi⟩
theorem nil_zof {n : Nat} {f : Nat → V} (hn : n = 0) {b : Nat} : ¬ Zof (.row (.slice none 0 0) (fun _ => False) 1 n f) b := by
  rintro hb
  rcases Zof.row hb with hb | ⟨i, hi, _⟩
  · exact hb
  · omega
theorem nil_isAut : isAut [] [] [] (fun i => if i = 0 then nilR else if i = 1 then nilR else nilM) := isAut.mk nilR_row nilR_row nilM_mats (fun b h => (nil_zof rfl h).elim) (fun b h => (nil_zof rfl h).elim) (fun b h => (nil_zof rfl h).elim)
theorem nil_ve : ∀ i, i < 3 → VE (.val (.slice none 0 0)) (if i = 0 then nilR else if i = 1 then nilR else nilM) := fun i hi => by
  rcases (show i = 0 ∨ i = 1 ∨ i = 2 by omega) with rfl | rfl | rfl <;> exact ⟨rfl, rfl, rfl, rfl⟩
/-- The rows that are being made, apart from what is there. -/
def pU (N n cnt : Nat) (m : List (List Int)) (O : Nat → V) (F : Nat → V) : Prop := partL N n cnt (fun q => isRow (rowAt m q)) F ∧ ∀ q, q < cnt → ∀ i, i < 3 → Apart (O i) (F q)
theorem pU.nil (N n : Nat) (m : List (List Int)) (O F : Nat → V) : pU N n 0 m O F := ⟨⟨by omega, fun i hi => by omega⟩, fun q hq => by omega⟩
theorem pU.grow {N n cnt : Nat} {m : List (List Int)} {O F : Nat → V} {v : V} (h : pU N n cnt m O F) (hc : cnt < n) (hv : isRow (rowAt m cnt) v) (hN : ∀ b, Zof v b → N ≤ b) (hd : ∀ i, i < cnt → Apart (F i) v) (ho : ∀ i, i < 3 → Apart (O i) v) : pU N n (cnt + 1) m O (fun i => if i = cnt then v else F i) := by
  refine ⟨h.1.grow hc hv hN hd, fun q hq i hi => ?_⟩
  show Apart (O i) (if q = cnt then v else F q)
  by_cases e : q = cnt
  · rw [if_pos e]; exact ho i hi
  · rw [if_neg e]; exact h.2 q (by omega) i hi
/-- A row of new memory behind an own slice of rows. -/
theorem isMat_letu {N n cnt : Nat} {m : List (List Int)} {F : Nat → V} {u : Value} {Z : Nat → Prop} (hc : m.length = cnt) (h : partL N n cnt (fun q => isRow (rowAt m q)) F) (hd : ∀ q, q < cnt → Disj (Zof (F q)) Z) : isMat m (.row u Z 1 cnt F) := by
  subst hc
  exact ⟨u, Z, F, rfl, fun q hq => ⟨(h.2 q hq).1, (hd q hq).symm, (h.2 q hq).2.2⟩⟩

end Go.Proofs.YtpimjkhfookipaaDoor
