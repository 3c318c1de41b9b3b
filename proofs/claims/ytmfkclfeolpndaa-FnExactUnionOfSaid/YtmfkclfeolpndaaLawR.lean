/- What laws ask that compare automata in new memory. No conditions. -/
import Derived.Test.YtmfkclfeolpndaaRevH
import Derived.Test.YtmfkclfeolpndaaHeldA
namespace Go.Proofs.Ytmfkclfeolpndaa
open Go.RowKit Go.Proofs Go.ChangeShapes Go.WideShapes Go.ChangeAt
set_option linter.unusedSimpArgs false
set_option linter.unusedVariables false

theorem sumM_bound {m : List (List Int)} {B : Nat} : ∀ {k : Nat}, (∀ i, i < k → (rowAt m i).length ≤ B) → sumM m k ≤ k * B
  | 0, _ => by simp [sumM]
  | k + 1, h => by
    have h1 := sumM_bound (k := k) fun i hi => h i (by omega)
    have h2 := h k (by omega)
    have h3 : sumM m (k + 1) = sumM m k + (rowAt m k).length := rfl
    rw [h3, Nat.succ_mul]; omega
theorem sumT_bound {s : List (List (List Int))} {B : Nat} : ∀ {k : Nat}, (∀ i, i < k → tM (matAt s i) ≤ B) → sumT s k ≤ k * B
  | 0, _ => by simp [sumT]
  | k + 1, h => by
    have h1 := sumT_bound (k := k) fun i hi => h i (by omega)
    have h2 := h k (by omega)
    have h3 : sumT s (k + 1) = sumT s k + tM (matAt s k) := rfl
    rw [h3, Nat.succ_mul]; omega
/-- A small automaton. -/
def smallA (B : Nat) (a e : List Int) (s : List (List (List Int))) : Prop := a.length ≤ B ∧ e.length ≤ B ∧ s.length ≤ B ∧ ∀ i, i < s.length → (matAt s i).length ≤ B ∧ ∀ j, j < (matAt s i).length → (rowAt (matAt s i) j).length ≤ B
theorem smallA.tot {B : Nat} {a e : List Int} {s : List (List (List Int))} (h : smallA B a e s) (hB : B ≤ 100) : totA a e s ≤ 1048576 := by
  obtain ⟨h1, h2, h3, h4⟩ := h
  have hm : ∀ i, i < s.length → tM (matAt s i) ≤ 10100 := fun i hi => by
    have q1 := (h4 i hi).1
    have q2 := sumM_bound (k := (matAt s i).length) (h4 i hi).2
    have q3 : (matAt s i).length * B ≤ 100 * 100 := Nat.mul_le_mul (by omega) hB
    have q4 : tM (matAt s i) = (matAt s i).length + sumM (matAt s i) (matAt s i).length := rfl
    omega
  have q1 := sumT_bound (k := s.length) hm
  have q2 : s.length * 10100 ≤ 100 * 10100 := Nat.mul_le_mul_right _ (by omega)
  have q3 : totA a e s = a.length + e.length + s.length + sumT s s.length := rfl
  omega
theorem smallA.lens {B : Nat} {a e : List Int} {s : List (List (List Int))} (h : smallA B a e s) (hB : B ≤ 100) : a.length ≤ 1099511627776 ∧ e.length ≤ 1099511627776 ∧ s.length ≤ 1099511627776 ∧ ∀ i, i < s.length → lenM (matAt s i) := by
  obtain ⟨h1, h2, h3, h4⟩ := h
  exact ⟨by omega, by omega, by omega, fun i hi => ⟨by have := (h4 i hi).1; omega, fun j hj => by have := (h4 i hi).2 j hj; omega⟩⟩
theorem zst_agg {s : ASt} {id : Nat} {blk : Blk} {F : Nat → V} {Z : Nat → Prop} (h1 : s.h[id]? = some (some blk)) (hn : 3 ≤ blk.n) (hf : ∀ i, i < 3 → blk.f i = F i) (h : ZIn Z (.agg 3 F)) : ZSt Z s := by
  cases h with
  | inAgg _ _ i hi h => exact zst_blk h1 (by omega) (hf i hi) h
theorem keepA {a e : List Int} {s : List (List (List Int))} {F G : Nat → V} (hF : isAut a e s F) (h : Apart (.agg 3 F) (.agg 3 G)) (i : Nat) (hi : i < 3) : Keeps (Zof (.agg 3 G)) (F i) :=
  Keeps.of_apart (F i) (hF.new i hi) fun b hb hb' => h b (Zof.atA hi hb) hb'
theorem at_sw {T : Nat → Prop} {ps : List (V × V)} {F z z' : Nat → V} (h : ∀ i, i < 3 → Keeps T (F i)) : ∀ i, i < 3 → ZStep T ps (if i < 3 then F i else z i) (if i < 3 then F i else z' i) := fun i hi => by
  rw [if_pos hi, if_pos hi]; exact .inl ⟨h i hi, rfl⟩
theorem mk_sw {T : Nat → Prop} {a e : List Int} {s : List (List (List Int))} {F z z' : Nat → V} : ∀ i, i < 3 → ZStep T [(F 0, mkA a e s F 0), (F 1, mkA a e s F 1), (F 2, mkA a e s F 2)] (if i < 3 then F i else z i) (if i < 3 then mkA a e s F i else z' i) := fun i hi => by
  rw [if_pos hi, if_pos hi]
  rcases (show i = 0 ∨ i = 1 ∨ i = 2 by omega) with rfl | rfl | rfl <;> exact .inr (by simp)


theorem markAutAny_mz {a e : List Int} {s : List (List (List Int))} {F : Nat → V} (h : isAut a e s F) (k : Int) (hk : 0 ≤ k) (hl : s.length ≤ 1099511627776) (hl2 : ∀ i, i < s.length → (matAt s i).length ≤ 1099511627776) (hkn : k + (a.length : Int) + (e.length : Int) + (sumV s s.length : Int) ≤ 4611686018427387904) :
    FnMz Try.prog 17 (.agg 3 F) k (k + (a.length : Int) + (e.length : Int) + (sumV s s.length : Int)) (Zof (.agg 3 F)) [] := by
  obtain ⟨h0, h1, h2, h3⟩ := h
  let G : Nat → Int → V := fun i k => match i with | 0 => mk1 k (F 0) | 1 => mk1 k (F 1) | _ => mkMs s k (F 2)
  let c : Nat → Nat := fun i => match i with | 0 => a.length | 1 => e.length | _ => sumV s s.length
  have hnew := isAut.new ⟨h0, h1, h2, h3⟩
  have hgz : ∀ i, i < 3 → ∀ k b, Zof (G i k) b → Zof (F i) b := fun i hi k => by
    rcases (show i = 0 ∨ i = 1 ∨ i = 2 by omega) with rfl | rfl | rfl
    · exact mk1_zof h0
    · exact mk1_zof h1
    · exact mkMs_zof h2
  have hgn : ∀ i, i < 3 → ∀ k, NewV (fun _ => True) (G i k) := fun i hi k => by
    rcases (show i = 0 ∨ i = 1 ∨ i = 2 by omega) with rfl | rfl | rfl
    · exact mk1_new h0
    · exact mk1_new h1
    · exact mkMs_new h2
  have hm := markAut_mz ⟨F, G, c, fun i => Zof (F i)⟩ k hk (fun i hi j hj hne => ⟨Keeps.of_apart _ (hnew j hj) (h3 j hj i hi fun e => hne e.symm), fun k => Keeps.of_apart _ (hgn j hj k) fun b hb => h3 j hj i hi (fun e => hne e.symm) b (hgz j hj k b hb)⟩)
    (fun k hk hc => markRow_mz h0 k hk hc) (fun k hk hc => markRow_mz h1 k hk hc) (fun k hk hc => markMats_mz h2 k hk hl hl2 hc) hkn
  have hm := hm.widen
  exact ⟨hm.entry, hm.inz, fun w S u hr => (hm.runs w S u hr).mono fun e w' ⟨q1, q2, q3⟩ => ⟨q1, q2, fun p hp => by cases hp⟩⟩
theorem markAny_mz {a e : List Int} {s : List (List (List Int))} {F : Nat → V} {z : Nat → V} (h : isAut a e s F) (ht : totA a e s ≤ 1099511627776) (k : Int) (hk : 0 ≤ k ∧ k ≤ 1099511627776) :
    FnMz Try.prog 17 (atA F z) k (k + (a.length : Int) + (e.length : Int) + (sumV s s.length : Int)) (Zof (.agg 3 F)) [] := by
  have h1 := sumV_le s s.length
  have e1 : totA a e s = a.length + e.length + s.length + sumT s s.length := rfl
  have hm := markAutAny_mz h k hk.1 (by omega) (fun i hi => by have := sumT_le s hi; have e2 : tM (matAt s i) = (matAt s i).length + sumM (matAt s i) (matAt s i).length := rfl; omega) (by omega)
  refine ⟨hm.entry, fun b hb => ?_, fun w S u hr => hm.runs w S u (VE.rd (atA F z) (.agg 3 F) u ⟨rfl, fun i hi => VE.of_eq (if_pos hi)⟩ hr)⟩
  obtain ⟨i, hi, Z, hZ, hb⟩ := Zof.agg hb
  exact ⟨Z, .inAgg _ _ i hi (by show ZIn Z (if i < 3 then F i else z i); rw [if_pos hi]; exact hZ), hb⟩
end Go.Proofs.Ytmfkclfeolpndaa
