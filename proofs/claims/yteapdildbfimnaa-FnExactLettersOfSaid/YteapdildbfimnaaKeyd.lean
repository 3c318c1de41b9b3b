/- Keys with their values, and how the model finds a key of a map. No conditions. -/
import Derived.Test.YteapdildbfimnaaGlo
import Derived.WalkKit
import Derived.MapKept
namespace Go.Proofs.Yteapdildbfimnaa
set_option linter.unusedSimpArgs false
set_option linter.unusedVariables false
open Go.RowKit

/-! ### Keys with values -/
section
variable {κ β : Type} [DecidableEq κ]
def getA : List (κ × β) → κ → Option β
  | [], _ => none
  | p :: r, k => if p.1 = k then some p.2 else getA r k
def putA : List (κ × β) → κ → β → List (κ × β)
  | [], k, v => [(k, v)]
  | p :: r, k, v => if p.1 = k then (k, v) :: r else p :: putA r k v
def findP (k : κ) : List κ → List MapEntry → Nat → Option (Nat × Value)
  | k' :: ks, e :: es, i => if k' = k then some (i, e.val) else findP k ks es (i + 1)
  | _, _, _ => none
end
def kvOf (e : MapEntry) : Value × Value := (e.key, e.val)
def encA {κ : Type} (enc : κ → Value) (l : List (κ × Value)) : List (Value × Value) := l.map fun p => (enc p.1, p.2)

/-- How the model finds keys of a type. -/
structure KeyT (P : Program) (kt : TypeId) {κ : Type} [DecidableEq κ] (enc : κ → Value) : Prop where
  find : ∀ (k : κ) (es : List MapEntry) (ks : List κ) (w : World), es.map (·.key) = ks.map enc → (Instr.findKey kt (enc k) es).run P w = .ok (findP k ks es 0) w
  chk : ∀ (b : Bool) (k : κ) (w : World), (Instr.checkKey b 10000 kt (enc k)).run P w = .ok () w
  bits : ∀ k : κ, Instr.sameBits 10000 (enc k) (enc k) = true

theorem findP_is {κ : Type} [DecidableEq κ] {enc : κ → Value} (k : κ) : ∀ (l : List (κ × Value)) (es : List MapEntry) (i : Nat), es.map kvOf = encA enc l →
    (findP k (l.map (·.1)) es i = none ∧ getA l k = none ∧ ∀ (v : Value) (c : Nat), (es ++ [({ key := enc k, val := v, born := c } : MapEntry)]).map kvOf = encA enc (putA l k v)) ∨
    ∃ j e, findP k (l.map (·.1)) es i = some (i + j, e.val) ∧ es[j]? = some e ∧ e.key = enc k ∧ getA l k = some e.val ∧ ∀ v : Value, (es.modify j fun e => { e with key := enc k, val := v }).map kvOf = encA enc (putA l k v)
  | [], es, i, h => by
    have h : es = [] := by simpa [encA] using h
    subst h
    exact .inl ⟨rfl, rfl, fun v c => rfl⟩
  | (k', v') :: l, [], i, h => by simp [encA] at h
  | (k', v') :: l, e :: es, i, h => by
    have h1 : kvOf e = (enc k', v') := by simp only [encA, List.map_cons, List.cons.injEq] at h; exact h.1
    have h2 : es.map kvOf = encA enc l := by simp only [encA, List.map_cons, List.cons.injEq] at h; exact h.2
    have h3 : e.key = enc k' := congrArg Prod.fst h1
    have h4 : e.val = v' := congrArg Prod.snd h1
    by_cases ek : k' = k
    · refine .inr ⟨0, e, ?_, rfl, by rw [h3, ek], ?_, fun v => ?_⟩
      · show (if k' = k then _ else _) = _; rw [if_pos ek]; rfl
      · show (if k' = k then _ else _) = _; rw [if_pos ek, h4]
      · show kvOf _ :: es.map kvOf = encA enc (if k' = k then _ else _)
        rw [if_pos ek, h2]; rfl
    · rcases findP_is (enc := enc) k l es (i + 1) h2 with ⟨g1, g2, g3⟩ | ⟨j, e', g1, g2, g3, g4, g5⟩
      · refine .inl ⟨?_, ?_, fun v c => ?_⟩
        · show (if k' = k then _ else _) = _; rw [if_neg ek]; exact g1
        · show (if k' = k then _ else _) = _; rw [if_neg ek]; exact g2
        · show kvOf e :: (es ++ [({ key := enc k, val := v, born := c } : MapEntry)]).map kvOf = encA enc (if k' = k then _ else _)
          rw [if_neg ek, g3, h1]; rfl
      · refine .inr ⟨j + 1, e', ?_, by simpa using g2, g3, ?_, fun v => ?_⟩
        · show (if k' = k then _ else _) = _; rw [if_neg ek, g1, show i + 1 + j = i + (j + 1) by omega]
        · show (if k' = k then _ else _) = _; rw [if_neg ek]; exact g4
        · show ((e :: es).modify (j + 1) _).map kvOf = encA enc (if k' = k then _ else _)
          rw [if_neg ek, List.modify_succ_cons, List.map_cons, g5, h1]; rfl

end Go.Proofs.Yteapdildbfimnaa
