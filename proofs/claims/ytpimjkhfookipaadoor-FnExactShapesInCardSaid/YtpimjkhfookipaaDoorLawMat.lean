/- Lists of rows that a law lets go, compares and marks. No conditions. -/
import Derived.Test.YtpimjkhfookipaaDoorLawZ
import Derived.Test.YtpimjkhfookipaaDoorMarkTZ
namespace Go.Proofs.YtpimjkhfookipaaDoor
open Go.RowKit Go.Proofs
set_option linter.unusedSimpArgs false
set_option linter.unusedVariables false

/-- What waits for the next stage of a walk. -/
def Hold (p : Prop) : Prop := p
theorem AWP.hold [Cx] {P : Program} {N : Nat} {id : Nat} {ops : Array Oper} {b : Bool} {y : Code} {Q : Exit → ASt → Prop} {s : ASt} (h : Hold (AWP N P (.seq (.region id ops b) y) Q s)) : AWP N P (.seq (.region id ops b) y) Q s := h

theorem AWP.letRow_seq [Cx] {P : Program} {N : Nat} {id : Nat} {ops : Array Oper} {b : Bool} {y : Code} {Q : Exit → ASt → Prop} {s : ASt} (t : Nat) {i sz len : Nat} {blk : Blk} (h1 : lookup s.σ t = some (.one (.own i sz 0 len))) (h2 : s.h[i]? = some (some blk)) (h3 : len * sz ≤ blk.n)
    (h : ∀ (u0 : Value) (Z : Nat → Prop), (∀ b, Z b → N ≤ b) → (∀ Z', ZSt Z' s → Disj Z' Z) → AWP N P (.seq (.region id ops b) y) Q ⟨upd s.σ t (.one (.pv (.row u0 Z sz len blk.f))), s.h.set i none, s.nt⟩) : AWP N P (.seq (.region id ops b) y) Q s :=
  AWP.letRow t ⟨i, sz, len, blk, h1, h2, h3, h⟩

/-- A list of rows whose head has been let go. -/
theorem isMat.of_let {s : ASt} {i : Nat} {e : TypeId} {m : List (List Int)} {F : Nat → V} {u0 : Value} {Z : Nat → Prop} (hb : s.h[i]? = some (some ⟨e, m.length, F⟩)) (hZ : ∀ Z', ZSt Z' s → Disj Z' Z)
    (h : ∀ i, i < m.length → isRow (rowAt m i) (F i) ∧ ∀ j, j < m.length → j ≠ i → Apart (F i) (F j)) : isMat m (.row u0 Z 1 m.length F) :=
  ⟨u0, Z, F, rfl, fun j hj => ⟨(h j hj).1, fun b hb1 ⟨Z', hZ', hb'⟩ => hZ Z' (zst_blk (i := j) hb hj rfl hZ') b hb' hb1, (h j hj).2⟩⟩
theorem row_ge {N n : Nat} {u0 : Value} {Z : Nat → Prop} {F : Nat → V} {q : (Nat → Prop) → Prop} (hZ : ∀ b, Z b → N ≤ b) (hF : ∀ i, i < n → NewV (fun Z => (∀ b, Z b → N ≤ b) ∧ q Z) (F i)) : ∀ b, Zof (.row u0 Z 1 n F) b → N ≤ b := fun b hb => by
  rcases Zof.row hb with hb | ⟨i, hi, hb⟩
  · exact hZ b hb
  · exact NewV.ge (hF i hi) b hb
theorem row_apart {N n : Nat} {s s' : ASt} {u0 : Value} {Z : Nat → Prop} {F : Nat → V} {v : V} (hZ : ∀ Z', ZSt Z' s' → Disj Z' Z) (hF : ∀ i, i < n → NewV (fun Z => (∀ b, Z b → N ≤ b) ∧ ∀ Z', ZSt Z' s → Disj Z' Z) (F i)) (h1 : ∀ Z', ZIn Z' v → ZSt Z' s) (h2 : ∀ Z', ZIn Z' v → ZSt Z' s') : Apart v (.row u0 Z 1 n F) := fun b hv hr => by
  rcases Zof.row hr with hb | ⟨i, hi, hb⟩
  · obtain ⟨Z', hZ', hb'⟩ := hv
    exact hZ Z' (h2 Z' hZ') b hb' hb
  · exact NewV.apart (hF i hi) h1 b hv hb

theorem keeps_old {N : Nat} {v : V} {T : Nat → Prop} (hT : ∀ b, T b → N ≤ b) : Keeps T (.old (fun b => b < N) v) := fun b hb hb' => by
  have := hT b hb'
  have hb : b < N := hb
  omega

end Go.Proofs.YtpimjkhfookipaaDoor
