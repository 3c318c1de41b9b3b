/- A block whose cells are read with less said. No conditions. -/
import Derived.Test.YtpimjkhfookipaaEngQ
namespace Go.Proofs.Ytpimjkhfookipaa
open Go.RowKit Go.Proofs
set_option linter.unusedSimpArgs false
set_option linter.unusedVariables false

variable {P : Program} {w0 : World} {S0 : Nat → Prop} {s : ASt} {φ : List (Option (Nat × Nat))} {a : Act} {w : World} {N : Nat}

theorem set_some {h : List (Option Blk)} {id id' : Nat} {blk blk' b : Blk} (hb : h[id]? = some (some blk)) (hi : (h.set id (some b))[id']? = some (some blk')) : ∃ b0, h[id']? = some (some b0) := by
  rw [List.getElem?_set] at hi
  split at hi
  · rename_i e; subst e; exact ⟨blk, hb⟩
  · exact ⟨blk', hi⟩

theorem SimAt.bare (sim : SimAt w0 S0 s φ a w) {id : Nat} {blk : Blk} {g : Nat → V} (hb : s.h[id]? = some (some blk)) (hg : ∀ i, i < blk.n → Bare (blk.f i) (g i)) : SimAt w0 S0 ⟨s.σ, s.h.set id (some ⟨blk.elem, blk.n, g⟩), s.nt⟩ φ a w := by
  have hst : ∀ b, Stab w0 S0 s.h φ b → Stab w0 S0 (s.h.set id (some ⟨blk.elem, blk.n, g⟩)) φ b := fun b hb' => ⟨hb'.1, fun ⟨id', blk', z, hi, hp⟩ => by
    obtain ⟨b0, h0⟩ := set_some hb hi
    exact hb'.2 ⟨id', b0, z, h0, hp⟩⟩
  have hs : ∀ b, Stab w0 S0 s.h φ b → b < w.heap.size → Stab w0 S0 (s.h.set id (some ⟨blk.elem, blk.n, g⟩)) φ b ∧ w.heap[b]? = w.heap[b]? := fun b hb' _ => ⟨hst b hb', rfl⟩
  refine ⟨⟨by rw [sim.heap.len]; simp, sim.heap.below, fun id' blk' hi => ?_, fun i j bi bj b z z' hi hj hi' hj' => ?_⟩, fun t v ht => ?_, sim.defers, sim.size⟩
  · have hi0 := hi
    rw [List.getElem?_set] at hi
    split at hi
    · rename_i e
      subst e
      split at hi
      · injection hi with hi; injection hi with hi; subst hi
        rcases sim.heap.blk id blk hb with ⟨h6, h7⟩ | ⟨b, cur, h6, h7, h8, h9, h10⟩
        · exact .inl ⟨h6, h7⟩
        · refine .inr ⟨b, cur, h6, h7, h8, h9, fun i hi' => ?_⟩
          obtain ⟨x, hx, hr⟩ := h10 i hi'
          exact ⟨x, hx, Rd.mono hs _ _ (Bare.rd _ _ _ (hg i hi') hr)⟩
      · cases hi
    · rcases sim.heap.blk id' blk' hi with ⟨h6, h7⟩ | ⟨b, cur, h6, h7, h8, h9, h10⟩
      · exact .inl ⟨h6, h7⟩
      · refine .inr ⟨b, cur, h6, h7, h8, h9, fun i hi' => ?_⟩
        obtain ⟨x, hx, hr⟩ := h10 i hi'
        exact ⟨x, hx, Rd.mono hs _ _ hr⟩
  · obtain ⟨b1, h1⟩ := set_some hb hi
    obtain ⟨b2, h2⟩ := set_some hb hj
    exact sim.heap.inj i j b1 b2 b z z' h1 h2 hi' hj'
  · obtain ⟨u, hu, hr⟩ := sim.slots t v ht
    exact ⟨u, hu, RdSlot.mono hs (fun _ _ h => h) v u hr⟩

/-- A block's cells read with less said. -/
theorem AWP.bareBlk [Cx] {cd : Code} {Q : Exit → ASt → Prop} (id : Nat) {blk : Blk} {g : Nat → V} (hb : s.h[id]? = some (some blk)) (hg : ∀ i, i < blk.n → Bare (blk.f i) (g i))
    (h : AWP N P cd Q ⟨s.σ, s.h.set id (some ⟨blk.elem, blk.n, g⟩), s.nt⟩) : AWP N P cd Q s :=
  AWP.of_step fun w0 S0 φ a w hN sim => ⟨_, φ, h, sim.bare hb hg⟩
end Go.Proofs.Ytpimjkhfookipaa
