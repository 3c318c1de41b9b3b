/- A store into a row that lies in a cell: the row's value is known to the letter, so is the place of each of its cells. No conditions. -/
import Derived.Test.YteapdildbfimnaaEngS
import Derived.Test.YteapdildbfimnaaEngZ
namespace Go.Proofs.Yteapdildbfimnaa
set_option linter.unusedSimpArgs false
set_option linter.unusedVariables false
open Go.RowKit Go.Proofs

/-- The place of cell k of a slice. -/
def ptrOf : Value → Nat → Value
  | .slice (some ⟨b, off, none⟩) _ _, k => .pointer (some ⟨b, off + k, none⟩)
  | v, _ => v

section
variable {P : Program} {N : Nat}

theorem axb_ptr {K : ASt → Prop} {t : TypeId} {x i : Operand} {d ty : Nat} {pos : String} {after : Array Edge} {s : ASt} {u0 : Value} {Z : Nat → Prop} {n : Nat} {f : Nat → V} {κ : IntKind} {k : Int}
    (hx : opd s x = some (.one (.pv (.row u0 Z 1 n f)))) (hi : opd s i = some (sc (.int κ k))) (hsz : elemSz P t = some 1) (h0 : 0 ≤ k) (h1 : k < n) (hd : d < s.nt) (h : K (putS s d (sc (ptrOf u0 k.toNat)))) :
    AxB N P K ⟨some d, .indexAddr t x i, ty, pos, after, none⟩ s := by
  refine ⟨rfl, fun w0 S0 φ a w hN sim next Q hn => ?_⟩
  obtain ⟨e, ii, hu, hii, hs1⟩ := elemSz_some hsz
  obtain ⟨e0, hz, A, c, ex, hc, hr⟩ := sim.opd hx
  have ei := val_of sim hi
  obtain ⟨b, off, rfl, hZ, hr⟩ := hr (by omega)
  have hrun : (execOp a.eval ⟨some d, .indexAddr t x i, ty, pos, after, none⟩).run P w = .ok (.value (ptrOf u0 k.toNat)) w := by
    rw [← e0, ex]
    simp only [execOp, ex, ei, Sem.run_bind, run_indexAt hu hii _ _ _ _ _ h0 h1, Result.andThen_ok, add_none, ptrOf, hs1, Nat.mul_one]
    rfl
  unfold Oper.wp
  rw [hrun, Oper.upon_value]
  exact hn _ _ _ h ⟨φ, sim.put hd rfl⟩ (Below.refl _ _)

theorem ax_setRow [Cx] {K : ASt → Prop} {t : TypeId} {p y : Operand} {ty : Nat} {pos : String} {after : Array Edge} {s : ASt} {u0 v : Value} {Z : Nat → Prop} {n j : Nat} {f : Nat → V} (tr : Nat) (s1 : ASt)
    (hr : lookup s.σ tr = some (.one (.pv (.row u0 Z 1 n f)))) (hp : opd s p = some (sc (ptrOf u0 j))) (hy : opd s y = some (sc v)) (hv : v.oneCell' = true) (hj : j < n) (hf : ∀ i, i < n → ∃ x, f i = .val x) (hc : cellsIn P t = some none) (hZ : ∀ b, Z b → N ≤ b)
    (hnt : s1.nt = s.nt) (hσ : SwS Z [(.row u0 Z 1 n f, .row u0 Z 1 n fun i => if i = j then .val v else f i)] s.σ s1.σ) (hh : SwH Z [(.row u0 Z 1 n f, .row u0 Z 1 n fun i => if i = j then .val v else f i)] s.h s1.h) (h : K s1) :
    Ax N P K ⟨none, .store t p y, ty, pos, after, none⟩ s := by
  refine ⟨rfl, fun w0 S0 φ a w hN sim next Q hn => ?_⟩
  obtain ⟨u, hu, hrd⟩ := sim.slots tr _ hr
  obtain ⟨e0, hz, A, c, hA, hcap, hcells⟩ := hrd
  subst e0
  obtain ⟨b, off, rfl, hZb, hcells⟩ := hcells (by omega)
  obtain ⟨cur, e, hcur⟩ := (hz b hZb).2
  have ep : a.eval p = .pointer (some ⟨b, off + j, none⟩) := by rw [val_of sim hp, hA]; rfl
  have ey : a.eval y = v := val_of sim hy
  have cell : ∀ i x, w.cell? ⟨b, off + i, none⟩ = some x → cur[off + i]? = some x := fun i x hx => by
    obtain ⟨te, fr, ho⟩ := hcur.obj
    simpa [World.cell?, ho] using hx
  obtain ⟨x, hx, _⟩ := hcells j (by omega)
  have hlt : off + j < cur.size := by
    rcases Nat.lt_or_ge (off + j) cur.size with h | h
    · exact h
    · have := cell j x hx; rw [Array.getElem?_eq_none h] at this; cases this
  have hrun := run_storeG (P := P) hc hv hcur (cell j x hx)
  unfold Oper.wp
  have er : (execOp a.eval ⟨none, .store t p y, ty, pos, after, none⟩).run P w = .ok .skip (w.setCell ⟨b, off + j, none⟩ v) := by
    unfold execOp
    simp only [ep, ey, Sem.run_bind, hrun, Result.andThen_ok]; rfl
  rw [er, Oper.upon_skip]
  have hat : Gb (w.setCell ⟨b, off + j, none⟩ v) b e (cur.setIfInBounds (off + j) v) := hcur.set _ v
  have ho : OnlyIn Z w (w.setCell ⟨b, off + j, none⟩ v) := ⟨rfl, rfl, rfl, by rw [setCell_size]; exact Nat.le_refl _, fun i hi hn => Below.heap_setCell _ _ _ _ (fun e => hn (e ▸ hZb)), fun i ⟨ci, ei, hi⟩ => by
    by_cases e2 : i = b
    · subst e2; exact ⟨_, e, hat⟩
    · exact ⟨ci, ei, hi.congr (Below.heap_setCell _ _ _ _ e2)⟩⟩
  refine hn _ _ _ h <| Sim.R ⟨φ, SimAt.sweep hN sim hZ (fun b hb hl => (hz b hb).1.2 hl) ho (fun q hq => ?_) hnt hσ hh⟩
  obtain rfl := List.mem_singleton.1 hq
  rintro S' u' ⟨rfl, hz', A', c', hu', hc', hr'⟩
  refine ⟨rfl, fun i hi => ⟨(hz' i hi).1, ho.wr i (hz' i hi).2⟩, A', c', hu', hc', fun hpos => ?_⟩
  obtain ⟨b', off', hA', hZ', hcl⟩ := hr' hpos
  rw [hA] at hu'
  injection hu' with hu1 hu2 hu3
  subst hA'
  injection hu1 with hu1
  injection hu1 with hu1 hu4
  subst hu1 hu4
  refine ⟨b, off, rfl, hZ', fun i hi => ?_⟩
  by_cases e3 : i = j
  · subst e3
    exact ⟨v, hat.cell (by simp [hlt]), by simp only [if_true]; rfl⟩
  · obtain ⟨x, hx, hrx⟩ := hcl i hi
    obtain ⟨y', hy'⟩ := hf i (by omega)
    refine ⟨x, hat.cell (by rw [Array.getElem?_setIfInBounds_ne (by omega)]; exact cell i x hx), ?_⟩
    simp only [if_neg e3, hy'] at hrx ⊢
    exact hrx
end
end Go.Proofs.Yteapdildbfimnaa
