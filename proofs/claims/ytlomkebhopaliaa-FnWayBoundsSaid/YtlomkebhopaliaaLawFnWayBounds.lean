/- The law FnWayBounds returns true whatever it is called with: the claim. No conditions. -/
import Derived.Test.YtlomkebhopaliaaB14
import Derived.SizedLaws
namespace Go.Proofs.Ytlomkebhopaliaa
open Go.RowKit Go.Proofs Go.ChangeShapes Go.WideShapes Go.ChangeAt
set_option linter.unusedSimpArgs false
set_option linter.unusedVariables false
set_option maxRecDepth 20000
namespace fnWayBounds
set_option maxRecDepth 100000 in
theorem lifted (os : Os) (started : os.Started) (H : Type) (enc : TypeId × Value → H) :
    ReturnsInHanded {} Try.checked os 3 .any (Rows.fnWayBoundsSpec.pre6 enc Try.prog Try.f3 Rows.fnWayBoundsRow.domain false) (Rows.fnWayBoundsSpec.post enc Try.prog Try.f3 false true false false) := by
  refine returnsInHanded_of_change_sized (C := Try.checked) own started (by kernel_rfl) Try.func3
    (ChangeSpec.witness6 (enc := enc) (C := Try.checked) false ⟨#[], #[.slice none 0 0, .slice none 0 0], []⟩ 8 (by kernel_rfl) (by kernel_rfl) (by kernel_rfl) (by kernel_rfl)) ?_
  intro W base args ds gs before hval0 hW hcnd hsz0 _
  have hsz : (DataW.weightsEach Try.prog (Try.f3.params.toList ++ Rows.fnWayBoundsSpec.plain.varTypes Try.prog) (ds ++ gs)).all (· ≤ reachBytes) = true := hsz0
  have hval : ∀ (j : Nat) t v, Try.f3.params[j]? = some t → args[j]? = some v → Value.okWide Try.prog W .any base t v := hval0
  have hW' := hW
  obtain ⟨p, q, hA0, hV, rfl, hfz, hnd⟩ := hW
  have hA : DataW.TrodAll enc Try.prog W 0 (fun _ => true) true Try.f3.params.toList args.toList ds p := hA0
  rw [Try.params3] at hA hval hsz
  obtain ⟨v0, vs0, d0, ds0, p0, q0, hargs, rfl, rfl, h0, r0⟩ := trodAll_cons hA
  obtain ⟨v1, vs1, d1, ds1, p1, q1, rfl, rfl, rfl, h1, r1⟩ := trodAll_cons r0
  obtain ⟨rfl, rfl, rfl⟩ := trodAll_nil r1
  obtain rfl : args = #[v0, v1] := by cases args; simp_all
  obtain ⟨rfl, rfl⟩ := trodVars_none hV
  obtain ⟨a0, len0, cap0, rfl⟩ := okWide_slice Try.underlying22 (hval 0 22 v0 rfl rfl)
  have k0 := h0
  have lt0 : ∀ x ∈ p0, x.block < W.heap.size := by obtain ⟨m, hm⟩ := k0; exact DataW.trod_lt m _ _ _ hm
  obtain ⟨fuel0, hf0⟩ := h0
  obtain ⟨l0, g0, e0, n0, s0, x0⟩ := rd_bytesZ Try.underlying22 Try.underlying5 (by kernel_rfl) hf0
  have z0 : l0 ≤ 140737488351232 := by
    rcases x0 with x0 | ⟨el, sp, x0, y0⟩
    · omega
    · have hx := sized_slice hsz (j := 0) (t := 22) (e := 5) (elems := el) (spare := sp) rfl (congrArg some x0) Try.underlying22
      rw [show Try.prog.bytesOf 5 = 1 by kernel_rfl, show reachBytes = 140737488351232 from rfl] at hx
      omega
  obtain ⟨a1, len1, cap1, rfl⟩ := okWide_slice Try.underlying22 (hval 1 22 v1 rfl rfl)
  have k1 := h1
  have lt1 : ∀ x ∈ p1, x.block < W.heap.size := by obtain ⟨m, hm⟩ := k1; exact DataW.trod_lt m _ _ _ hm
  obtain ⟨fuel1, hf1⟩ := h1
  obtain ⟨l1, g1, e1, n1, s1, x1⟩ := rd_bytesZ Try.underlying22 Try.underlying5 (by kernel_rfl) hf1
  have z1 : l1 ≤ 140737488351232 := by
    rcases x1 with x1 | ⟨el, sp, x1, y1⟩
    · omega
    · have hx := sized_slice hsz (j := 1) (t := 22) (e := 5) (elems := el) (spare := sp) rfl (congrArg some x1) Try.underlying22
      rw [show Try.prog.bytesOf 5 = 1 by kernel_rfl, show reachBytes = 140737488351232 from rfl] at hx
      omega
  clear hA0 hval0
  refine ((lawWayBounds_fn l0 l1 g0 g1 z0 z1 s0 s1).holds_true (us := [.slice a0 len0 cap0, .slice a1 len1 cap1]) ⟨e0, e1, trivial⟩).mono fun e W' ⟨he, bel⟩ => ?_
  subst he
  exact ⟨_, rfl, _, _, _, [], _, [], hW', trodAll_mk1 (shut_bool Try.underlying4 _), (trodAll_cons_mk (Below.trod laidOut (by kernel_rfl) (of_decide_eq_true (by kernel_rfl)) k0 bel lt0) (trodAll_cons_mk (Below.trod laidOut (by kernel_rfl) (of_decide_eq_true (by kernel_rfl)) k1 bel lt1) trodAll_mk0)), rfl, bel.frame _, fun h => by cases h⟩
theorem over : Rows.fnWayBoundsRow.holds Try.pinned (OpenSpec.ofChange Rows.fnWayBoundsSpec) :=
  OpenClaim.holds_of_wide 3 Try.f3 rfl rfl rfl rfl rfl rfl rfl ⟨rfl, rfl, rfl, rfl, rfl⟩ rfl rfl rfl rfl rfl (by kernel_rfl) Try.func3 (by kernel_rfl)
    (of_decide_eq_true (by kernel_rfl)) (by unfold Func.isWrapper; first | (rw [if_pos (by decide +kernel)]; kernel_rfl) | (rw [if_neg (by decide +kernel)]; exact ⟨rfl, rfl⟩))
    (fun os started H enc _ => lifted os started H enc)
theorem proved : Rows.FnWayBoundsSaid := over
end fnWayBounds
end Go.Proofs.Ytlomkebhopaliaa
