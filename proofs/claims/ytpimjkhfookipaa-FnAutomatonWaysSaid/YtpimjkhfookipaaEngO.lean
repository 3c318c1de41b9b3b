/- append of one scalar onto an own slice of one-cell elements that may begin inside its block: where there is room it stays, else it moves to a new block: both ways are to be shown. No conditions. -/
import Derived.Test.YtpimjkhfookipaaEngN
import Derived.Deep.AppendSrc
namespace Go.Proofs.Ytpimjkhfookipaa
set_option linter.unusedSimpArgs false
set_option linter.unusedVariables false
open Go.RowKit

section
variable {P : Program} {N : Nat}

theorem ax_appendO [Cx] {K : ASt → Prop} {t e : TypeId} {z0 : Value} {x y : Operand} {d ty : Nat} {pos : String} {after : Array Edge} {s : ASt} {id id2 off n : Nat} {blk b2 : Blk} {v : Value}
    (hx : opd s x = some (.one (.own id 1 off n))) (hb : s.h[id]? = some (some blk)) (hinfo : elemInfo P t = some (e, [z0])) (he : e = blk.elem) (hn : off + n ≤ blk.n) (hnm : n + 1 ≤ 1099511627776) (hone : ∀ i, i < n → (blk.f (off + i)).one = true)
    (hy : opd s y = some (.one (.own id2 1 0 1))) (hb2 : s.h[id2]? = some (some b2)) (hn2 : 1 ≤ b2.n) (hv : b2.f 0 = .val v) (hv1 : v.oneCell' = true) (hd : d < s.nt)
    (h1 : K ⟨upd s.σ d (.one (.own id 1 off (n + 1))), s.h.set id (some ⟨blk.elem, off + n + 1, fun i => if i < off + n then blk.f i else .val v⟩), s.nt⟩)
    (h2 : K ⟨upd s.σ d (.one (.own s.h.length 1 0 (n + 1))), s.h ++ [some ⟨blk.elem, n + 1, fun i => if i < n then blk.f (off + i) else .val v⟩], s.nt⟩) :
    Ax N P K ⟨some d, .call ⟨.builtin .append, #[x, y], #[t, t]⟩, ty, pos, after, none⟩ s := by
  refine ⟨rfl, fun w0 S0 φ a w hN sim next Q hnx => ?_⟩
  subst he
  obtain ⟨i, z, hu', hi, hz, hsz, hzs, hpos, hby⟩ := elemInfo_some hinfo
  have hsz : i.size = 1 := by simpa using hsz
  have fin : ∀ {v' w'}, (Builtin.append_ #[t, t] ty #[a.eval x, a.eval y]).run P w = .ok v' w' → (execOp a.eval ⟨some d, .call ⟨.builtin .append, #[x, y], #[t, t]⟩, ty, pos, after, none⟩).run P w = .ok (.value v') w' := fun {v' w'} hr => by
    unfold execOp
    simp only [resolve, invoke, builtin, Sem.run_bind, Sem.run_pure, Result.andThen_ok, List.map_toArray, List.map_cons, List.map_nil, hr]
  -- the source
  obtain ⟨g2, c2, ey, hcell2⟩ : ∃ g2 c2, a.eval y = .slice (some ⟨g2, 0, none⟩) 1 c2 ∧ w.cell? ⟨g2, 0, none⟩ = some v := by
    rcases sim.opd hy with ⟨_, _, hl, _⟩ | ⟨g2, c2, z2, hφ2, ey, _, _, _⟩
    · cases hl
    · obtain ⟨cur2, _, _, hcur2, hn2', hx2⟩ := sim.blkAt hb2 hφ2
      obtain ⟨x2, hx2a, hx2b⟩ := hx2 0 (by omega)
      rw [hv] at hx2b
      have hx2b : x2 = v := hx2b
      exact ⟨g2, c2, ey, by rw [← hx2b]; exact cell_of_blk hcur2 hx2a⟩
  have hsrc : Src P i.size t (a.eval y) 1 [v] w := by
    rw [ey]
    refine Src.ofSlice w hu' _ 1 c2 [v] (by simp [hsz]) (fun j u hj => ?_) (fun u hu => by simp at hu; subst hu; exact hv1)
    have hj0 : j = 0 := by
      have := (List.getElem?_eq_some_iff.1 hj).1; simpa using this
    subst hj0
    simp at hj; subst hj
    rw [add_none]; exact hcell2
  have hgrow : ∀ (base : Option Addr) (c : Nat) (olds : List Value), a.eval x = .slice base n c → c < n + 1 → olds.length = n →
      (Builtin.firstCells i.size n (.slice base n c)).run P w.drew = .ok olds.toArray w.drew → (∀ j, j < n → ∃ u, olds[j]? = some u ∧ Rd w (Stab w0 S0 s.h φ) (blk.f (off + j)) u) →
      Oper.wp P ⟨some d, .call ⟨.builtin .append, #[x, y], #[t, t]⟩, ty, pos, after, none⟩ a w next Q := fun base c olds ex hcl hol hold hrd => by
    have hbytes : (n + 1) * i.bytes ≤ 140737488355328 := by
      have : (n + 1) * i.bytes ≤ 1099511627776 * 64 := Nat.mul_le_mul hnm hby
      omega
    have hr := run_append_grow_src (P := P) w t t ty blk.elem i z hu' hi hz base n c olds hold (a.eval y) 1 [v] hsrc hcl (by omega) (growslice_fits hcl hbytes)
    rw [← ex] at hr
    unfold Oper.wp
    rw [fin hr, Oper.upon_value]
    have hge := grownCap_ge w (n + 1) c blk.elem
    have hcm := grownCap_le_maxLen w (n + 1) c blk.elem (by unfold maxLen; omega)
    generalize grownCap w (n + 1) c blk.elem = cap at *
    have simD : SimAt w0 S0 s φ a w.drew := sim.after ⟨rfl, rfl, rfl, Nat.le_refl _, fun _ _ => rfl⟩
    have hcs : ((olds ++ [v]).toArray ++ Builtin.zeroCells z.cells (cap - (n + 1))).size = cap := by
      rw [Array.size_append, List.size_toArray, List.length_append, size_zeroCells, hzs, hol]
      show n + 1 + (cap - (n + 1)) * 1 = cap
      omega
    have sim' := simD.made (blk := ⟨blk.elem, n + 1, fun i => if i < n then blk.f (off + i) else .val v⟩) (cells := (olds ++ [v]).toArray ++ Builtin.zeroCells z.cells (cap - (n + 1))) rfl (by rw [hcs]; exact hge) (fun j hj => by
      have hj : j < n + 1 := hj
      rw [Array.getElem?_append_left (by simp; omega)]
      by_cases e : j < n
      · obtain ⟨u, hu, hr⟩ := hrd j e
        refine ⟨u, by simp [List.getElem?_append_left (show j < olds.length by omega), hu], ?_⟩
        simp only [if_pos e]
        exact Rd.mono (w := w) (w' := w.drew) (fun b hb hlt => ⟨hb, rfl⟩) _ _ hr
      · have ej : j = n := by omega
        subst ej
        refine ⟨v, by simp [List.getElem?_append_right (show olds.length ≤ j by omega), hol], ?_⟩
        simp only [if_neg e]
        rfl)
    rw [show w.drew.heap.size = w.heap.size from rfl] at sim'
    rw [hcs] at sim'
    refine hnx _ _ _ h2 ⟨w0, Reb.refl _, _, sim'.put (d := d) hd (v := .one (.own s.h.length 1 0 (n + 1))) (.inr ⟨w.heap.size, cap, cap, ?_, rfl, hge, hcm, by omega⟩)⟩
    rw [← sim.heap.len]; simp
  rcases sim.opd hx with ⟨hφ, hoff, hl, ex⟩ | ⟨g, c, zz, hφ, ex, hc, hcm, hcz⟩
  · subst hl
    exact hgrow none 0 [] ex (by omega) rfl (run_firstCells_none w.drew i.size 0 0 0) (fun j hj => by omega)
  · obtain ⟨cur, hz', hB, hcur, hbn, hxs⟩ := sim.blkAt hb hφ
    rw [Nat.mul_one] at hcz
    by_cases hroom : n + 1 ≤ c
    · have hlt : off + n < cur.size := by omega
      have hcs : (w.cell? ⟨g, off + n, none⟩).isSome = true := by
        rw [show w.cell? ⟨g, off + n, none⟩ = cur[off + n]? by simp [World.cell?, hcur]]
        simp [hlt]
      have hr := run_append_room_src (P := P) w t t ty blk.elem i hu' hi g off n c (a.eval y) 1 [v] hsrc hroom (fun j hj => by
        have hj0 : j = 0 := by simpa using hj
        subst hj0; rw [hsz, Nat.mul_one]; exact hcs) (fun j hj => by simp [World.frozen?, hcur])
      rw [← ex, hsz, Nat.mul_one] at hr
      unfold Oper.wp
      rw [fin hr, Oper.upon_value]
      obtain ⟨cur', q1, q2, q3, q4, q5, q6, q7, q8, q9⟩ := setCells_at [v] w g (off + n) cur blk.elem (0, 0) hcur
      have sim' := sim.write hb hφ (blk' := ⟨blk.elem, off + n + 1, fun i => if i < off + n then blk.f i else .val v⟩) (w' := w.setCells g (off + n) [v]) q1 (by omega) q5 q6 q7 (Nat.le_of_eq q8.symm) (fun k _ hk => q9 k hk) rfl (by show off + n + 1 ≤ cur'.size; omega) (fun j hj => by
        have hj : j < off + n + 1 := hj
        by_cases e : j < off + n
        · obtain ⟨u, hu, hr⟩ := hxs j (by omega)
          refine ⟨u, by rw [q3 j (.inl e)]; exact hu, ?_⟩
          simp only [if_pos e]; exact hr
        · have ej : j = off + n := by omega
          subst ej
          refine ⟨v, ?_, ?_⟩
          · have := q4 0 (by simp) (by omega)
            simpa using this
          · simp only [if_neg e]; rfl)
      refine hnx _ _ _ h1 ⟨w0, Reb.refl _, _, sim'.put (d := d) hd (v := .one (.own id 1 off (n + 1))) (.inr ⟨g, c, zz, hφ, rfl, hroom, hcm, by omega⟩)⟩
    · refine hgrow _ c ((cur.toList.drop off).take n) ex (by omega) (by simp; omega) ?_ (fun j hj => ?_)
      · refine run_firstCells_some w.drew i.size n ⟨g, off, none⟩ n c _ (by simp [hsz]; omega) (fun j u hj => ?_)
        rw [add_none]
        have hjl : j < n := by
          have := (List.getElem?_eq_some_iff.1 hj).1
          simp at this; omega
        rw [List.getElem?_take, if_pos hjl, List.getElem?_drop] at hj
        show w.cell? ⟨g, off + j, none⟩ = some u
        exact cell_of_blk hcur (by simpa using hj)
      · obtain ⟨u, hu, hr⟩ := hxs (off + j) (by omega)
        exact ⟨u, by rw [List.getElem?_take, if_pos hj, List.getElem?_drop]; simpa using hu, hr⟩

/-- An own slice without its first element: where that was the last cell of its block, the rest is a slice of no cells at all. -/
theorem ax_cutO [Cx] {K : ASt → Prop} {t : TypeId} {x : Operand} {κ : IntKind} {d ty : Nat} {pos : String} {after : Array Edge} {s : ASt} {id off n : Nat}
    (hx : opd s x = some (.one (.own id 1 off n))) (hsz : elemSz P t = some 1) (hn : 0 < n) (hd : d < s.nt)
    (h1 : K (putS s d (.one (.own id 1 (off + 1) (n - 1))))) (h2 : n = 1 → ∀ A : Option Addr, K (putS s d (sc (.slice A 0 0)))) :
    Ax N P K ⟨some d, .slice t x (some (.const (.int κ 1))) none none, ty, pos, after, none⟩ s := by
  refine ⟨rfl, fun w0 S0 φ a w hN sim next Q hnx => ?_⟩
  obtain ⟨e, ii, hu, hii, hsz1⟩ := elemSz_some hsz
  rcases sim.opd hx with ⟨_, _, hl, _⟩ | ⟨b, c, z, hφ, ex, hc, hcm, hz⟩
  · omega
  · rw [Nat.mul_one] at hz
    have hb := run_sliceBounds (P := P) true n c 1 n (some (.int κ 1)) none (.inr ⟨κ, rfl⟩) (.inl ⟨rfl, rfl⟩) (by omega) hc w
    have hr : (execOp a.eval ⟨some d, .slice t x (some (.const (.int κ 1))) none none, ty, pos, after, none⟩).run P w = .ok (.value (.slice (if c = 1 then some ⟨b, off, none⟩ else some ⟨b, off + 1, none⟩) (n - 1) (c - 1))) w := by
      unfold execOp
      have ev : a.eval (.const (.int κ 1)) = .int κ 1 := rfl
      simp only [ex, ev, Instr.sliceAt, Instr.slice, Sem.run_bind, run_underlying hu, Result.andThen_ok, Option.map_none, Option.map_some, hb, sizeOf, typeInfo, run_program, hii, Sem.run_pure, hsz1, Nat.one_mul, add_none]
    unfold Oper.wp
    rw [hr, Oper.upon_value]
    by_cases e1 : c = 1
    · rw [if_pos e1]
      have e2 : n = 1 := by omega
      refine hnx _ _ _ (h2 e2 (some ⟨b, off, none⟩)) ⟨w0, Reb.refl _, φ, sim.put (d := d) hd (v := sc (.slice (some ⟨b, off, none⟩) 0 0)) ?_⟩
      show Value.slice _ (n - 1) (c - 1) = Value.slice _ 0 0
      rw [e1, e2]
    · rw [if_neg e1]
      refine hnx _ _ _ h1 ⟨w0, Reb.refl _, φ, sim.put (d := d) hd (v := .one (.own id 1 (off + 1) (n - 1))) (.inr ⟨b, c - 1, z, hφ, rfl, by omega, by omega, by omega⟩)⟩

/-- append of one scalar onto a slice of no cells. -/
theorem ax_appendD [Cx] {K : ASt → Prop} {t e : TypeId} {z0 : Value} {x y : Operand} {d ty : Nat} {pos : String} {after : Array Edge} {s : ASt} {id2 : Nat} {b2 : Blk} {v : Value} {A : Option Addr}
    (hx : opd s x = some (sc (.slice A 0 0))) (hinfo : elemInfo P t = some (e, [z0]))
    (hy : opd s y = some (.one (.own id2 1 0 1))) (hb2 : s.h[id2]? = some (some b2)) (hn2 : 1 ≤ b2.n) (hv : b2.f 0 = .val v) (hv1 : v.oneCell' = true) (hd : d < s.nt)
    (h2 : K ⟨upd s.σ d (.one (.own s.h.length 1 0 1)), s.h ++ [some ⟨e, 1, fun _ => .val v⟩], s.nt⟩) :
    Ax N P K ⟨some d, .call ⟨.builtin .append, #[x, y], #[t, t]⟩, ty, pos, after, none⟩ s := by
  refine ⟨rfl, fun w0 S0 φ a w hN sim next Q hnx => ?_⟩
  obtain ⟨i, z, hu', hi, hz, hsz, hzs, hpos, hby⟩ := elemInfo_some hinfo
  have hsz : i.size = 1 := by simpa using hsz
  have ex := val_of sim hx
  have fin : ∀ {v' w'}, (Builtin.append_ #[t, t] ty #[a.eval x, a.eval y]).run P w = .ok v' w' → (execOp a.eval ⟨some d, .call ⟨.builtin .append, #[x, y], #[t, t]⟩, ty, pos, after, none⟩).run P w = .ok (.value v') w' := fun {v' w'} hr => by
    unfold execOp
    simp only [resolve, invoke, builtin, Sem.run_bind, Sem.run_pure, Result.andThen_ok, List.map_toArray, List.map_cons, List.map_nil, hr]
  obtain ⟨g2, c2, ey, hcell2⟩ : ∃ g2 c2, a.eval y = .slice (some ⟨g2, 0, none⟩) 1 c2 ∧ w.cell? ⟨g2, 0, none⟩ = some v := by
    rcases sim.opd hy with ⟨_, _, hl, _⟩ | ⟨g2, c2, z2, hφ2, ey, _, _, _⟩
    · cases hl
    · obtain ⟨cur2, _, _, hcur2, hn2', hx2⟩ := sim.blkAt hb2 hφ2
      obtain ⟨x2, hx2a, hx2b⟩ := hx2 0 (by omega)
      rw [hv] at hx2b
      have hx2b : x2 = v := hx2b
      exact ⟨g2, c2, ey, by rw [← hx2b]; exact cell_of_blk hcur2 hx2a⟩
  have hsrc : Src P i.size t (a.eval y) 1 [v] w := by
    rw [ey]
    refine Src.ofSlice w hu' _ 1 c2 [v] (by simp [hsz]) (fun j u hj => ?_) (fun u hu => by simp at hu; subst hu; exact hv1)
    have hj0 : j = 0 := by
      have := (List.getElem?_eq_some_iff.1 hj).1; simpa using this
    subst hj0
    simp at hj; subst hj
    rw [add_none]; exact hcell2
  have hold : (Builtin.firstCells i.size 0 (.slice A 0 0)).run P w.drew = .ok ([] : List Value).toArray w.drew := by
    cases A with
    | none => exact run_firstCells_none w.drew i.size 0 0 0
    | some ad => exact run_firstCells_some w.drew i.size 0 ad 0 0 [] (by simp) (fun j u hj => by simp at hj)
  have hr := run_append_grow_src (P := P) w t t ty e i z hu' hi hz A 0 0 [] hold (a.eval y) 1 [v] hsrc (by omega) (by omega) (growslice_fits (by omega) (by have := hby; omega))
  rw [← ex] at hr
  unfold Oper.wp
  rw [fin hr, Oper.upon_value]
  have hge := grownCap_ge w (0 + 1) 0 e
  have hcm := grownCap_le_maxLen w (0 + 1) 0 e (by unfold maxLen; omega)
  generalize grownCap w (0 + 1) 0 e = cap at *
  have simD : SimAt w0 S0 s φ a w.drew := sim.after ⟨rfl, rfl, rfl, Nat.le_refl _, fun _ _ => rfl⟩
  have hcs : (([] ++ [v]).toArray ++ Builtin.zeroCells z.cells (cap - (0 + 1))).size = cap := by
    rw [Array.size_append, List.size_toArray, List.length_append, size_zeroCells, hzs]
    show 0 + 1 + (cap - (0 + 1)) * 1 = cap
    omega
  have sim' := simD.made (blk := ⟨e, 1, fun _ => .val v⟩) (cells := ([] ++ [v]).toArray ++ Builtin.zeroCells z.cells (cap - (0 + 1))) rfl (by rw [hcs]; exact hge) (fun j hj => by
    have hj : j < 1 := hj
    obtain rfl : j = 0 := by omega
    exact ⟨v, by rw [Array.getElem?_append_left (by simp)]; rfl, rfl⟩)
  rw [show w.drew.heap.size = w.heap.size from rfl] at sim'
  rw [hcs] at sim'
  refine hnx _ _ _ h2 ⟨w0, Reb.refl _, _, sim'.put (d := d) hd (v := .one (.own s.h.length 1 0 1)) (.inr ⟨w.heap.size, cap, cap, ?_, rfl, hge, hcm, by omega⟩)⟩
  rw [← sim.heap.len]; simp

/-- The length of a slice of no cells. -/
theorem ax_lenD [Cx] {K : ASt → Prop} {t : TypeId} {x : Operand} {d ty : Nat} {pos : String} {after : Array Edge} {s : ASt} {A : Option Addr}
    (hx : opd s x = some (sc (.slice A 0 0))) (ht : (elemSz P t).isSome = true) (hd : d < s.nt) (h : K (putS s d (sc (.int .i64 0)))) :
    Ax N P K ⟨some d, .call ⟨.builtin .len, #[x], #[t]⟩, ty, pos, after, none⟩ s := by
  refine ⟨rfl, fun w0 S0 φ a w hN sim next Q hnx => ?_⟩
  have ex := val_of sim hx
  have hr : (execOp a.eval ⟨some d, .call ⟨.builtin .len, #[x], #[t]⟩, ty, pos, after, none⟩).run P w = .ok (.value (.int .i64 (0 : Nat))) w := by
    have h0 := run_len_of (P := P) (ty := ty) ht A 0 0 w
    rw [← ex] at h0
    unfold execOp
    simp only [resolve, invoke, builtin, Sem.run_bind, Sem.run_pure, Result.andThen_ok, List.map_toArray, List.map_cons, List.map_nil, h0]
  unfold Oper.wp
  rw [hr, Oper.upon_value]
  exact hnx _ _ _ h ⟨w0, Reb.refl _, φ, sim.put (d := d) hd (v := sc (.int .i64 0)) rfl⟩
end
end Go.Proofs.Ytpimjkhfookipaa
