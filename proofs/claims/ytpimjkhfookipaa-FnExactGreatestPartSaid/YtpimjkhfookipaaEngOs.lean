/- append of one struct of scalars onto an own slice that may begin inside its block, and such a slice without its first element. No conditions. -/
import Derived.Test.YtpimjkhfookipaaEngO
namespace Go.Proofs.Ytpimjkhfookipaa
set_option linter.unusedSimpArgs false
set_option linter.unusedVariables false
open Go.RowKit

section
variable {P : Program} {N : Nat}

theorem ax_appendS [Cx] {K : ASt → Prop} {t e : TypeId} {zs : List Value} {x y : Operand} {d ty : Nat} {pos : String} {after : Array Edge} {s : ASt} {id id2 sz off n : Nat} {blk b2 : Blk} (v : Nat → Value)
    (hx : opd s x = some (.one (.own id sz off n))) (hb : s.h[id]? = some (some blk)) (hinfo : elemInfo P t = some (e, zs)) (hzl : zs.length = sz) (he : e = blk.elem) (hn : off + n * sz ≤ blk.n) (hnm : n + 1 ≤ 1099511627776)
    (hy : opd s y = some (.one (.own id2 sz 0 1))) (hb2 : s.h[id2]? = some (some b2)) (hn2 : sz ≤ b2.n) (hv : ∀ j, j < sz → b2.f j = .val (v j)) (hv1 : ∀ j, j < sz → (v j).oneCell' = true) (hd : Nat.ble (d + 1) s.nt = true)
    (h1 : K ⟨upd s.σ d (.one (.own id sz off (n + 1))), s.h.set id (some ⟨blk.elem, off + n * sz + sz, fun i => if i < off + n * sz then blk.f i else .val (v (i - (off + n * sz)))⟩), s.nt⟩)
    (h2 : K ⟨upd s.σ d (.one (.own s.h.length sz 0 (n + 1))), s.h ++ [some ⟨blk.elem, n * sz + sz, fun i => if i < n * sz then blk.f (off + i) else .val (v (i - n * sz))⟩], s.nt⟩) :
    Ax N P K ⟨some d, .call ⟨.builtin .append, #[x, y], #[t, t]⟩, ty, pos, after, none⟩ s := by
  refine ⟨rfl, fun w0 S0 φ a w hN sim next Q hnx => ?_⟩
  have hd := Nat.le_of_ble_eq_true hd
  subst he
  obtain ⟨i, z, hu', hi, hz, hsz, hzs, hpos, hby⟩ := elemInfo_some hinfo
  rw [hzl] at hsz hpos
  have hzsz : z.cells.size = sz := by rw [hzs]; simpa using hzl
  have fin : ∀ {v' w'}, (Builtin.append_ #[t, t] ty #[a.eval x, a.eval y]).run P w = .ok v' w' → (execOp a.eval ⟨some d, .call ⟨.builtin .append, #[x, y], #[t, t]⟩, ty, pos, after, none⟩).run P w = .ok (.value v') w' := fun {v' w'} hr => by
    unfold execOp
    simp only [resolve, invoke, builtin, Sem.run_bind, Sem.run_pure, Result.andThen_ok, List.map_toArray, List.map_cons, List.map_nil, hr]
  obtain ⟨vl, hvl⟩ : ∃ vl, vl = (List.range sz).map v := ⟨_, rfl⟩
  have hvll : vl.length = sz := by rw [hvl]; simp
  have hvlg : ∀ j, j < sz → vl[j]? = some (v j) := fun j hj => by rw [hvl]; simp [hj]
  -- the source
  obtain ⟨g2, c2, ey, hcell2⟩ : ∃ g2 c2, a.eval y = .slice (some ⟨g2, 0, none⟩) 1 c2 ∧ ∀ j, j < sz → w.cell? ⟨g2, j, none⟩ = some (v j) := by
    rcases sim.opd hy with ⟨_, _, hl, _⟩ | ⟨g2, c2, z2, hφ2, ey, _, _, _⟩
    · cases hl
    · obtain ⟨cur2, _, _, hcur2, hn2', hx2⟩ := sim.blkAt hb2 hφ2
      refine ⟨g2, c2, ey, fun j hj => ?_⟩
      obtain ⟨x2, hx2a, hx2b⟩ := hx2 j (by omega)
      rw [hv j hj] at hx2b
      have hx2b : x2 = v j := hx2b
      rw [← hx2b]; exact cell_of_blk hcur2 hx2a
  have hsrc : Src P i.size t (a.eval y) 1 vl w := by
    rw [ey]
    refine Src.ofSlice w hu' _ 1 c2 vl (by rw [hvll, hsz]; omega) (fun j u hj => ?_) (fun u hu => ?_)
    · have hj0 : j < sz := by
        have := (List.getElem?_eq_some_iff.1 hj).1; omega
      rw [hvlg j hj0] at hj
      injection hj with hj; subst hj
      rw [add_none, Nat.zero_add]; exact hcell2 j hj0
    · rw [hvl] at hu
      obtain ⟨j, hj, rfl⟩ := List.mem_map.1 hu
      exact hv1 j (List.mem_range.1 hj)
  have hgrow : ∀ (base : Option Addr) (c : Nat) (olds : List Value), a.eval x = .slice base n c → c < n + 1 → olds.length = n * sz →
      (Builtin.firstCells i.size n (.slice base n c)).run P w.drew = .ok olds.toArray w.drew → (∀ j, j < n * sz → ∃ u, olds[j]? = some u ∧ Rd w (Stab w0 S0 s.h φ) (blk.f (off + j)) u) →
      Oper.wp P ⟨some d, .call ⟨.builtin .append, #[x, y], #[t, t]⟩, ty, pos, after, none⟩ a w next Q := fun base c olds ex hcl hol hold hrd => by
    have hbytes : (n + 1) * i.bytes ≤ 140737488355328 := by
      have : (n + 1) * i.bytes ≤ 1099511627776 * 64 := Nat.mul_le_mul hnm hby
      omega
    have hr := run_append_grow_src (P := P) w t t ty blk.elem i z hu' hi hz base n c olds hold (a.eval y) 1 vl hsrc hcl (by omega) (growslice_fits hcl hbytes)
    rw [← ex] at hr
    unfold Oper.wp
    rw [fin hr, Oper.upon_value]
    have hge := grownCap_ge w (n + 1) c blk.elem
    have hcm := grownCap_le_maxLen w (n + 1) c blk.elem (by unfold maxLen; omega)
    generalize grownCap w (n + 1) c blk.elem = cap at *
    have simD : SimAt w0 S0 s φ a w.drew := sim.after ⟨rfl, rfl, rfl, Nat.le_refl _, fun _ _ => rfl⟩
    have hcs : ((olds ++ vl).toArray ++ Builtin.zeroCells z.cells (cap - (n + 1))).size = cap * sz := by
      rw [Array.size_append, List.size_toArray, List.length_append, size_zeroCells, hzsz, hol, hvll]
      obtain ⟨q, rfl⟩ : ∃ q, cap = n + 1 + q := ⟨cap - (n + 1), by omega⟩
      rw [show n + 1 + q - (n + 1) = q by omega, Nat.add_mul, Nat.add_mul, Nat.one_mul]
    have hle : n * sz + sz ≤ cap * sz := by
      have := Nat.mul_le_mul_right sz hge
      rw [Nat.add_mul, Nat.one_mul] at this; exact this
    have sim' := simD.made (blk := ⟨blk.elem, n * sz + sz, fun i => if i < n * sz then blk.f (off + i) else .val (v (i - n * sz))⟩) (cells := (olds ++ vl).toArray ++ Builtin.zeroCells z.cells (cap - (n + 1))) rfl (by rw [hcs]; exact hle) (fun j hj => by
      have hj : j < n * sz + sz := hj
      rw [Array.getElem?_append_left (by simp only [List.size_toArray, List.length_append]; omega)]
      by_cases e : j < n * sz
      · obtain ⟨u, hu, hr⟩ := hrd j e
        refine ⟨u, by simp [List.getElem?_append_left (show j < olds.length by omega), hu], ?_⟩
        simp only [if_pos e]
        exact Rd.mono (w := w) (w' := w.drew) (fun b hb hlt => ⟨hb, rfl⟩) _ _ hr
      · refine ⟨v (j - n * sz), ?_, ?_⟩
        · rw [List.getElem?_toArray, List.getElem?_append_right (by omega), hol]
          exact hvlg _ (by omega)
        · simp only [if_neg e]
          rfl)
    rw [show w.drew.heap.size = w.heap.size from rfl] at sim'
    rw [hcs] at sim'
    refine hnx _ _ _ h2 ⟨w0, Reb.refl _, _, sim'.put (d := d) hd (v := .one (.own s.h.length sz 0 (n + 1))) (.inr ⟨w.heap.size, cap, cap * sz, ?_, rfl, hge, hcm, by omega⟩)⟩
    rw [← sim.heap.len]; simp
  rcases sim.opd hx with ⟨hφ, hoff, hl, ex⟩ | ⟨g, c, zz, hφ, ex, hc, hcm, hcz⟩
  · subst hl
    exact hgrow none 0 [] ex (by omega) (by simp) (run_firstCells_none w.drew i.size 0 0 0) (fun j hj => by omega)
  · obtain ⟨cur, hz', hB, hcur, hbn, hxs⟩ := sim.blkAt hb hφ
    by_cases hroom : n + 1 ≤ c
    · have hcc : off + n * sz + sz ≤ cur.size := by
        have := Nat.mul_le_mul_right sz hroom
        rw [Nat.add_mul, Nat.one_mul] at this
        omega
      have hcs : ∀ j, j < sz → (w.cell? ⟨g, off + n * sz + j, none⟩).isSome = true := fun j hj => by
        have hlt : off + n * sz + j < cur.size := by omega
        rw [show w.cell? ⟨g, off + n * sz + j, none⟩ = cur[off + n * sz + j]? by simp [World.cell?, hcur]]
        simp [hlt]
      have hr := run_append_room_src (P := P) w t t ty blk.elem i hu' hi g off n c (a.eval y) 1 vl hsrc hroom (fun j hj => by
        rw [hvll] at hj; rw [hsz]; exact hcs j hj) (fun j hj => by simp [World.frozen?, hcur])
      rw [← ex, hsz] at hr
      unfold Oper.wp
      rw [fin hr, Oper.upon_value]
      obtain ⟨cur', q1, q2, q3, q4, q5, q6, q7, q8, q9⟩ := setCells_at vl w g (off + n * sz) cur blk.elem (0, 0) hcur
      have sim' := sim.write hb hφ (blk' := ⟨blk.elem, off + n * sz + sz, fun i => if i < off + n * sz then blk.f i else .val (v (i - (off + n * sz)))⟩) (w' := w.setCells g (off + n * sz) vl) q1 (by omega) q5 q6 q7 (Nat.le_of_eq q8.symm) (fun k _ hk => q9 k hk) rfl (by show off + n * sz + sz ≤ cur'.size; omega) (fun j hj => by
        have hj : j < off + n * sz + sz := hj
        by_cases e : j < off + n * sz
        · obtain ⟨u, hu, hr⟩ := hxs j (by omega)
          refine ⟨u, by rw [q3 j (.inl e)]; exact hu, ?_⟩
          simp only [if_pos e]; exact hr
        · obtain ⟨m, rfl⟩ : ∃ m, j = off + n * sz + m := ⟨j - (off + n * sz), by omega⟩
          refine ⟨v m, ?_, ?_⟩
          · rw [q4 m (by omega) (by omega)]
            exact hvlg m (by omega)
          · simp only [if_neg e]
            rw [show off + n * sz + m - (off + n * sz) = m by omega]
            rfl)
      refine hnx _ _ _ h1 ⟨w0, Reb.refl _, _, sim'.put (d := d) hd (v := .one (.own id sz off (n + 1))) (.inr ⟨g, c, zz, hφ, rfl, hroom, hcm, by omega⟩)⟩
    · have hcn : c = n := by omega
      refine hgrow _ c ((cur.toList.drop off).take (n * sz)) ex (by omega) (by simp; omega) ?_ (fun j hj => ?_)
      · refine run_firstCells_some w.drew i.size n ⟨g, off, none⟩ n c _ (by simp [hsz]; omega) (fun j u hj => ?_)
        rw [add_none]
        have hjl : j < n * sz := by
          have := (List.getElem?_eq_some_iff.1 hj).1
          simp at this; omega
        rw [List.getElem?_take, if_pos hjl, List.getElem?_drop] at hj
        show w.cell? ⟨g, off + j, none⟩ = some u
        exact cell_of_blk hcur (by simpa using hj)
      · obtain ⟨u, hu, hr⟩ := hxs (off + j) (by omega)
        exact ⟨u, by rw [List.getElem?_take, if_pos hj, List.getElem?_drop]; simpa using hu, hr⟩

/-- An own slice without its first element: where that was the last cell of its block, the rest is a slice of no cells at all. -/
theorem ax_cutS [Cx] {K : ASt → Prop} {t : TypeId} {x : Operand} {κ : IntKind} {d ty : Nat} {pos : String} {after : Array Edge} {s : ASt} {id sz off n : Nat}
    (hx : opd s x = some (.one (.own id sz off n))) (hsz : elemSz P t = some sz) (hn : 0 < n) (hd : Nat.ble (d + 1) s.nt = true)
    (h1 : K (putS s d (.one (.own id sz (off + sz) (n - 1))))) (h2 : n = 1 → ∀ A : Option Addr, K (putS s d (sc (.slice A 0 0)))) :
    Ax N P K ⟨some d, .slice t x (some (.const (.int κ 1))) none none, ty, pos, after, none⟩ s := by
  refine ⟨rfl, fun w0 S0 φ a w hN sim next Q hnx => ?_⟩
  have hd := Nat.le_of_ble_eq_true hd
  obtain ⟨e, ii, hu, hii, hsz1⟩ := elemSz_some hsz
  rcases sim.opd hx with ⟨_, _, hl, _⟩ | ⟨b, c, z, hφ, ex, hc, hcm, hz⟩
  · omega
  · have hb := run_sliceBounds (P := P) true n c 1 n (some (.int κ 1)) none (.inr ⟨κ, rfl⟩) (.inl ⟨rfl, rfl⟩) (by omega) hc w
    have hr : (execOp a.eval ⟨some d, .slice t x (some (.const (.int κ 1))) none none, ty, pos, after, none⟩).run P w = .ok (.value (.slice (if c = 1 then some ⟨b, off, none⟩ else some ⟨b, off + sz, none⟩) (n - 1) (c - 1))) w := by
      unfold execOp
      have ev : a.eval (.const (.int κ 1)) = .int κ 1 := rfl
      simp only [ex, ev, Instr.sliceAt, Instr.slice, Sem.run_bind, run_underlying hu, Result.andThen_ok, Option.map_none, Option.map_some, hb, sizeOf, typeInfo, run_program, hii, Sem.run_pure, hsz1, Nat.one_mul, add_none]
    unfold Oper.wp
    rw [hr, Oper.upon_value]
    by_cases e1 : c = 1
    · rw [if_pos e1]
      have e2 : n = 1 := by omega
      refine hnx _ _ _ (h2 e2 (some ⟨b, off, none⟩)) ⟨w0, Reb.refl _, φ, sim.put (d := d) hd (v := sc (.slice (some ⟨b, off, none⟩) 0 0)) ?_⟩
      show Value.slice _ (n - 1) (c - 1) = Value.slice _ 0 0
      rw [e1, e2]
    · rw [if_neg e1]
      obtain ⟨q, rfl⟩ : ∃ q, c = q + 1 := ⟨c - 1, by omega⟩
      refine hnx _ _ _ h1 ⟨w0, Reb.refl _, φ, sim.put (d := d) hd (v := .one (.own id sz (off + sz) (n - 1))) (.inr ⟨b, q, z, hφ, rfl, by omega, by omega, by rw [Nat.add_mul, Nat.one_mul] at hz; omega⟩)⟩

/-- append of one struct onto a slice of no cells. -/
theorem ax_appendE [Cx] {K : ASt → Prop} {t e : TypeId} {zs : List Value} {x y : Operand} {d ty : Nat} {pos : String} {after : Array Edge} {s : ASt} {id2 sz : Nat} {b2 : Blk} (v : Nat → Value) {A : Option Addr}
    (hx : opd s x = some (sc (.slice A 0 0))) (hinfo : elemInfo P t = some (e, zs)) (hzl : zs.length = sz)
    (hy : opd s y = some (.one (.own id2 sz 0 1))) (hb2 : s.h[id2]? = some (some b2)) (hn2 : sz ≤ b2.n) (hv : ∀ j, j < sz → b2.f j = .val (v j)) (hv1 : ∀ j, j < sz → (v j).oneCell' = true) (hd : Nat.ble (d + 1) s.nt = true)
    (h2 : K ⟨upd s.σ d (.one (.own s.h.length sz 0 1)), s.h ++ [some ⟨e, sz, fun i => .val (v i)⟩], s.nt⟩) :
    Ax N P K ⟨some d, .call ⟨.builtin .append, #[x, y], #[t, t]⟩, ty, pos, after, none⟩ s := by
  refine ⟨rfl, fun w0 S0 φ a w hN sim next Q hnx => ?_⟩
  have hd := Nat.le_of_ble_eq_true hd
  obtain ⟨i, z, hu', hi, hz, hsz, hzs, hpos, hby⟩ := elemInfo_some hinfo
  rw [hzl] at hsz hpos
  have hzsz : z.cells.size = sz := by rw [hzs]; simpa using hzl
  have ex := val_of sim hx
  have fin : ∀ {v' w'}, (Builtin.append_ #[t, t] ty #[a.eval x, a.eval y]).run P w = .ok v' w' → (execOp a.eval ⟨some d, .call ⟨.builtin .append, #[x, y], #[t, t]⟩, ty, pos, after, none⟩).run P w = .ok (.value v') w' := fun {v' w'} hr => by
    unfold execOp
    simp only [resolve, invoke, builtin, Sem.run_bind, Sem.run_pure, Result.andThen_ok, List.map_toArray, List.map_cons, List.map_nil, hr]
  obtain ⟨vl, hvl⟩ : ∃ vl, vl = (List.range sz).map v := ⟨_, rfl⟩
  have hvll : vl.length = sz := by rw [hvl]; simp
  have hvlg : ∀ j, j < sz → vl[j]? = some (v j) := fun j hj => by rw [hvl]; simp [hj]
  obtain ⟨g2, c2, ey, hcell2⟩ : ∃ g2 c2, a.eval y = .slice (some ⟨g2, 0, none⟩) 1 c2 ∧ ∀ j, j < sz → w.cell? ⟨g2, j, none⟩ = some (v j) := by
    rcases sim.opd hy with ⟨_, _, hl, _⟩ | ⟨g2, c2, z2, hφ2, ey, _, _, _⟩
    · cases hl
    · obtain ⟨cur2, _, _, hcur2, hn2', hx2⟩ := sim.blkAt hb2 hφ2
      refine ⟨g2, c2, ey, fun j hj => ?_⟩
      obtain ⟨x2, hx2a, hx2b⟩ := hx2 j (by omega)
      rw [hv j hj] at hx2b
      have hx2b : x2 = v j := hx2b
      rw [← hx2b]; exact cell_of_blk hcur2 hx2a
  have hsrc : Src P i.size t (a.eval y) 1 vl w := by
    rw [ey]
    refine Src.ofSlice w hu' _ 1 c2 vl (by rw [hvll, hsz]; omega) (fun j u hj => ?_) (fun u hu => ?_)
    · have hj0 : j < sz := by
        have := (List.getElem?_eq_some_iff.1 hj).1; omega
      rw [hvlg j hj0] at hj
      injection hj with hj; subst hj
      rw [add_none, Nat.zero_add]; exact hcell2 j hj0
    · rw [hvl] at hu
      obtain ⟨j, hj, rfl⟩ := List.mem_map.1 hu
      exact hv1 j (List.mem_range.1 hj)
  have hold : (Builtin.firstCells i.size 0 (.slice A 0 0)).run P w.drew = .ok ([] : List Value).toArray w.drew := by
    cases A with
    | none => exact run_firstCells_none w.drew i.size 0 0 0
    | some ad => exact run_firstCells_some w.drew i.size 0 ad 0 0 [] (by simp) (fun j u hj => by simp at hj)
  have hr := run_append_grow_src (P := P) w t t ty e i z hu' hi hz A 0 0 [] hold (a.eval y) 1 vl hsrc (by omega) (by omega) (growslice_fits (by omega) (by have := hby; omega))
  rw [← ex] at hr
  unfold Oper.wp
  rw [fin hr, Oper.upon_value]
  have hge := grownCap_ge w (0 + 1) 0 e
  have hcm := grownCap_le_maxLen w (0 + 1) 0 e (by unfold maxLen; omega)
  generalize grownCap w (0 + 1) 0 e = cap at *
  have simD : SimAt w0 S0 s φ a w.drew := sim.after ⟨rfl, rfl, rfl, Nat.le_refl _, fun _ _ => rfl⟩
  have hcs : (([] ++ vl).toArray ++ Builtin.zeroCells z.cells (cap - (0 + 1))).size = cap * sz := by
    rw [Array.size_append, List.size_toArray, List.length_append, size_zeroCells, hzsz, hvll]
    obtain ⟨q, rfl⟩ : ∃ q, cap = 1 + q := ⟨cap - 1, by omega⟩
    rw [show 1 + q - (0 + 1) = q by omega, Nat.add_mul, Nat.one_mul, List.length_nil, Nat.zero_add]
  have hle : sz ≤ cap * sz := by
    have := Nat.mul_le_mul_right sz hge
    rw [Nat.add_mul, Nat.one_mul, Nat.zero_mul, Nat.zero_add] at this; exact this
  have sim' := simD.made (blk := ⟨e, sz, fun i => .val (v i)⟩) (cells := ([] ++ vl).toArray ++ Builtin.zeroCells z.cells (cap - (0 + 1))) rfl (by rw [hcs]; exact hle) (fun j hj => by
    have hj : j < sz := hj
    refine ⟨v j, ?_, rfl⟩
    rw [Array.getElem?_append_left (by simp only [List.size_toArray, List.nil_append]; omega), List.nil_append, List.getElem?_toArray]
    exact hvlg j hj)
  rw [show w.drew.heap.size = w.heap.size from rfl] at sim'
  rw [hcs] at sim'
  refine hnx _ _ _ h2 ⟨w0, Reb.refl _, _, sim'.put (d := d) hd (v := .one (.own s.h.length sz 0 1)) (.inr ⟨w.heap.size, cap, cap * sz, ?_, rfl, hge, hcm, by omega⟩)⟩
  rw [← sim.heap.len]; simp
end
end Go.Proofs.Ytpimjkhfookipaa
