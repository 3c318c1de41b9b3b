/- Parts of the proof of LawFnParts: contracts of functions, laws of an abstract state, plain facts. No conditions. -/
import Derived.Test.YteapdildbfimnaaB06
namespace Go.Proofs.Yteapdildbfimnaa
open Go.RowKit Go.Proofs
set_option linter.unusedSimpArgs false
set_option linter.unusedVariables false

/-- The letter of place i. -/
def gP (l : List ByteArray) (i : Nat) : Int := byteI (stAt l (i / lenB (stAt l 0))) (i % lenB (stAt l 0))
theorem gP_at {l : List ByteArray} {r c : Nat} (hc : c < lenB (stAt l 0)) : gP l (r * lenB (stAt l 0) + c) = byteI (stAt l r) c := by
  unfold gP; rw [dm_div hc, dm_mod hc]
theorem gP_ix {l : List ByteArray} {q : Pt} (h : inP l.length (lenB (stAt l 0)) q) : gP l (ixP (lenB (stAt l 0)) q) = byteI (stAt l q.1.toNat) q.2.toNat := by
  obtain ⟨h1, h2, h3, h4⟩ := h
  exact gP_at (by omega)

def partF (L : List (Int × Nat)) (i : Nat) : V := if i % 2 = 0 then vu (L.getD (i / 2) (0, 0)).1 else vi (L.getD (i / 2) (0, 0)).2
def bparts (L : List (Int × Nat)) : Blk := ⟨100, L.length * 2, partF L⟩
theorem partF_one (L : List (Int × Nat)) (i : Nat) : (partF L i).one = true := by unfold partF; split <;> rfl
theorem parts_be {L : List (Int × Nat)} {x : Int × Nat} {n : Nat} {f : Nat → V} (hn : n = L.length * 2 + 2) (h : ∀ i, i < L.length * 2 → f i = partF L i) (h0 : f (L.length * 2) = vu x.1) (h1 : f (L.length * 2 + 1) = vi x.2) : BE ⟨100, n, f⟩ (bparts (L ++ [x])) := by
  refine ⟨rfl, by show (L ++ [x]).length * 2 ≤ n; simp; omega, fun i hi => VE.of_eq ?_⟩
  have hi : i < (L ++ [x]).length * 2 := hi
  rw [List.length_append, List.length_singleton] at hi
  show f i = partF (L ++ [x]) i
  rcases Nat.lt_or_ge i (L.length * 2) with h2 | h2
  · rw [h i h2]
    unfold partF
    simp only [List.getD, List.getElem?_append_left (show i / 2 < L.length by omega)]
  · rcases (show i = L.length * 2 ∨ i = L.length * 2 + 1 by omega) with rfl | rfl
    · rw [h0]; unfold partF
      rw [if_pos (by omega), show L.length * 2 / 2 = L.length by omega]
      simp
    · rw [h1]; unfold partF
      rw [if_neg (by omega), show (L.length * 2 + 1) / 2 = L.length by omega]
      simp

/-- The map's content. -/
def sM (S : List Pt) : List (Pt × Value) := S.map fun q => (q, Value.bool true)
theorem getA_sM (q : Pt) : ∀ S : List Pt, getA (sM S) q = if q ∈ S then some (.bool true) else none
  | [] => by simp [sM, getA]
  | p :: S => by
    show (if p = q then _ else getA (sM S) q) = _
    rw [getA_sM q S]
    by_cases e : p = q
    · subst e; simp
    · have e' : ¬ q = p := fun h => e h.symm
      simp [e, e']
theorem getD_sM (q : Pt) (S : List Pt) : (getA (sM S) q).getD (.bool false) = .bool (decide (q ∈ S)) := by
  rw [getA_sM]
  by_cases h : q ∈ S <;> simp [h]
theorem putA_sM {q : Pt} : ∀ {S : List Pt}, q ∉ S → putA (sM S) q (.bool true) = sM (S ++ [q])
  | [], _ => rfl
  | p :: S, h => by
    simp only [List.mem_cons, not_or] at h
    have ih := putA_sM (S := S) h.2
    show (if p = q then _ else (p, Value.bool true) :: putA (sM S) q (.bool true)) = _
    rw [if_neg (fun e => h.1 e.symm), ih]; rfl

/-- The queue: a slice of its own that begins at off in its block, which holds g; or one of no cells. -/
abbrev Qg := Option (Nat × (Nat → Int))
def qS2 (Q : List Pt) : Qg → Option Addr → Slot
  | some (off, _), _ => .one (.own 2 2 off Q.length)
  | none, A => sc (.slice A 0 0)
def qB2 (Q : List Pt) : Qg → Option Blk
  | some (off, g) => some ⟨133, off + Q.length * 2, fun i => vi (g i)⟩
  | none => none
def qOk2 (Q : List Pt) (al : Qg) : Prop := (al = none → Q = []) ∧ ∀ off g, al = some (off, g) → ∀ j, j < Q.length → g (off + j * 2) = (Q.getD j (0, 0)).1 ∧ g (off + j * 2 + 1) = (Q.getD j (0, 0)).2
theorem swSM_pv (b : Nat) (L : List (Value × Value)) (v : V) : swSM b L (.one (.pv v)) = .one (.pv v) := rfl
theorem swSM_own (b : Nat) (L : List (Value × Value)) (i sz off n : Nat) : swSM b L (.one (.own i sz off n)) = .one (.own i sz off n) := rfl
theorem swSM_ptr (b : Nat) (L : List (Value × Value)) (i off : Nat) : swSM b L (.one (.ptr i off)) = .one (.ptr i off) := rfl
theorem swSM_pin (b : Nat) (L : List (Value × Value)) (n : Nat) (f : Nat → V) : swSM b L (.one (.pin n f)) = .one (.pin n f) := rfl
theorem swSM_mp (b : Nat) (L L0 : List (Value × Value)) : swSM b L (.one (.mp b L0)) = .one (.mp b L) := by
  show Slot.one (if b = b then _ else _) = _
  rw [if_pos rfl]
theorem swSM_q2 (b : Nat) (L : List (Value × Value)) (Q : List Pt) (al : Qg) (A : Option Addr) : swSM b L (qS2 Q al A) = qS2 Q al A := by
  rcases al with _ | ⟨off, g⟩ <;> rfl
theorem slR_q2 {m : List Nat} {Q : List Pt} {al : Qg} {A : Option Addr} (h : m[2]? = some 2) : SlR m (qS2 Q al A) (qS2 Q al A) := by
  rcases al with _ | ⟨off, g⟩
  · exact VE.rfl' _
  · exact ⟨h, rfl, rfl, rfl⟩
theorem entH_q2 {h : List (Option Blk)} {Q : List Pt} {al : Qg} {m : List Nat} {r : List (Option Blk)} (h1 : h[2]? = some (qB2 Q al)) (hr : EntHR h m r) : EntHR h (2 :: m) (qB2 Q al :: r) := by
  rcases al with _ | ⟨off, g⟩
  · exact hr
  · refine ⟨?_, hr⟩
    have h1 : h[2]? = some (some ⟨133, off + Q.length * 2, fun i => vi (g i)⟩) := h1
    rw [h1]; exact BE.rfl' _
theorem qOk2.pop {q : Pt} {Q : List Pt} {off : Nat} {g : Nat → Int} (h : qOk2 (q :: Q) (some (off, g))) : g off = q.1 ∧ g (off + 1) = q.2 ∧ qOk2 Q (some (off + 2, g)) := by
  have h0 := h.2 off g rfl 0 (by simp)
  simp only [Nat.zero_mul, Nat.add_zero] at h0
  refine ⟨h0.1, h0.2, fun h => (nomatch h), fun off' g' e j hj => ?_⟩
  cases e
  have := h.2 off g rfl (j + 1) (by simpa using hj)
  rw [show off + (j + 1) * 2 = off + 2 + j * 2 by omega] at this
  simpa using this
def qPut (p : Pt) (n : Nat) (g : Nat → Int) (i : Nat) : Int := if i < n then g i else if i - n = 0 then p.1 else p.2
theorem qPut_0 (p : Pt) (n : Nat) (g : Nat → Int) : qPut p n g n = p.1 := by unfold qPut; rw [if_neg (Nat.lt_irrefl _), Nat.sub_self, if_pos rfl]
theorem qPut_1 (p : Pt) (n : Nat) (g : Nat → Int) : qPut p n g (n + 1) = p.2 := by unfold qPut; rw [if_neg (by omega), if_neg (by omega)]
theorem qPut_lt (p : Pt) {n i : Nat} (g : Nat → Int) (h : i < n) : qPut p n g i = g i := if_pos h
theorem qput_v (p : Pt) (n : Nat) (g : Nat → Int) (i : Nat) : (if i < n then vi (g i) else V.val (.int .i64 (if i - n = 0 then p.1 else p.2))) = vi (qPut p n g i) := by unfold qPut; split <;> rfl
theorem qOk2.put {Q : List Pt} {off : Nat} {g : Nat → Int} (p : Pt) (h : qOk2 Q (some (off, g))) : qOk2 (Q ++ [p]) (some (off, qPut p (off + Q.length * 2) g)) := by
  refine ⟨fun h => (nomatch h), fun off' g' e j hj => ?_⟩
  cases e
  rw [List.length_append, List.length_singleton] at hj
  by_cases hq : j < Q.length
  · have := h.2 off g rfl j hq
    rw [qPut_lt _ _ (by omega), qPut_lt _ _ (by omega)]
    simp only [List.getD, List.getElem?_append_left hq]
    exact this
  · obtain rfl : j = Q.length := by omega
    rw [qPut_0, qPut_1]
    simp [List.getD]
theorem qOk2.move {Q : List Pt} {off : Nat} {g : Nat → Int} (p : Pt) (h : qOk2 Q (some (off, g))) : qOk2 (Q ++ [p]) (some (0, qPut p (Q.length * 2) fun i => g (off + i))) := by
  have h' : qOk2 Q (some (0, fun i => g (off + i))) := ⟨fun h => (nomatch h), fun off' g' e j hj => by
    cases e
    have := h.2 off g rfl j hj
    simp only [Nat.zero_add, ← Nat.add_assoc]
    exact this⟩
  have := h'.put p
  rwa [Nat.zero_add] at this
theorem qOk2.one (p : Pt) : qOk2 ([] ++ [p]) (some (0, fun i => if i = 0 then p.1 else p.2)) := by
  refine ⟨fun h => (nomatch h), fun off' g' e j hj => ?_⟩
  cases e
  obtain rfl : j = 0 := by simpa using hj
  exact ⟨rfl, rfl⟩

/-- The four steps, one number after the other. -/
def dV (j : Nat) : Int := [0, 1, 1, 0, 0, -1, -1, 0].getD j 0
def nbT (q : Pt) (i : Nat) : List Pt := (List.range i).map fun i => (q.1 + dV (i * 2), q.2 + dV (i * 2 + 1))
theorem nbT_succ (q : Pt) (i : Nat) : nbT q (i + 1) = nbT q i ++ [(q.1 + dV (i * 2), q.2 + dV (i * 2 + 1))] := by
  unfold nbT; rw [List.range_succ, List.map_append]; rfl
theorem nbT_all (q : Pt) : nbT q 4 = nbP q := rfl
theorem dV_le (j : Nat) : -1 ≤ dV j ∧ dV j ≤ 1 := by
  unfold dV
  rcases (show j = 0 ∨ j = 1 ∨ j = 2 ∨ j = 3 ∨ j = 4 ∨ j = 5 ∨ j = 6 ∨ j = 7 ∨ 8 ≤ j by omega) with rfl | rfl | rfl | rfl | rfl | rfl | rfl | rfl | h
  all_goals first | decide | (simp [List.getD, List.getElem?_eq_none (show ([0, 1, 1, 0, 0, -1, -1, 0] : List Int).length ≤ j by simpa using h)])

/-- What the search holds. -/
abbrev Bx := List Pt × List Pt × Nat × Qg × Option Addr

/-- What waits for the next stage of a walk. -/
def HoldP (p : Prop) : Prop := p
theorem AWP.holdP [Cx] {P : Program} {N : Nat} {id : Nat} {ops : Array Oper} {d : Bool} {y : Code} {Q : Exit → ASt → Prop} {s : ASt} (h : HoldP (AWP N P (.seq (.region id ops d) y) Q s)) : AWP N P (.seq (.region id ops d) y) Q s := h

def partBlk (x : Int) (m : Nat) : Blk := ⟨100, 2, fun i => if i = 0 then vu x else vi m⟩
def ptBlk (q : Pt) : Blk := ⟨133, 2, fun i => vi (if i = 0 then q.1 else q.2)⟩
theorem two_be {e : TypeId} {n : Nat} {f h : Nat → V} (hn : 2 ≤ n) (h0 : f 0 = h 0) (h1 : f 1 = h 1) : BE ⟨e, n, f⟩ ⟨e, 2, h⟩ := ⟨rfl, hn, fun i hi => VE.of_eq (by
  have hi : i < 2 := hi
  rcases (show i = 0 ∨ i = 1 by omega) with rfl | rfl
  · exact h0
  · exact h1)⟩

set_option maxHeartbeats 8000000 in
set_option maxRecDepth 20000 in
theorem pictureParts_fn (l : List ByteArray) (hp : picB l = true) {L : Nat → Nat} (hL : IsLab (Ad l.length (lenB (stAt l 0)) (gP l)) L) :
    Fn Try.prog 81 [strs l] (.one (.fr 2 (partsL l.length (lenB (stAt l 0)) (gP l) L (l.length * (lenB (stAt l 0)))).length (bparts (partsL l.length (lenB (stAt l 0)) (gP l) L (l.length * (lenB (stAt l 0))))))) := by
  obtain ⟨hp1, hp2, hp3⟩ := picB_parts hp
  have hgc := fun r c (hc : c < (lenB (stAt l 0))) => gP_at (l := l) (r := r) hc
  have hgx := fun q hq => gP_ix (l := l) (q := q) hq
  generalize gP l = g at *
  have hHW : l.length * (lenB (stAt l 0)) ≤ 256 := Nat.mul_le_mul hp1.2 hp2.2
  have hPL : ∀ t, t ≤ l.length * (lenB (stAt l 0)) → (partsL l.length (lenB (stAt l 0)) g L t).length ≤ 256 := fun t ht => by rw [partsL_len]; exact Nat.le_trans (cntN_le _ _) (by omega)
  have hfin := fun (t : Nat) (S0 S : List Pt) (m : Nat) => BfI.fin (H := l.length) (W := (lenB (stAt l 0))) (g := g) (t := t) (S0 := S0) (S := S) (m := m) hL
  have hadd := fun (t : Nat) (S0 S Q : List Pt) (q : Pt) (m : Nat) => BfI.add (H := l.length) (W := (lenB (stAt l 0))) (g := g) (t := t) (S0 := S0) (S := S) (Q := Q) (q := q) (m := m) hL
  have hsta := fun (t : Nat) (S : List Pt) => BfI.start (H := l.length) (W := (lenB (stAt l 0))) (g := g) (t := t) (S := S) hL
  have hP0 : partsL l.length (lenB (stAt l 0)) g L 0 = [] := rfl
  generalize partsL l.length (lenB (stAt l 0)) g L = PL at *
  refine Fn.of_body Try.call81 Try.func81 rfl Try.ntmps81 (ts := [2]) rfl (by simp) rfl (fun N => ?_)
  repeat' (first | ((with_reducible show Ax _ _ _ _ _); (refine ax_makeMap rfl ?_ ; intro b hbN ; simp only [putS, upd, bparts, Nat.reduceEqDiff, ↓reduceIte])) | ((with_reducible show evNx _ _ _ _ _ _); first | (with_reducible refine nx_done ?_) | (refine nx_one rfl ?_) | (refine nx_alt rfl ?_ ?_) | (with_reducible refine nx_st ?_)) | ((with_reducible show evSx _ _ _ _ _ _); first | (with_reducible refine sx_done ?_) | (with_reducible refine sx_st ?_) | (with_reducible refine sx_op ?_)) | ((with_reducible show evTake _ _ _ _ _); with_reducible refine take_nil ?_) | ((with_reducible show evSy _ _ _ _ _ _ _); first | (with_reducible refine sy_done ?_) | (refine sy_last rfl ?_) | (refine sy_one (by decide) rfl ?_) | (refine sy_alt (by decide) rfl ?_ ?_) | (with_reducible refine sy_st ?_)) | ((with_reducible show StK _ _ _); first | fail) | (with_reducible first | refine then_normal ?_ | refine then_ret ?_ | refine then_exit ?_ | refine block_normal ?_ | refine block_ret ?_) | ((with_reducible show blockQ _ _ _ _); first | refine block_exit ?_ | refine block_exit_ne rfl ?_) | ((with_reducible show AWP _ _ _ _ _); first | (refine AWP.region_sx (id := 1) [.op, .op] ?_) | (with_reducible first | refine AWP.seq ?_ | refine AWP.block ?_ | refine AWP.region ?_ | refine AWP.ret ?_ | refine AWP.exit ?_ | refine AWP.skip ?_) | refine AWP.drawn rfl (by kernel_rfl) ?_ | refine AWP.cond rfl ?_ ?_) | with_reducible refine ev_nil ?_ | ((first | ((with_reducible show evNx _ _ _ _ _ _); refine nx_take rfl ?_; intro K hK) | ((with_reducible show Ax _ _ _ _ _); first | (refine ax_op rfl ?_; intro K hK)) | ((with_reducible show evTake _ _ _ _ _); refine take_step rfl ?_; intro K hK) | ((with_reducible show evSy _ _ _ _ _ _ _); refine sy_take rfl ?_; intro K hK) | ((with_reducible show AxB _ _ _ _ _); first | (refine axb_op rfl rfl ?_; intro K hK)) | ((with_reducible show evOps _ _ _ _ _ _); (first | refine ev_step rfl ?_ | refine ev_undef rfl rfl rfl ?_); intro K hK) | ((with_reducible show EvOpen _ _ _ _ _ _ _); refine ev_open ?_; intro K hK) | ((with_reducible show SkOpen _ _ _ _ _ _ _); refine sk_open ?_; intro K hK) | ((with_reducible show callK _ _ _ _ _ _ _ _); first  | fail)); simp only [evOp, evQ, evB, withS, opd, kput, putS, upd, lookup, slotsOf, newBlk, partsK, buildSliceK, sz_strs, Nat.zero_le, ei_parts, ea_parts, List.nil_append, List.length_cons, List.length_nil, Nat.reduceEqDiff, Nat.reduceAdd, Nat.reduceLT, Nat.reduceLeDiff, Nat.zero_mul, Nat.zero_add, ↓reduceIte, eq_self, true_and, Option.isSome_some]) | refine ev_guard rfl rfl rfl ?_ ?_ | ((with_reducible show retQ _ _ _ _); simp only [eq_self]) | (with_reducible refine hK _ ?_; clear hK K) | (with_reducible refine And.intro ?_ ?_) | (with_reducible intro hc; try simp only [eq_self] at hc) | omega)
  all_goals try (exfalso; omega; done)
  refine AWP.loop_entR [0] (fun x : Nat × List Pt => ⟨[(0, .one (.pv (strs l))), (3, .one (.mp b (encA encP (sM x.2)))), (4, .one (.own 0 2 0 (PL (x.1 * (lenB (stAt l 0)))).length)), (15, sc (.int .i64 l.length)), (16, sc (.int .i64 x.1))], [some (bparts (PL (x.1 * (lenB (stAt l 0)))))], 115⟩)
    (fun x => x.1 ≤ l.length ∧ SeenOk l.length (lenB (stAt l 0)) L (x.1 * (lenB (stAt l 0))) x.2) (fun x => l.length - x.1) (0, []) ⟨by omega, fun q => ⟨fun h => (nomatch h), fun h => by simp at h⟩⟩ ?_ ?_
  · refine ⟨rfl, by decide, ⟨VE.rfl' _, ⟨rfl, rfl⟩, ⟨rfl, rfl, rfl, ?_⟩, rfl, rfl, trivial⟩, ⟨rfl, ?_, fun i hi => ?_⟩, trivial⟩
    · show 0 = (PL (0 * (lenB (stAt l 0)))).length; rw [Nat.zero_mul, hP0]; rfl
    · show (PL (0 * (lenB (stAt l 0)))).length * 2 ≤ _; rw [Nat.zero_mul, hP0]; simp
    · have hi : i < (PL (0 * (lenB (stAt l 0)))).length * 2 := hi
      rw [Nat.zero_mul, hP0] at hi; simp at hi
  rintro ⟨r, S⟩ ⟨hr, hS⟩
  change r ≤ l.length at hr
  change SeenOk l.length (lenB (stAt l 0)) L (r * (lenB (stAt l 0))) S at hS
  dsimp only
  by_cases hrl : r < l.length
  · have hrlen := hp3 r hrl
    have hrW := Nat.mul_le_mul_right (lenB (stAt l 0)) (show r + 1 ≤ l.length from hrl)
    rw [Nat.add_mul, Nat.one_mul] at hrW
    repeat' (first | (with_reducible first | refine then_normal ?_ | refine then_ret ?_ | refine then_exit ?_ | refine block_normal ?_ | refine block_ret ?_) | ((with_reducible show blockQ _ _ _ _); first | refine block_exit ?_ | refine block_exit_ne rfl ?_) | ((with_reducible show AWP _ _ _ _ _); first | (with_reducible first | refine AWP.seq ?_ | refine AWP.block ?_ | refine AWP.region ?_ | refine AWP.ret ?_ | refine AWP.exit ?_ | refine AWP.skip ?_) | refine AWP.drawn rfl (by kernel_rfl) ?_ | refine AWP.cond rfl ?_ ?_) | with_reducible refine ev_nil ?_ | ((first | ((with_reducible show evOps _ _ _ _ _ _); (first | refine ev_step rfl ?_ | refine ev_undef rfl rfl rfl ?_); intro K hK) | ((with_reducible show EvOpen _ _ _ _ _ _ _); refine ev_open ?_; intro K hK) | ((with_reducible show SkOpen _ _ _ _ _ _ _); refine sk_open ?_; intro K hK) | ((with_reducible show callK _ _ _ _ _ _ _ _); first | fail)); simp only [evOp, evQ, evB, binK, withS, opd, kput, putS, upd, lookup, sz_strs, c_string, u_string, lenB_is, bparts, Nat.reduceEqDiff, Nat.reduceLT, Nat.mul_one, Nat.add_zero, ↓reduceIte, eq_self, true_and, Int.toNat_natCast]) | refine ev_guard rfl rfl rfl ?_ ?_ | ((with_reducible show retQ _ _ _ _); simp only [retQ, retOk, getL, lookup, Option.map_some, fitsL, fits, ND, srcs, Res.list, List.getElem?_cons_zero, Nat.reduceEqDiff, ↓reduceIte, and_true, true_and]) | (with_reducible refine hK _ ?_; clear hK K) | (with_reducible refine And.intro ?_ ?_) | (with_reducible intro hc; try simp only [decide_eq_true_eq, decide_eq_false_iff_not, Int.not_lt] at hc) | omega)
    all_goals try (exfalso; omega; done)
    refine AWP.loop_entR [0] (fun x : Nat × List Pt => ⟨[(0, .one (.pv (strs l))), (3, .one (.mp b (encA encP (sM x.2)))), (4, .one (.own 0 2 0 (PL (r * (lenB (stAt l 0)) + x.1)).length)), (5, sc (.int .i64 r)), (15, sc (.int .i64 l.length)), (16, sc (.int .i64 r)), (23, sc (.int .i64 (lenB (stAt l r)))), (24, sc (.int .i64 x.1))], [some (bparts (PL (r * (lenB (stAt l 0)) + x.1)))], 115⟩)
      (fun x => x.1 ≤ (lenB (stAt l 0)) ∧ SeenOk l.length (lenB (stAt l 0)) L (r * (lenB (stAt l 0)) + x.1) x.2) (fun x => (lenB (stAt l 0)) - x.1) (0, S) ⟨by omega, hS⟩ ?_ ?_
    · exact ⟨rfl, by decide, ⟨VE.rfl' _, ⟨rfl, rfl⟩, ⟨rfl, rfl, rfl, rfl⟩, rfl, rfl, rfl, rfl, rfl, trivial⟩, BE.rfl' _, trivial⟩
    rintro ⟨c, S1⟩ ⟨hc, hS1⟩
    change c ≤ (lenB (stAt l 0)) at hc
    change SeenOk l.length (lenB (stAt l 0)) L (r * (lenB (stAt l 0)) + c) S1 at hS1
    dsimp only
    by_cases hcl : c < (lenB (stAt l 0))
    · have ht : r * (lenB (stAt l 0)) + c < l.length * (lenB (stAt l 0)) := by omega
      have hlen := hPL (r * (lenB (stAt l 0)) + c) (by omega)
      have hgt := hgc r c hcl
      have hpt : ptP (lenB (stAt l 0)) (r * (lenB (stAt l 0)) + c) = ((r : Int), (c : Int)) := by unfold ptP; rw [dm_div hcl, dm_mod hcl]
      have hst := hsta _ _ ht hS1
      have hnx : r * (lenB (stAt l 0)) + (c + 1) = r * (lenB (stAt l 0)) + c + 1 := rfl
      repeat' (first | (with_reducible first | refine then_normal ?_ | refine then_ret ?_ | refine then_exit ?_ | refine block_normal ?_ | refine block_ret ?_) | ((with_reducible show blockQ _ _ _ _); first | refine block_exit ?_ | refine block_exit_ne rfl ?_) | ((with_reducible show AWP _ _ _ _ _); first | (with_reducible first | refine AWP.seq ?_ | refine AWP.block ?_ | refine AWP.region ?_ | refine AWP.ret ?_ | refine AWP.exit ?_ | refine AWP.skip ?_) | refine AWP.drawn rfl (by kernel_rfl) ?_ | refine AWP.cond rfl ?_ ?_) | with_reducible refine ev_nil ?_ | ((first | ((with_reducible show evOps _ _ _ _ _ _); (first | refine ev_step rfl ?_ | refine ev_undef rfl rfl rfl ?_); intro K hK) | ((with_reducible show EvOpen _ _ _ _ _ _ _); refine ev_open ?_; intro K hK) | ((with_reducible show SkOpen _ _ _ _ _ _ _); refine sk_open ?_; intro K hK) | ((with_reducible show callK _ _ _ _ _ _ _ _); first | fail)); simp only [evOp, evQ, binK, withS, opd, kput, putS, upd, lookup, InK_i64, storeK, frz, storeV, setBlk, newBlk, allocK, buildK, partsK, buildSliceK, plSlice, V.one, Value.oneCell', List.set_cons_zero, List.set_cons_succ, sz_strs, c_string, u_string, Nat.zero_le, lenB_is, byteI_is, bparts, z_part, pl_part, c_part, fp0, z_pt, pl_pt, fq0, fq1, ei_pts, ea_pts, List.getElem?_cons_zero, List.getElem?_cons_succ, List.nil_append, List.cons_append, List.length_cons, List.length_nil, Nat.reduceEqDiff, Nat.reduceAdd, Nat.reduceLT, Nat.reduceLeDiff, Nat.mul_one, Nat.one_mul, Nat.zero_mul, Nat.add_zero, Nat.zero_add, Nat.sub_zero, ↓reduceIte, eq_self, true_and, Int.toNat_natCast, Option.isSome_some]) | refine ev_guard rfl rfl rfl ?_ ?_ | ((with_reducible show retQ _ _ _ _); simp only [eq_self]) | (with_reducible refine hK _ ?_; clear hK K) | (with_reducible refine And.intro ?_ ?_) | (with_reducible intro hc; try simp only [decide_eq_true_eq, decide_eq_false_iff_not, Int.not_lt] at hc) | omega)
      all_goals try (exfalso; omega; done)
      all_goals try (rename_i q; rcases (show q = 0 ∨ q = 1 by omega) with rfl | rfl <;> rfl; done)
      refine AWP.loop_entR [0, 1, 2] (fun x : Bx => ⟨[(0, .one (.pv (strs l))), (3, .one (.mp b (encA encP (sM x.1)))), (4, .one (.own 0 2 0 (PL (r * (lenB (stAt l 0)) + c)).length)), (5, sc (.int .i64 r)), (7, .one (.ptr 1 0)), (8, qS2 x.2.1 x.2.2.2.1 x.2.2.2.2), (15, sc (.int .i64 l.length)), (16, sc (.int .i64 r)), (23, sc (.int .i64 (lenB (stAt l r)))), (24, sc (.int .i64 c))], [some (bparts (PL (r * (lenB (stAt l 0)) + c))), some (partBlk (g (r * (lenB (stAt l 0)) + c)) x.2.2.1), qB2 x.2.1 x.2.2.2.1], 115⟩)
        (fun x => BfI l.length (lenB (stAt l 0)) g L (r * (lenB (stAt l 0)) + c) S1 x.1 x.2.1 x.2.2.1 ∧ qOk2 x.2.1 x.2.2.2.1) (fun x => bfM l.length (lenB (stAt l 0)) x.1 x.2.1) (S1, [ptP (lenB (stAt l 0)) (r * (lenB (stAt l 0)) + c)], 0, some (0, fun i => if i = 0 then (r : Int) else (c : Int)), none) ⟨hst, by rw [hpt]; exact qOk2.one ((r : Int), (c : Int))⟩ ?_ ?_
      · refine ⟨rfl, by decide, ⟨VE.rfl' _, ⟨rfl, rfl⟩, ⟨rfl, rfl, rfl, rfl⟩, rfl, ⟨rfl, rfl⟩, ⟨rfl, rfl, rfl, rfl⟩, rfl, rfl, rfl, rfl, trivial⟩, BE.rfl' _, two_be (Nat.le_refl _) (by rw [hgt]; rfl) rfl, two_be (Nat.le_refl _) rfl rfl, trivial⟩
      rintro ⟨S, Q, m, al, A⟩ ⟨hI, hQ⟩
      change BfI l.length (lenB (stAt l 0)) g L (r * (lenB (stAt l 0)) + c) S1 S Q m at hI
      change qOk2 Q al at hQ
      dsimp only
      have hlQ := hI.len
      cases Q with
      | nil =>
        obtain ⟨hS2, hcase⟩ := hfin _ _ _ _ ht hS1 hI
        generalize hT : r * (lenB (stAt l 0)) + c = T at *
        rcases al with _ | ⟨off, g0⟩
        · show AWP _ _ _ _ ⟨[(0, .one (.pv (strs l))), (3, .one (.mp b (encA encP (sM S)))), (4, .one (.own 0 2 0 (PL T).length)), (5, sc (.int .i64 r)), (7, .one (.ptr 1 0)), (8, sc (.slice A 0 0)), (15, sc (.int .i64 l.length)), (16, sc (.int .i64 r)), (23, sc (.int .i64 (lenB (stAt l r)))), (24, sc (.int .i64 c))], [some (bparts (PL T)), some (partBlk (g T) m), none], 115⟩
          rcases hcase with ⟨hm, hPn⟩ | ⟨hm, hPn⟩
          · repeat' (first | ((with_reducible show Ax _ _ _ _ _); (refine ax_lenD rfl (by simp [sz_pts]) (Nat.le_of_ble_eq_true rfl) ?_ ; simp only [putS, upd, partBlk, bparts, Nat.reduceEqDiff, ↓reduceIte])) | ((with_reducible show evNx _ _ _ _ _ _); first | (with_reducible refine nx_done ?_) | (refine nx_one rfl ?_) | (refine nx_alt rfl ?_ ?_) | (with_reducible refine nx_st ?_)) | ((with_reducible show evSx _ _ _ _ _ _); first | (with_reducible refine sx_done ?_) | (with_reducible refine sx_st ?_) | (with_reducible refine sx_op ?_)) | ((with_reducible show evTake _ _ _ _ _); with_reducible refine take_nil ?_) | ((with_reducible show evSy _ _ _ _ _ _ _); first | (with_reducible refine sy_done ?_) | (refine sy_last rfl ?_) | (refine sy_one (by decide) rfl ?_) | (refine sy_alt (by decide) rfl ?_ ?_) | (with_reducible refine sy_st ?_)) | ((with_reducible show StK _ _ _); first | fail) | (with_reducible first | refine then_normal ?_ | refine then_ret ?_ | refine then_exit ?_ | refine block_normal ?_ | refine block_ret ?_) | ((with_reducible show blockQ _ _ _ _); first | refine block_exit ?_ | refine block_exit_ne rfl ?_) | ((with_reducible show AWP _ _ _ _ _); first | (refine AWP.region_sx (id := 11) [.op, .op, .op] ?_) | (with_reducible first | refine AWP.seq ?_ | refine AWP.block ?_ | refine AWP.region ?_ | refine AWP.ret ?_ | refine AWP.exit ?_ | refine AWP.skip ?_) | refine AWP.drawn rfl (by kernel_rfl) ?_ | refine AWP.cond rfl ?_ ?_) | with_reducible refine ev_nil ?_ | ((first | ((with_reducible show evNx _ _ _ _ _ _); refine nx_take rfl ?_; intro K hK) | ((with_reducible show Ax _ _ _ _ _); first | (refine ax_op rfl ?_; intro K hK)) | ((with_reducible show evTake _ _ _ _ _); refine take_step rfl ?_; intro K hK) | ((with_reducible show evSy _ _ _ _ _ _ _); refine sy_take rfl ?_; intro K hK) | ((with_reducible show AxB _ _ _ _ _); first | (refine axb_op rfl rfl ?_; intro K hK)) | ((with_reducible show evOps _ _ _ _ _ _); (first | refine ev_step rfl ?_ | refine ev_undef rfl rfl rfl ?_); intro K hK) | ((with_reducible show EvOpen _ _ _ _ _ _ _); refine ev_open ?_; intro K hK) | ((with_reducible show SkOpen _ _ _ _ _ _ _); refine sk_open ?_; intro K hK) | ((with_reducible show callK _ _ _ _ _ _ _ _); first  | fail)); simp only [evOp, evQ, binK, withS, opd, kput, putS, upd, lookup, loadOwn, InK_i64, appendK, srcK, growK, frz, newBlk, partsK, buildSliceK, plSlice, List.set_cons_zero, c_int, Nat.zero_le, partBlk, bparts, c_part, fp1, ei_parts, ea_parts, List.getElem?_cons_zero, List.getElem?_cons_succ, List.nil_append, List.cons_append, List.length_cons, List.length_nil, Nat.reduceEqDiff, Nat.reduceAdd, Nat.reduceLT, Nat.reduceLeDiff, Nat.one_mul, Nat.zero_mul, Nat.zero_add, Nat.sub_zero, ↓reduceIte, eq_self, true_and]) | refine ev_guard rfl rfl rfl ?_ ?_ | ((with_reducible show retQ _ _ _ _); simp only [eq_self]) | (with_reducible refine hK _ ?_; clear hK K) | (with_reducible refine And.intro ?_ ?_) | (with_reducible intro hc; try simp only [decide_eq_true_eq, decide_eq_false_iff_not, Int.not_lt, gt_iff_lt] at hc) | omega)
            all_goals first
              | (exfalso; omega)
              | rfl
              | exact partF_one _ _
              | (simp; omega; done)
              | (rename_i q; rcases (show q = 0 ∨ q = 1 by omega) with rfl | rfl <;> rfl; done)
              | (refine ⟨(c + 1, S), ⟨by show c + 1 ≤ (lenB (stAt l 0)); omega, by show SeenOk _ _ L (r * (lenB (stAt l 0)) + (c + 1)) S; rw [hnx]; exact hS2⟩, by show (lenB (stAt l 0)) - (c + 1) < (lenB (stAt l 0)) - c; omega, [4], rfl, by decide, ⟨VE.rfl' _, ⟨rfl, rfl⟩, ⟨rfl, rfl, rfl, ?_⟩, rfl, rfl, rfl, rfl, rfl, trivial⟩, ?_, trivial⟩
                 · show (PL T).length + 1 = (PL (r * (lenB (stAt l 0)) + (c + 1))).length; rw [hnx, hPn]; simp
                 · show BE _ (bparts (PL (r * (lenB (stAt l 0)) + (c + 1)))); rw [hnx, hPn]
                   exact parts_be (by omega) (fun i hi => if_pos hi) (by rw [if_neg (by omega), Nat.sub_self]; rfl) (by rw [if_neg (by omega), show (PL T).length * 2 + 1 - (PL T).length * 2 = 1 by omega]; rfl))
              | trace_state
          · subst hm
            repeat' (first | ((with_reducible show Ax _ _ _ _ _); (refine ax_lenD rfl (by simp [sz_pts]) (Nat.le_of_ble_eq_true rfl) ?_ ; simp only [putS, upd, partBlk, bparts, Nat.reduceEqDiff, ↓reduceIte])) | ((with_reducible show evNx _ _ _ _ _ _); first | (with_reducible refine nx_done ?_) | (refine nx_one rfl ?_) | (refine nx_alt rfl ?_ ?_) | (with_reducible refine nx_st ?_)) | ((with_reducible show evSx _ _ _ _ _ _); first | (with_reducible refine sx_done ?_) | (with_reducible refine sx_st ?_) | (with_reducible refine sx_op ?_)) | ((with_reducible show evTake _ _ _ _ _); with_reducible refine take_nil ?_) | ((with_reducible show evSy _ _ _ _ _ _ _); first | (with_reducible refine sy_done ?_) | (refine sy_last rfl ?_) | (refine sy_one (by decide) rfl ?_) | (refine sy_alt (by decide) rfl ?_ ?_) | (with_reducible refine sy_st ?_)) | ((with_reducible show StK _ _ _); first | fail) | (with_reducible first | refine then_normal ?_ | refine then_ret ?_ | refine then_exit ?_ | refine block_normal ?_ | refine block_ret ?_) | ((with_reducible show blockQ _ _ _ _); first | refine block_exit ?_ | refine block_exit_ne rfl ?_) | ((with_reducible show AWP _ _ _ _ _); first | (refine AWP.region_sx (id := 11) [.op, .op, .op] ?_) | (with_reducible first | refine AWP.seq ?_ | refine AWP.block ?_ | refine AWP.region ?_ | refine AWP.ret ?_ | refine AWP.exit ?_ | refine AWP.skip ?_) | refine AWP.drawn rfl (by kernel_rfl) ?_ | refine AWP.cond rfl ?_ ?_) | with_reducible refine ev_nil ?_ | ((first | ((with_reducible show evNx _ _ _ _ _ _); refine nx_take rfl ?_; intro K hK) | ((with_reducible show Ax _ _ _ _ _); first | (refine ax_op rfl ?_; intro K hK)) | ((with_reducible show evTake _ _ _ _ _); refine take_step rfl ?_; intro K hK) | ((with_reducible show evSy _ _ _ _ _ _ _); refine sy_take rfl ?_; intro K hK) | ((with_reducible show AxB _ _ _ _ _); first | (refine axb_op rfl rfl ?_; intro K hK)) | ((with_reducible show evOps _ _ _ _ _ _); (first | refine ev_step rfl ?_ | refine ev_undef rfl rfl rfl ?_); intro K hK) | ((with_reducible show EvOpen _ _ _ _ _ _ _); refine ev_open ?_; intro K hK) | ((with_reducible show SkOpen _ _ _ _ _ _ _); refine sk_open ?_; intro K hK) | ((with_reducible show callK _ _ _ _ _ _ _ _); first  | fail)); simp only [evOp, evQ, binK, withS, opd, kput, putS, upd, lookup, loadOwn, InK_i64, appendK, srcK, growK, frz, newBlk, partsK, buildSliceK, plSlice, List.set_cons_zero, c_int, Nat.zero_le, partBlk, bparts, c_part, fp1, ei_parts, ea_parts, List.getElem?_cons_zero, List.getElem?_cons_succ, List.nil_append, List.cons_append, List.length_cons, List.length_nil, Nat.reduceEqDiff, Nat.reduceAdd, Nat.reduceLT, Nat.reduceLeDiff, Nat.one_mul, Nat.zero_mul, Nat.zero_add, Nat.sub_zero, ↓reduceIte, eq_self, true_and]) | refine ev_guard rfl rfl rfl ?_ ?_ | ((with_reducible show retQ _ _ _ _); simp only [eq_self]) | (with_reducible refine hK _ ?_; clear hK K) | (with_reducible refine And.intro ?_ ?_) | (with_reducible intro hc; try simp only [decide_eq_true_eq, decide_eq_false_iff_not, Int.not_lt, gt_iff_lt] at hc) | omega)
            all_goals first
              | (exfalso; omega)
              | (refine ⟨(c + 1, S), ⟨by show c + 1 ≤ (lenB (stAt l 0)); omega, by show SeenOk _ _ L (r * (lenB (stAt l 0)) + (c + 1)) S; rw [hnx]; exact hS2⟩, by show (lenB (stAt l 0)) - (c + 1) < (lenB (stAt l 0)) - c; omega, [0], rfl, by decide, ⟨VE.rfl' _, ⟨rfl, rfl⟩, ⟨rfl, rfl, rfl, ?_⟩, rfl, rfl, rfl, rfl, rfl, trivial⟩, ?_, trivial⟩
                 · show (PL T).length = (PL (r * (lenB (stAt l 0)) + (c + 1))).length; rw [hnx, hPn]
                 · show BE _ (bparts (PL (r * (lenB (stAt l 0)) + (c + 1)))); rw [hnx, hPn]; exact BE.rfl' _)
              | trace_state
        · show AWP _ _ _ _ ⟨[(0, .one (.pv (strs l))), (3, .one (.mp b (encA encP (sM S)))), (4, .one (.own 0 2 0 (PL T).length)), (5, sc (.int .i64 r)), (7, .one (.ptr 1 0)), (8, .one (.own 2 2 off 0)), (15, sc (.int .i64 l.length)), (16, sc (.int .i64 r)), (23, sc (.int .i64 (lenB (stAt l r)))), (24, sc (.int .i64 c))], [some (bparts (PL T)), some (partBlk (g T) m), some ⟨133, off + 0 * 2, fun i => vi (g0 i)⟩], 115⟩
          rcases hcase with ⟨hm, hPn⟩ | ⟨hm, hPn⟩
          · repeat' (first | (with_reducible first | refine then_normal ?_ | refine then_ret ?_ | refine then_exit ?_ | refine block_normal ?_ | refine block_ret ?_) | ((with_reducible show blockQ _ _ _ _); first | refine block_exit ?_ | refine block_exit_ne rfl ?_) | ((with_reducible show AWP _ _ _ _ _); first | (with_reducible first | refine AWP.seq ?_ | refine AWP.block ?_ | refine AWP.region ?_ | refine AWP.ret ?_ | refine AWP.exit ?_ | refine AWP.skip ?_) | refine AWP.drawn rfl (by kernel_rfl) ?_ | refine AWP.cond rfl ?_ ?_) | with_reducible refine ev_nil ?_ | ((first | ((with_reducible show evOps _ _ _ _ _ _); (first | refine ev_step rfl ?_ | refine ev_undef rfl rfl rfl ?_); intro K hK) | ((with_reducible show EvOpen _ _ _ _ _ _ _); refine ev_open ?_; intro K hK) | ((with_reducible show SkOpen _ _ _ _ _ _ _); refine sk_open ?_; intro K hK) | ((with_reducible show callK _ _ _ _ _ _ _ _); first | fail)); simp only [evOp, evQ, evB, binK, withS, opd, kput, putS, upd, lookup, loadOwn, InK_i64, appendK, srcK, growK, storeK, frz, storeV, setBlk, newBlk, allocK, partsK, buildSliceK, plSlice, cutK, boundK, V.one, Value.oneCell', List.set_cons_zero, List.set_cons_succ, c_int, Nat.zero_le, partBlk, bparts, c_part, fp1, z_pt, c_pt, sz_pts, ei_parts, ea_parts, List.getElem?_cons_zero, List.getElem?_cons_succ, List.nil_append, List.cons_append, List.length_cons, List.length_nil, Nat.reduceEqDiff, Nat.reduceAdd, Nat.reduceLT, Nat.reduceLeDiff, Nat.one_mul, Nat.zero_mul, Nat.add_zero, Nat.zero_add, Nat.sub_zero, ↓reduceIte, eq_self, true_and, forall_const, implies_true, Int.toNat_zero, Option.isSome_some]) | refine ev_guard rfl rfl rfl ?_ ?_ | ((with_reducible show retQ _ _ _ _); simp only [eq_self]) | (with_reducible refine hK _ ?_; clear hK K) | (with_reducible refine And.intro ?_ ?_) | (with_reducible intro hc; try simp only [decide_eq_true_eq, decide_eq_false_iff_not, Int.not_lt, gt_iff_lt] at hc) | omega)
            all_goals first
              | (exfalso; omega)
              | rfl
              | exact partF_one _ _
              | (simp; omega; done)
              | (rename_i q; rcases (show q = 0 ∨ q = 1 by omega) with rfl | rfl <;> rfl; done)
              | (refine ⟨(c + 1, S), ⟨by show c + 1 ≤ (lenB (stAt l 0)); omega, by show SeenOk _ _ L (r * (lenB (stAt l 0)) + (c + 1)) S; rw [hnx]; exact hS2⟩, by show (lenB (stAt l 0)) - (c + 1) < (lenB (stAt l 0)) - c; omega, [4], rfl, by decide, ⟨VE.rfl' _, ⟨rfl, rfl⟩, ⟨rfl, rfl, rfl, ?_⟩, rfl, rfl, rfl, rfl, rfl, trivial⟩, ?_, trivial⟩
                 · show (PL T).length + 1 = (PL (r * (lenB (stAt l 0)) + (c + 1))).length; rw [hnx, hPn]; simp
                 · show BE _ (bparts (PL (r * (lenB (stAt l 0)) + (c + 1)))); rw [hnx, hPn]
                   exact parts_be (by omega) (fun i hi => if_pos hi) (by rw [if_neg (by omega), Nat.sub_self]; rfl) (by rw [if_neg (by omega), show (PL T).length * 2 + 1 - (PL T).length * 2 = 1 by omega]; rfl))
              | trace_state
          · subst hm
            repeat' (first | (with_reducible first | refine then_normal ?_ | refine then_ret ?_ | refine then_exit ?_ | refine block_normal ?_ | refine block_ret ?_) | ((with_reducible show blockQ _ _ _ _); first | refine block_exit ?_ | refine block_exit_ne rfl ?_) | ((with_reducible show AWP _ _ _ _ _); first | (with_reducible first | refine AWP.seq ?_ | refine AWP.block ?_ | refine AWP.region ?_ | refine AWP.ret ?_ | refine AWP.exit ?_ | refine AWP.skip ?_) | refine AWP.drawn rfl (by kernel_rfl) ?_ | refine AWP.cond rfl ?_ ?_) | with_reducible refine ev_nil ?_ | ((first | ((with_reducible show evOps _ _ _ _ _ _); (first | refine ev_step rfl ?_ | refine ev_undef rfl rfl rfl ?_); intro K hK) | ((with_reducible show EvOpen _ _ _ _ _ _ _); refine ev_open ?_; intro K hK) | ((with_reducible show SkOpen _ _ _ _ _ _ _); refine sk_open ?_; intro K hK) | ((with_reducible show callK _ _ _ _ _ _ _ _); first | fail)); simp only [evOp, evQ, evB, binK, withS, opd, kput, putS, upd, lookup, loadOwn, InK_i64, appendK, srcK, growK, storeK, frz, storeV, setBlk, newBlk, allocK, partsK, buildSliceK, plSlice, cutK, boundK, V.one, Value.oneCell', List.set_cons_zero, List.set_cons_succ, c_int, Nat.zero_le, partBlk, bparts, c_part, fp1, z_pt, c_pt, sz_pts, ei_parts, ea_parts, List.getElem?_cons_zero, List.getElem?_cons_succ, List.nil_append, List.cons_append, List.length_cons, List.length_nil, Nat.reduceEqDiff, Nat.reduceAdd, Nat.reduceLT, Nat.reduceLeDiff, Nat.one_mul, Nat.zero_mul, Nat.add_zero, Nat.zero_add, Nat.sub_zero, ↓reduceIte, eq_self, true_and, forall_const, implies_true, Int.toNat_zero, Option.isSome_some]) | refine ev_guard rfl rfl rfl ?_ ?_ | ((with_reducible show retQ _ _ _ _); simp only [eq_self]) | (with_reducible refine hK _ ?_; clear hK K) | (with_reducible refine And.intro ?_ ?_) | (with_reducible intro hc; try simp only [decide_eq_true_eq, decide_eq_false_iff_not, Int.not_lt, gt_iff_lt] at hc) | omega)
            all_goals first
              | (exfalso; omega)
              | (refine ⟨(c + 1, S), ⟨by show c + 1 ≤ (lenB (stAt l 0)); omega, by show SeenOk _ _ L (r * (lenB (stAt l 0)) + (c + 1)) S; rw [hnx]; exact hS2⟩, by show (lenB (stAt l 0)) - (c + 1) < (lenB (stAt l 0)) - c; omega, [0], rfl, by decide, ⟨VE.rfl' _, ⟨rfl, rfl⟩, ⟨rfl, rfl, rfl, ?_⟩, rfl, rfl, rfl, rfl, rfl, trivial⟩, ?_, trivial⟩
                 · show (PL T).length = (PL (r * (lenB (stAt l 0)) + (c + 1))).length; rw [hnx, hPn]
                 · show BE _ (bparts (PL (r * (lenB (stAt l 0)) + (c + 1)))); rw [hnx, hPn]; exact BE.rfl' _)
              | trace_state
      | cons q Q =>
        rcases al with _ | ⟨off, g0⟩
        · exact absurd (hQ.1 rfl) (by simp)
        have hqb := hI.qb ht q (by simp)
        obtain ⟨hg0, hg1, hQ2⟩ := hQ.pop
        have hql : Q.length + 1 ≤ 2000 := by have := hlQ.1; simp only [List.length_cons] at this; omega
        have hm256 := hlQ.2
        show AWP _ _ _ _ ⟨[(0, .one (.pv (strs l))), (3, .one (.mp b (encA encP (sM S)))), (4, .one (.own 0 2 0 (PL (r * (lenB (stAt l 0)) + c)).length)), (5, sc (.int .i64 r)), (7, .one (.ptr 1 0)), (8, .one (.own 2 2 off (Q.length + 1))), (15, sc (.int .i64 l.length)), (16, sc (.int .i64 r)), (23, sc (.int .i64 (lenB (stAt l r)))), (24, sc (.int .i64 c))], [some (bparts (PL (r * (lenB (stAt l 0)) + c))), some (partBlk (g (r * (lenB (stAt l 0)) + c)) m), some ⟨133, off + (Q.length + 1) * 2, fun i => vi (g0 i)⟩], 115⟩
        repeat' (first | (with_reducible first | refine then_normal ?_ | refine then_ret ?_ | refine then_exit ?_ | refine block_normal ?_ | refine block_ret ?_) | ((with_reducible show blockQ _ _ _ _); first | refine block_exit ?_ | refine block_exit_ne rfl ?_) | ((with_reducible show AWP _ _ _ _ _); first | (refine AWP.holdP (id := 13) ?_) | (with_reducible first | refine AWP.seq ?_ | refine AWP.block ?_ | refine AWP.region ?_ | refine AWP.ret ?_ | refine AWP.exit ?_ | refine AWP.skip ?_) | refine AWP.drawn rfl (by kernel_rfl) ?_ | refine AWP.cond rfl ?_ ?_) | with_reducible refine ev_nil ?_ | ((first | ((with_reducible show evOps _ _ _ _ _ _); (first | refine ev_step rfl ?_ | refine ev_undef rfl rfl rfl ?_); intro K hK) | ((with_reducible show EvOpen _ _ _ _ _ _ _); refine ev_open ?_; intro K hK) | ((with_reducible show SkOpen _ _ _ _ _ _ _); refine sk_open ?_; intro K hK) | ((with_reducible show callK _ _ _ _ _ _ _ _); first  | fail)); simp only [evOp, evQ, evB, binK, withS, opd, kput, putS, upd, lookup, loadOwn, InK_i64, appendK, srcK, growK, storeK, frz, storeV, setBlk, newBlk, allocK, partsK, buildSliceK, plSlice, V.one, Value.oneCell', List.set_cons_zero, List.set_cons_succ, c_int, Nat.zero_le, partBlk, bparts, c_part, fp1, z_pt, c_pt, sz_pts, ei_parts, ea_parts, List.getElem?_cons_zero, List.getElem?_cons_succ, List.nil_append, List.cons_append, List.length_cons, List.length_nil, Nat.reduceEqDiff, Nat.reduceAdd, Nat.reduceLT, Nat.reduceLeDiff, Nat.one_mul, Nat.zero_mul, Nat.add_zero, Nat.zero_add, Nat.sub_zero, ↓reduceIte, eq_self, true_and, forall_const, implies_true, Int.toNat_zero, Option.isSome_some]) | refine ev_guard rfl rfl rfl ?_ ?_ | ((with_reducible show retQ _ _ _ _); simp only [eq_self]) | (with_reducible refine hK _ ?_; clear hK K) | (with_reducible refine And.intro ?_ ?_) | (with_reducible intro hc; try simp only [decide_eq_true_eq, decide_eq_false_iff_not, Int.not_lt, gt_iff_lt] at hc) | omega)
        all_goals try (exfalso; omega; done)
        unfold HoldP
        refine AWP.seq_cutXr (id := 13) (fun y : Qg × Option Addr => ⟨[(0, .one (.pv (strs l))), (3, .one (.mp b (encA encP (sM S)))), (4, .one (.own 0 2 0 (PL (r * (lenB (stAt l 0)) + c)).length)), (5, sc (.int .i64 r)), (7, .one (.ptr 1 0)), (8, qS2 Q y.1 y.2), (9, .one (.ptr 3 0)), (15, sc (.int .i64 l.length)), (16, sc (.int .i64 r)), (23, sc (.int .i64 (lenB (stAt l r)))), (24, sc (.int .i64 c))], [some (bparts (PL (r * (lenB (stAt l 0)) + c))), some (partBlk (g (r * (lenB (stAt l 0)) + c)) m), qB2 Q y.1, some (ptBlk q)], 115⟩) (fun y => qOk2 Q y.1) ?_ ?_
        · repeat' (first | ((with_reducible show Ax _ _ _ _ _); (refine ax_cutS rfl sz_pts (by omega) rfl ?_ ?_ ; all_goals (try intro hq1 A1) ; all_goals simp only [putS, upd, partBlk, ptBlk, bparts, Nat.reduceEqDiff, ↓reduceIte])) | ((with_reducible show evNx _ _ _ _ _ _); first | (with_reducible refine nx_done ?_) | (refine nx_one rfl ?_) | (refine nx_alt rfl ?_ ?_) | (with_reducible refine nx_st ?_)) | ((with_reducible show evSx _ _ _ _ _ _); first | (with_reducible refine sx_done ?_) | (with_reducible refine sx_st ?_) | (with_reducible refine sx_op ?_)) | ((with_reducible show evTake _ _ _ _ _); with_reducible refine take_nil ?_) | ((with_reducible show evSy _ _ _ _ _ _ _); first | (with_reducible refine sy_done ?_) | (refine sy_last rfl ?_) | (refine sy_one (by decide) rfl ?_) | (refine sy_alt (by decide) rfl ?_ ?_) | (with_reducible refine sy_st ?_)) | ((with_reducible show StK _ _ _); first | fail) | (with_reducible first | refine then_normal ?_ | refine then_ret ?_ | refine then_exit ?_ | refine block_normal ?_ | refine block_ret ?_) | ((with_reducible show blockQ _ _ _ _); first | refine block_exit ?_ | refine block_exit_ne rfl ?_) | ((with_reducible show AWP _ _ _ _ _); first | (refine AWP.region_sx (id := 13) [.op, .op, .op] ?_) | (with_reducible first | refine AWP.seq ?_ | refine AWP.block ?_ | refine AWP.region ?_ | refine AWP.ret ?_ | refine AWP.exit ?_ | refine AWP.skip ?_) | refine AWP.drawn rfl (by kernel_rfl) ?_ | refine AWP.cond rfl ?_ ?_) | with_reducible refine ev_nil ?_ | ((first | ((with_reducible show evNx _ _ _ _ _ _); refine nx_take rfl ?_; intro K hK) | ((with_reducible show Ax _ _ _ _ _); first | (refine ax_op rfl ?_; intro K hK)) | ((with_reducible show evTake _ _ _ _ _); refine take_step rfl ?_; intro K hK) | ((with_reducible show evSy _ _ _ _ _ _ _); refine sy_take rfl ?_; intro K hK) | ((with_reducible show AxB _ _ _ _ _); first | (refine axb_op rfl rfl ?_; intro K hK)) | ((with_reducible show evOps _ _ _ _ _ _); (first | refine ev_step rfl ?_ | refine ev_undef rfl rfl rfl ?_); intro K hK) | ((with_reducible show EvOpen _ _ _ _ _ _ _); refine ev_open ?_; intro K hK) | ((with_reducible show SkOpen _ _ _ _ _ _ _); refine sk_open ?_; intro K hK) | ((with_reducible show callK _ _ _ _ _ _ _ _); first  | fail)); simp only [evOp, evQ, withS, opd, kput, putS, upd, lookup, Nat.reduceEqDiff, Nat.reduceLT, ↓reduceIte, eq_self, true_and]) | refine ev_guard rfl rfl rfl ?_ ?_ | ((with_reducible show retQ _ _ _ _); simp only [eq_self]) | (with_reducible refine hK _ ?_; clear hK K) | (with_reducible refine And.intro ?_ ?_) | (with_reducible intro hc; try simp only [eq_self] at hc) | omega)
          · exact ⟨(some (off + 2, g0), none), hQ2, [0, 1, 2, 3], rfl, by decide, ⟨VE.rfl' _, ⟨rfl, rfl⟩, ⟨rfl, rfl, rfl, rfl⟩, rfl, ⟨rfl, rfl⟩, ⟨rfl, rfl, rfl, rfl⟩, ⟨rfl, rfl⟩, rfl, rfl, rfl, rfl, trivial⟩, BE.rfl' _, BE.rfl' _, ⟨rfl, by show off + 2 + Q.length * 2 ≤ off + (Q.length + 1) * 2; omega, fun i hi => VE.rfl' _⟩, two_be (Nat.le_refl _) (by show vi (g0 (off + 0)) = vi q.1; rw [Nat.add_zero, hg0]) (by show vi (g0 (off + 1)) = vi q.2; rw [hg1]), trivial⟩
          · exact ⟨(none, A1), ⟨fun _ => List.eq_nil_of_length_eq_zero (by omega), fun off g h => (nomatch h)⟩, [0, 1, 2, 3], rfl, by decide, ⟨VE.rfl' _, ⟨rfl, rfl⟩, ⟨rfl, rfl, rfl, rfl⟩, rfl, ⟨rfl, rfl⟩, VE.rfl' _, ⟨rfl, rfl⟩, rfl, rfl, rfl, rfl, trivial⟩, BE.rfl' _, BE.rfl' _, two_be (Nat.le_refl _) (by show vi (g0 (off + 0)) = vi q.1; rw [Nat.add_zero, hg0]) (by show vi (g0 (off + 1)) = vi q.2; rw [hg1]), trivial⟩
        unfold Later
        rintro ⟨al, A⟩ hQ3
        change qOk2 Q al at hQ3
        dsimp only
        by_cases hgo : q ∉ S ∧ inP l.length (lenB (stAt l 0)) q ∧ g (ixP (lenB (stAt l 0)) q) = g (r * (lenB (stAt l 0)) + c)
        · obtain ⟨hqS, hin, hgq⟩ := hgo
          have hin' := hin
          obtain ⟨hi1, hi2, hi3, hi4⟩ := hin'
          have hlet := hgx q hin
          rw [hgq] at hlet
          have hlq := hp3 q.1.toNat (by omega)
          have hI2 := hadd _ _ _ _ _ _ ht hS1 hI hqS hin hgq
          have hmes := bfM_add (H := l.length) (W := (lenB (stAt l 0))) (S := S) (Q := Q) hin hqS
          repeat' (first | ((with_reducible show lookupK _ _ _ _ _ _) ; refine lookup_go (l := sM S) q rfl rfl (isv_pt q rfl rfl) key_pt u_mpt zv_bool ?_ ; rw [getD_sM] ; simp only [kput, putS, upd, Nat.reduceEqDiff, ↓reduceIte]) | (with_reducible first | refine then_normal ?_ | refine then_ret ?_ | refine then_exit ?_ | refine block_normal ?_ | refine block_ret ?_) | ((with_reducible show blockQ _ _ _ _); first | refine block_exit ?_ | refine block_exit_ne rfl ?_) | ((with_reducible show AWP _ _ _ _ _); first | (refine AWP.holdP (id := 15) ?_) | (with_reducible first | refine AWP.seq ?_ | refine AWP.block ?_ | refine AWP.region ?_ | refine AWP.ret ?_ | refine AWP.exit ?_ | refine AWP.skip ?_) | refine AWP.drawn rfl (by kernel_rfl) ?_ | refine AWP.cond rfl ?_ ?_) | with_reducible refine ev_nil ?_ | ((first | ((with_reducible show evOps _ _ _ _ _ _); (first | refine ev_step rfl ?_ | refine ev_undef rfl rfl rfl ?_); intro K hK) | ((with_reducible show EvOpen _ _ _ _ _ _ _); refine ev_open ?_; intro K hK) | ((with_reducible show SkOpen _ _ _ _ _ _ _); refine sk_open ?_; intro K hK) | ((with_reducible show callK _ _ _ _ _ _ _ _); first  | (refine call_scalar (within_fn _ _ _) (Nat.le_of_ble_eq_true rfl) rfl ?_))); simp only [evOp, evQ, evB, binK, withS, opd, kput, putS, upd, lookup, skipOp, argsK, loadOwn, bringIn, bring, Res.list, Res.slot, InK_i64, c_int, sz_strs, c_string, u_string, c_u8, lenB_is, byteI_is, partBlk, ptBlk, bparts, fp0, c_pt, fq0, fq1, List.getElem?_cons_zero, List.getElem?_cons_succ, List.reverse_cons, List.reverse_nil, List.nil_append, List.cons_append, Nat.reduceEqDiff, Nat.reduceLT, Nat.reduceLeDiff, Nat.mul_one, Nat.add_zero, Nat.zero_add, ↓reduceIte, eq_self, true_and, and_true, Bool.not_false, Bool.true_eq_false, Bool.false_eq_true, false_implies, forall_const, Int.toNat_zero, Option.isSome_some]) | refine ev_guard rfl rfl rfl ?_ ?_ | ((with_reducible show retQ _ _ _ _); simp only [eq_self]) | (with_reducible refine hK _ ?_; clear hK K) | (with_reducible refine And.intro ?_ ?_) | (with_reducible intro hc; try simp only [decide_eq_true_eq, decide_eq_false_iff_not, bne_iff_ne, bne_eq_false_iff_eq, Bool.not_eq_true', Bool.not_eq_false', Bool.not_false, ne_eq, reduceCtorEq, inB_true, inB_false, Bool.true_eq_false] at hc) | omega)
          all_goals try (exfalso; omega; done)
          all_goals try (exfalso; simp_all; done)
          unfold HoldP
          repeat' (first | ((with_reducible show Ax _ _ _ _ _); ((with_reducible show Ax _ _ _ (Oper.mk _ (Op.mapUpdate _ _ _ _) _ _ _ _) _) ; refine ax_mapUpdate (l := sM S) q rfl rfl (isv_pt q rfl rfl) rfl key_pt u_mpt hbN ?_ ; rw [putA_sM hqS] ; simp only [swM, swSM_pv, swSM_own, swSM_ptr, swSM_pin, swSM_mp, swSM_q2, partBlk, bparts])) | ((with_reducible show evNx _ _ _ _ _ _); first | (with_reducible refine nx_done ?_) | (refine nx_one rfl ?_) | (refine nx_alt rfl ?_ ?_) | (with_reducible refine nx_st ?_)) | ((with_reducible show evSx _ _ _ _ _ _); first | (with_reducible refine sx_done ?_) | (with_reducible refine sx_st ?_) | (with_reducible refine sx_op ?_)) | ((with_reducible show evTake _ _ _ _ _); with_reducible refine take_nil ?_) | ((with_reducible show evSy _ _ _ _ _ _ _); first | (with_reducible refine sy_done ?_) | (refine sy_last rfl ?_) | (refine sy_one (by decide) rfl ?_) | (refine sy_alt (by decide) rfl ?_ ?_) | (with_reducible refine sy_st ?_)) | ((with_reducible show StK _ _ _); first | fail) | (with_reducible first | refine then_normal ?_ | refine then_ret ?_ | refine then_exit ?_ | refine block_normal ?_ | refine block_ret ?_) | ((with_reducible show blockQ _ _ _ _); first | refine block_exit ?_ | refine block_exit_ne rfl ?_) | ((with_reducible show AWP _ _ _ _ _); first | (refine AWP.region_sx (id := 15) [.op, .op, .op] ?_) | (with_reducible first | refine AWP.seq ?_ | refine AWP.block ?_ | refine AWP.region ?_ | refine AWP.ret ?_ | refine AWP.exit ?_ | refine AWP.skip ?_) | refine AWP.drawn rfl (by kernel_rfl) ?_ | refine AWP.cond rfl ?_ ?_) | with_reducible refine ev_nil ?_ | ((first | ((with_reducible show evNx _ _ _ _ _ _); refine nx_take rfl ?_; intro K hK) | ((with_reducible show Ax _ _ _ _ _); first | (refine ax_op rfl ?_; intro K hK)) | ((with_reducible show evTake _ _ _ _ _); refine take_step rfl ?_; intro K hK) | ((with_reducible show evSy _ _ _ _ _ _ _); refine sy_take rfl ?_; intro K hK) | ((with_reducible show AxB _ _ _ _ _); first | (refine axb_op rfl rfl ?_; intro K hK)) | ((with_reducible show evOps _ _ _ _ _ _); (first | refine ev_step rfl ?_ | refine ev_undef rfl rfl rfl ?_); intro K hK) | ((with_reducible show EvOpen _ _ _ _ _ _ _); refine ev_open ?_; intro K hK) | ((with_reducible show SkOpen _ _ _ _ _ _ _); refine sk_open ?_; intro K hK) | ((with_reducible show callK _ _ _ _ _ _ _ _); first  | fail)); simp only [evOp, evQ, evB, binK, withS, opd, kput, putS, upd, lookup, loadOwn, InK_i64, storeK, frz, storeV, setBlk, newBlk, buildK, partsK, buildSliceK, plSlice, V.one, Value.oneCell', List.set_cons_zero, List.set_cons_succ, c_int, Nat.zero_le, fp1, z_pt, pl_pt, c_pt, fq0, fq1, sz_pts, ei_pts, ea_pts, List.getElem?_cons_zero, List.getElem?_cons_succ, List.nil_append, List.cons_append, List.length_cons, List.length_nil, Nat.reduceEqDiff, Nat.reduceAdd, Nat.reduceLT, Nat.reduceLeDiff, Nat.reduceMul, Nat.one_mul, Nat.zero_mul, Nat.zero_add, Nat.sub_zero, ↓reduceIte, eq_self, true_and, Option.isSome_some]) | refine ev_guard rfl rfl rfl ?_ ?_ | ((with_reducible show retQ _ _ _ _); simp only [eq_self]) | (with_reducible refine hK _ ?_; clear hK K) | (with_reducible refine And.intro ?_ ?_) | (with_reducible intro hc; try simp only [eq_self] at hc) | omega)
          all_goals try (exfalso; omega; done)
          all_goals try rfl
          refine AWP.loop_entR [0, 1, 2, 3, 4] (fun x : Nat × Qg × Option Addr => ⟨[(0, .one (.pv (strs l))), (3, .one (.mp b (encA encP (sM (S ++ [q]))))), (4, .one (.own 0 2 0 (PL (r * (lenB (stAt l 0)) + c)).length)), (5, sc (.int .i64 r)), (7, .one (.ptr 1 0)), (8, qS2 (Q ++ nbT q x.1) x.2.1 x.2.2), (9, .one (.ptr 3 0)), (15, sc (.int .i64 l.length)), (16, sc (.int .i64 r)), (23, sc (.int .i64 (lenB (stAt l r)))), (24, sc (.int .i64 c)), (92, .one (.own 4 2 0 4)), (93, sc (.int .i64 4)), (94, sc (.int .i64 x.1))], [some (bparts (PL (r * (lenB (stAt l 0)) + c))), some (partBlk (g (r * (lenB (stAt l 0)) + c)) (m + 1)), qB2 (Q ++ nbT q x.1) x.2.1, some (ptBlk q), some ⟨133, 8, fun j => vi (dV j)⟩], 115⟩)
            (fun x => x.1 ≤ 4 ∧ qOk2 (Q ++ nbT q x.1) x.2.1) (fun x => 4 - x.1) (0, al, A) ⟨by omega, by show qOk2 (Q ++ nbT q 0) al; rw [show nbT q 0 = [] from rfl, List.append_nil]; exact hQ3⟩ ?_ ?_
          · have e0 : Q ++ nbT q 0 = Q := List.append_nil Q
            dsimp only
            rw [e0]
            refine ⟨rfl, by decide, ⟨VE.rfl' _, ⟨rfl, rfl⟩, ⟨rfl, rfl, rfl, rfl⟩, rfl, ⟨rfl, rfl⟩, slR_q2 rfl, ⟨rfl, rfl⟩, rfl, rfl, rfl, rfl, ⟨rfl, rfl, rfl, rfl⟩, rfl, rfl, trivial⟩, BE.rfl' _, two_be (Nat.le_refl _) rfl rfl, entH_q2 rfl ⟨BE.rfl' _, ?_, trivial⟩⟩
            refine ⟨rfl, Nat.le_refl _, fun i hi => ?_⟩
            have hi : i < 8 := hi
            rcases (show i = 0 ∨ i = 1 ∨ i = 2 ∨ i = 3 ∨ i = 4 ∨ i = 5 ∨ i = 6 ∨ i = 7 by omega) with rfl | rfl | rfl | rfl | rfl | rfl | rfl | rfl <;> exact VE.rfl' _
          rintro ⟨i, al, A⟩ ⟨hi, hQ4⟩
          change i ≤ 4 at hi
          change qOk2 (Q ++ nbT q i) al at hQ4
          dsimp only
          by_cases hil : i < 4
          · have hql4 : (Q ++ nbT q i).length ≤ 3000 := by
              rw [List.length_append]
              have : (nbT q i).length = i := by simp [nbT]
              omega
            have e1 : Q ++ nbT q (i + 1) = (Q ++ nbT q i) ++ [(q.1 + dV (i * 2), q.2 + dV (i * 2 + 1))] := by rw [nbT_succ, List.append_assoc]
            have hd0 := dV_le (i * 2)
            have hd1 := dV_le (i * 2 + 1)
            have hqq : -1000 ≤ q.1 ∧ q.1 ≤ 1000 ∧ -1000 ≤ q.2 ∧ q.2 ≤ 1000 := by omega
            have hdd : -1000 ≤ (dV (i * 2), dV (i * 2 + 1)).1 ∧ (dV (i * 2), dV (i * 2 + 1)).1 ≤ 1000 ∧ -1000 ≤ (dV (i * 2), dV (i * 2 + 1)).2 ∧ (dV (i * 2), dV (i * 2 + 1)).2 ≤ 1000 := by dsimp only; omega
            generalize Q ++ nbT q i = Q2 at *
            rcases al with _ | ⟨off, g1⟩
            · obtain rfl : Q2 = [] := hQ4.1 rfl
              show AWP _ _ _ _ ⟨[(0, .one (.pv (strs l))), (3, .one (.mp b (encA encP (sM (S ++ [q]))))), (4, .one (.own 0 2 0 (PL (r * (lenB (stAt l 0)) + c)).length)), (5, sc (.int .i64 r)), (7, .one (.ptr 1 0)), (8, sc (.slice A 0 0)), (9, .one (.ptr 3 0)), (15, sc (.int .i64 l.length)), (16, sc (.int .i64 r)), (23, sc (.int .i64 (lenB (stAt l r)))), (24, sc (.int .i64 c)), (92, .one (.own 4 2 0 4)), (93, sc (.int .i64 4)), (94, sc (.int .i64 i))], [some (bparts (PL (r * (lenB (stAt l 0)) + c))), some (partBlk (g (r * (lenB (stAt l 0)) + c)) (m + 1)), none, some (ptBlk q), some ⟨133, 8, fun j => vi (dV j)⟩], 115⟩
              repeat' (first | ((with_reducible show Ax _ _ _ _ _); (refine ax_appendE (fun j => .int .i64 (if j = 0 then q.1 + dV (i * 2) else q.2 + dV (i * 2 + 1))) rfl ei_pts rfl rfl rfl (Nat.le_refl _) (fun j hj => ?_) (fun j hj => ?_) rfl ?_ ; simp only [eq_self])) | ((with_reducible show evNx _ _ _ _ _ _); first | (with_reducible refine nx_done ?_) | (refine nx_one rfl ?_) | (refine nx_alt rfl ?_ ?_) | (with_reducible refine nx_st ?_)) | ((with_reducible show evSx _ _ _ _ _ _); first | (with_reducible refine sx_done ?_) | (with_reducible refine sx_st ?_) | (with_reducible refine sx_op ?_)) | ((with_reducible show evTake _ _ _ _ _); with_reducible refine take_nil ?_) | ((with_reducible show evSy _ _ _ _ _ _ _); first | (with_reducible refine sy_done ?_) | (refine sy_last rfl ?_) | (refine sy_one (by decide) rfl ?_) | (refine sy_alt (by decide) rfl ?_ ?_) | (with_reducible refine sy_st ?_)) | ((with_reducible show StK _ _ _); first | fail) | (with_reducible first | refine then_normal ?_ | refine then_ret ?_ | refine then_exit ?_ | refine block_normal ?_ | refine block_ret ?_) | ((with_reducible show blockQ _ _ _ _); first | refine block_exit ?_ | refine block_exit_ne rfl ?_) | ((with_reducible show AWP _ _ _ _ _); first | (refine AWP.region_sx (id := 20) [.op, .op, .op, .op, .op, .op, .op] ?_) | (with_reducible first | refine AWP.seq ?_ | refine AWP.block ?_ | refine AWP.region ?_ | refine AWP.ret ?_ | refine AWP.exit ?_ | refine AWP.skip ?_) | refine AWP.drawn rfl (by kernel_rfl) ?_ | refine AWP.cond rfl ?_ ?_) | with_reducible refine ev_nil ?_ | ((first | ((with_reducible show evNx _ _ _ _ _ _); refine nx_take rfl ?_; intro K hK) | ((with_reducible show Ax _ _ _ _ _); first | (refine ax_op rfl ?_; intro K hK)) | ((with_reducible show evTake _ _ _ _ _); refine take_step rfl ?_; intro K hK) | ((with_reducible show evSy _ _ _ _ _ _ _); refine sy_take rfl ?_; intro K hK) | ((with_reducible show AxB _ _ _ _ _); first | (refine axb_op rfl rfl ?_; intro K hK)) | ((with_reducible show evOps _ _ _ _ _ _); (first | refine ev_step rfl ?_ | refine ev_undef rfl rfl rfl ?_); intro K hK) | ((with_reducible show EvOpen _ _ _ _ _ _ _); refine ev_open ?_; intro K hK) | ((with_reducible show SkOpen _ _ _ _ _ _ _); refine sk_open ?_; intro K hK) | ((with_reducible show callK _ _ _ _ _ _ _ _); first  | (refine call_pure ( plus_at q (dV (i * 2), dV (i * 2 + 1)) rfl rfl (by simp) (by simp) hqq hdd) (Nat.le_of_ble_eq_true rfl) ?_))); simp only [evOp, evQ, binK, withS, opd, kput, putS, upd, lookup, argsK, loadOwn, bringIn, bring, Res.list, Res.slot, InK_i64, storeK, frz, storeV, setBlk, newBlk, allocK, partsK, buildSliceK, plSlice, V.one, Value.oneCell', List.set_cons_zero, List.set_cons_succ, Nat.zero_le, partBlk, ptBlk, bparts, z_pt, c_pt, sz_pts, ei_pts, ea_pts, List.getElem?_cons_zero, List.getElem?_cons_succ, List.reverse_cons, List.reverse_nil, List.nil_append, List.cons_append, List.length_cons, List.length_nil, Nat.reduceEqDiff, Nat.reduceAdd, Nat.reduceLT, Nat.reduceLeDiff, Nat.one_mul, Nat.zero_mul, Nat.zero_add, Nat.sub_zero, ↓reduceIte, eq_self, true_and, forall_const, implies_true, Int.toNat_natCast]) | refine ev_guard rfl rfl rfl ?_ ?_ | ((with_reducible show retQ _ _ _ _); simp only [eq_self]) | (with_reducible refine hK _ ?_; clear hK K) | (with_reducible refine And.intro ?_ ?_) | (with_reducible intro hc; try simp only [decide_eq_true_eq, decide_eq_false_iff_not, Int.not_lt] at hc) | omega)
              all_goals first
                | (exfalso; omega)
                | exact if_pos hj
                | rfl
                | exact ⟨(i + 1, some (0, fun j => if j = 0 then q.1 + dV (i * 2) else q.2 + dV (i * 2 + 1)), none), ⟨by show i + 1 ≤ 4; omega, by show qOk2 (Q ++ nbT q (i + 1)) _; rw [e1]; exact qOk2.one ((q.1 + dV (i * 2), q.2 + dV (i * 2 + 1)) : Pt)⟩, by show 4 - (i + 1) < 4 - i; omega, [0, 1, 7, 3, 4], rfl, by decide, ⟨VE.rfl' _, ⟨rfl, rfl⟩, ⟨rfl, rfl, rfl, rfl⟩, rfl, ⟨rfl, rfl⟩, ⟨rfl, rfl, rfl, (by show _ = (Q ++ nbT q (i + 1)).length; rw [e1]; simp)⟩, ⟨rfl, rfl⟩, rfl, rfl, rfl, rfl, ⟨rfl, rfl, rfl, rfl⟩, rfl, rfl, trivial⟩, BE.rfl' _, BE.rfl' _, ⟨rfl, by show 0 + (Q ++ nbT q (i + 1)).length * 2 ≤ 2; rw [e1]; simp, fun j hj => VE.of_eq (by first | rfl | exact qput_v ((q.1 + dV (i * 2), q.2 + dV (i * 2 + 1)) : Pt) _ _ _)⟩, BE.rfl' _, BE.rfl' _, trivial⟩
                | trace_state
            · show AWP _ _ _ _ ⟨[(0, .one (.pv (strs l))), (3, .one (.mp b (encA encP (sM (S ++ [q]))))), (4, .one (.own 0 2 0 (PL (r * (lenB (stAt l 0)) + c)).length)), (5, sc (.int .i64 r)), (7, .one (.ptr 1 0)), (8, .one (.own 2 2 off Q2.length)), (9, .one (.ptr 3 0)), (15, sc (.int .i64 l.length)), (16, sc (.int .i64 r)), (23, sc (.int .i64 (lenB (stAt l r)))), (24, sc (.int .i64 c)), (92, .one (.own 4 2 0 4)), (93, sc (.int .i64 4)), (94, sc (.int .i64 i))], [some (bparts (PL (r * (lenB (stAt l 0)) + c))), some (partBlk (g (r * (lenB (stAt l 0)) + c)) (m + 1)), some ⟨133, off + Q2.length * 2, fun i => vi (g1 i)⟩, some (ptBlk q), some ⟨133, 8, fun j => vi (dV j)⟩], 115⟩
              repeat' (first | ((with_reducible show Ax _ _ _ _ _); (refine ax_appendS (fun j => .int .i64 (if j = 0 then q.1 + dV (i * 2) else q.2 + dV (i * 2 + 1))) rfl rfl ei_pts rfl rfl (Nat.le_refl _) (by omega) rfl rfl (Nat.le_refl _) (fun j hj => ?_) (fun j hj => ?_) rfl ?_ ?_ ; all_goals simp only [upd, Value.oneCell', List.set_cons_zero, List.set_cons_succ, partBlk, ptBlk, bparts, List.nil_append, List.cons_append, List.length_cons, List.length_nil, Nat.reduceEqDiff, Nat.reduceAdd, Nat.zero_add, ↓reduceIte, eq_self])) | ((with_reducible show evNx _ _ _ _ _ _); first | (with_reducible refine nx_done ?_) | (refine nx_one rfl ?_) | (refine nx_alt rfl ?_ ?_) | (with_reducible refine nx_st ?_)) | ((with_reducible show evSx _ _ _ _ _ _); first | (with_reducible refine sx_done ?_) | (with_reducible refine sx_st ?_) | (with_reducible refine sx_op ?_)) | ((with_reducible show evTake _ _ _ _ _); with_reducible refine take_nil ?_) | ((with_reducible show evSy _ _ _ _ _ _ _); first | (with_reducible refine sy_done ?_) | (refine sy_last rfl ?_) | (refine sy_one (by decide) rfl ?_) | (refine sy_alt (by decide) rfl ?_ ?_) | (with_reducible refine sy_st ?_)) | ((with_reducible show StK _ _ _); first | fail) | (with_reducible first | refine then_normal ?_ | refine then_ret ?_ | refine then_exit ?_ | refine block_normal ?_ | refine block_ret ?_) | ((with_reducible show blockQ _ _ _ _); first | refine block_exit ?_ | refine block_exit_ne rfl ?_) | ((with_reducible show AWP _ _ _ _ _); first | (refine AWP.region_sx (id := 20) [.op, .op, .op, .op, .op, .op, .op] ?_) | (with_reducible first | refine AWP.seq ?_ | refine AWP.block ?_ | refine AWP.region ?_ | refine AWP.ret ?_ | refine AWP.exit ?_ | refine AWP.skip ?_) | refine AWP.drawn rfl (by kernel_rfl) ?_ | refine AWP.cond rfl ?_ ?_) | with_reducible refine ev_nil ?_ | ((first | ((with_reducible show evNx _ _ _ _ _ _); refine nx_take rfl ?_; intro K hK) | ((with_reducible show Ax _ _ _ _ _); first | (refine ax_op rfl ?_; intro K hK)) | ((with_reducible show evTake _ _ _ _ _); refine take_step rfl ?_; intro K hK) | ((with_reducible show evSy _ _ _ _ _ _ _); refine sy_take rfl ?_; intro K hK) | ((with_reducible show AxB _ _ _ _ _); first | (refine axb_op rfl rfl ?_; intro K hK)) | ((with_reducible show evOps _ _ _ _ _ _); (first | refine ev_step rfl ?_ | refine ev_undef rfl rfl rfl ?_); intro K hK) | ((with_reducible show EvOpen _ _ _ _ _ _ _); refine ev_open ?_; intro K hK) | ((with_reducible show SkOpen _ _ _ _ _ _ _); refine sk_open ?_; intro K hK) | ((with_reducible show callK _ _ _ _ _ _ _ _); first  | (refine call_pure ( plus_at q (dV (i * 2), dV (i * 2 + 1)) rfl rfl (by simp) (by simp) hqq hdd) (Nat.le_of_ble_eq_true rfl) ?_))); simp only [evOp, evQ, binK, withS, opd, kput, putS, upd, lookup, argsK, loadOwn, bringIn, bring, Res.list, Res.slot, InK_i64, storeK, frz, storeV, setBlk, newBlk, allocK, partsK, buildSliceK, plSlice, V.one, Value.oneCell', List.set_cons_zero, List.set_cons_succ, Nat.zero_le, partBlk, ptBlk, bparts, z_pt, c_pt, sz_pts, ei_pts, ea_pts, List.getElem?_cons_zero, List.getElem?_cons_succ, List.reverse_cons, List.reverse_nil, List.nil_append, List.cons_append, List.length_cons, List.length_nil, Nat.reduceEqDiff, Nat.reduceAdd, Nat.reduceLT, Nat.reduceLeDiff, Nat.one_mul, Nat.zero_mul, Nat.zero_add, Nat.sub_zero, ↓reduceIte, eq_self, true_and, forall_const, implies_true, Int.toNat_natCast]) | refine ev_guard rfl rfl rfl ?_ ?_ | ((with_reducible show retQ _ _ _ _); simp only [eq_self]) | (with_reducible refine hK _ ?_; clear hK K) | (with_reducible refine And.intro ?_ ?_) | (with_reducible intro hc; try simp only [decide_eq_true_eq, decide_eq_false_iff_not, Int.not_lt] at hc) | omega)
              all_goals first
                | (exfalso; omega)
                | exact if_pos hj
                | rfl
                | exact ⟨(i + 1, some (off, qPut ((q.1 + dV (i * 2), q.2 + dV (i * 2 + 1)) : Pt) (off + Q2.length * 2) g1), none), ⟨by show i + 1 ≤ 4; omega, by show qOk2 (Q ++ nbT q (i + 1)) _; rw [e1]; exact hQ4.put ((q.1 + dV (i * 2), q.2 + dV (i * 2 + 1)) : Pt)⟩, by show 4 - (i + 1) < 4 - i; omega, [0, 1, 2, 3, 4], rfl, by decide, ⟨VE.rfl' _, ⟨rfl, rfl⟩, ⟨rfl, rfl, rfl, rfl⟩, rfl, ⟨rfl, rfl⟩, ⟨rfl, rfl, rfl, (by show _ = (Q ++ nbT q (i + 1)).length; rw [e1]; simp)⟩, ⟨rfl, rfl⟩, rfl, rfl, rfl, rfl, ⟨rfl, rfl, rfl, rfl⟩, rfl, rfl, trivial⟩, BE.rfl' _, BE.rfl' _, ⟨rfl, by show off + (Q ++ nbT q (i + 1)).length * 2 ≤ off + Q2.length * 2 + 2; rw [e1]; simp; omega, fun j hj => VE.of_eq (by first | rfl | exact qput_v ((q.1 + dV (i * 2), q.2 + dV (i * 2 + 1)) : Pt) _ _ _)⟩, BE.rfl' _, BE.rfl' _, trivial⟩
                | exact ⟨(i + 1, some (0, qPut ((q.1 + dV (i * 2), q.2 + dV (i * 2 + 1)) : Pt) (Q2.length * 2) fun i => g1 (off + i)), none), ⟨by show i + 1 ≤ 4; omega, by show qOk2 (Q ++ nbT q (i + 1)) _; rw [e1]; exact hQ4.move ((q.1 + dV (i * 2), q.2 + dV (i * 2 + 1)) : Pt)⟩, by show 4 - (i + 1) < 4 - i; omega, [0, 1, 7, 3, 4], rfl, by decide, ⟨VE.rfl' _, ⟨rfl, rfl⟩, ⟨rfl, rfl, rfl, rfl⟩, rfl, ⟨rfl, rfl⟩, ⟨rfl, rfl, rfl, (by show _ = (Q ++ nbT q (i + 1)).length; rw [e1]; simp)⟩, ⟨rfl, rfl⟩, rfl, rfl, rfl, rfl, ⟨rfl, rfl, rfl, rfl⟩, rfl, rfl, trivial⟩, BE.rfl' _, BE.rfl' _, ⟨rfl, by show 0 + (Q ++ nbT q (i + 1)).length * 2 ≤ Q2.length * 2 + 2; rw [e1]; simp; omega, fun j hj => VE.of_eq (by first | rfl | exact qput_v ((q.1 + dV (i * 2), q.2 + dV (i * 2 + 1)) : Pt) (Q2.length * 2) (fun i => g1 (off + i)) _)⟩, BE.rfl' _, BE.rfl' _, trivial⟩
                | trace_state
          · obtain rfl : i = 4 := by omega
            rw [nbT_all] at hQ4 ⊢
            repeat' (first | (with_reducible first | refine then_normal ?_ | refine then_ret ?_ | refine then_exit ?_ | refine block_normal ?_ | refine block_ret ?_) | ((with_reducible show blockQ _ _ _ _); first | refine block_exit ?_ | refine block_exit_ne rfl ?_) | ((with_reducible show AWP _ _ _ _ _); first | (with_reducible first | refine AWP.seq ?_ | refine AWP.block ?_ | refine AWP.region ?_ | refine AWP.ret ?_ | refine AWP.exit ?_ | refine AWP.skip ?_) | refine AWP.drawn rfl (by kernel_rfl) ?_ | refine AWP.cond rfl ?_ ?_) | with_reducible refine ev_nil ?_ | ((first | ((with_reducible show evOps _ _ _ _ _ _); (first | refine ev_step rfl ?_ | refine ev_undef rfl rfl rfl ?_); intro K hK) | ((with_reducible show EvOpen _ _ _ _ _ _ _); refine ev_open ?_; intro K hK) | ((with_reducible show SkOpen _ _ _ _ _ _ _); refine sk_open ?_; intro K hK) | ((with_reducible show callK _ _ _ _ _ _ _ _); first | fail)); simp only [evOp, evQ, binK, withS, opd, kput, putS, upd, lookup, argsK, loadOwn, storeK, frz, storeV, setBlk, newBlk, allocK, V.one, Value.oneCell', List.set_cons_zero, List.set_cons_succ, Nat.zero_le, partBlk, ptBlk, bparts, z_pt, c_pt, sz_pts, List.getElem?_cons_zero, List.getElem?_cons_succ, List.reverse_cons, List.reverse_nil, List.nil_append, List.cons_append, List.length_cons, List.length_nil, Nat.reduceEqDiff, Nat.reduceAdd, Nat.reduceLT, Nat.reduceLeDiff, Nat.reduceMul, Nat.zero_add, Nat.sub_zero, ↓reduceIte, eq_self, true_and, forall_const, implies_true, Int.toNat_natCast]) | refine ev_guard rfl rfl rfl ?_ ?_ | ((with_reducible show retQ _ _ _ _); simp only [eq_self]) | (with_reducible refine hK _ ?_; clear hK K) | (with_reducible refine And.intro ?_ ?_) | (with_reducible intro hc; try simp only [decide_eq_true_eq, decide_eq_false_iff_not, Int.not_lt] at hc) | omega)
            all_goals first
              | (exfalso; omega)
              | exact ⟨(S ++ [q], Q ++ nbP q, m + 1, al, A), ⟨hI2, hQ4⟩, hmes, [0, 1, 2], rfl, by decide, ⟨VE.rfl' _, ⟨rfl, rfl⟩, ⟨rfl, rfl, rfl, rfl⟩, rfl, ⟨rfl, rfl⟩, slR_q2 rfl, rfl, rfl, rfl, rfl, trivial⟩, BE.rfl' _, BE.rfl' _, entH_q2 rfl trivial⟩
              | trace_state
        · have hskip : q ∈ S ∨ ¬ inP l.length (lenB (stAt l 0)) q ∨ g (ixP (lenB (stAt l 0)) q) ≠ g (r * (lenB (stAt l 0)) + c) := by
            by_cases h1 : q ∈ S
            · exact .inl h1
            · by_cases h2 : inP l.length (lenB (stAt l 0)) q
              · exact .inr (.inr fun h3 => hgo ⟨h1, h2, h3⟩)
              · exact .inr (.inl h2)
          repeat' (first | ((with_reducible show lookupK _ _ _ _ _ _) ; refine lookup_go (l := sM S) q rfl rfl (isv_pt q rfl rfl) key_pt u_mpt zv_bool ?_ ; rw [getD_sM] ; simp only [kput, putS, upd, Nat.reduceEqDiff, ↓reduceIte]) | (with_reducible first | refine then_normal ?_ | refine then_ret ?_ | refine then_exit ?_ | refine block_normal ?_ | refine block_ret ?_) | ((with_reducible show blockQ _ _ _ _); first | refine block_exit ?_ | refine block_exit_ne rfl ?_) | ((with_reducible show AWP _ _ _ _ _); first | (refine AWP.holdP (id := 15) ?_) | (with_reducible first | refine AWP.seq ?_ | refine AWP.block ?_ | refine AWP.region ?_ | refine AWP.ret ?_ | refine AWP.exit ?_ | refine AWP.skip ?_) | refine AWP.drawn rfl (by kernel_rfl) ?_ | refine AWP.cond rfl ?_ ?_) | with_reducible refine ev_nil ?_ | ((first | ((with_reducible show evOps _ _ _ _ _ _); (first | refine ev_step rfl ?_ | refine ev_undef rfl rfl rfl ?_); intro K hK) | ((with_reducible show EvOpen _ _ _ _ _ _ _); refine ev_open ?_; intro K hK) | ((with_reducible show SkOpen _ _ _ _ _ _ _); refine sk_open ?_; intro K hK) | ((with_reducible show callK _ _ _ _ _ _ _ _); first  | (refine call_scalar (within_fn _ _ _) (Nat.le_of_ble_eq_true rfl) rfl ?_))); simp only [evOp, evQ, evB, binK, withS, opd, kput, putS, upd, lookup, skipOp, argsK, loadOwn, bringIn, bring, Res.list, Res.slot, InK_i64, c_int, sz_strs, c_string, u_string, c_u8, lenB_is, byteI_is, partBlk, ptBlk, bparts, fp0, c_pt, fq0, fq1, List.getElem?_cons_zero, List.getElem?_cons_succ, List.reverse_cons, List.reverse_nil, List.nil_append, List.cons_append, Nat.reduceEqDiff, Nat.reduceLT, Nat.reduceLeDiff, Nat.mul_one, Nat.add_zero, Nat.zero_add, ↓reduceIte, eq_self, true_and, and_true, Bool.not_false, Bool.true_eq_false, Bool.false_eq_true, false_implies, forall_const, Int.toNat_zero, Option.isSome_some]) | refine ev_guard rfl rfl rfl ?_ ?_ | ((with_reducible show retQ _ _ _ _); simp only [eq_self]) | (with_reducible refine hK _ ?_; clear hK K) | (with_reducible refine And.intro ?_ ?_) | (with_reducible intro hc; try simp only [decide_eq_true_eq, decide_eq_false_iff_not, bne_iff_ne, bne_eq_false_iff_eq, Bool.not_eq_true', Bool.not_eq_false', Bool.not_false, ne_eq, reduceCtorEq, inB_true, inB_false, Bool.true_eq_false] at hc) | omega)
          all_goals first
            | (exfalso; omega)
            | exact ⟨(S, Q, m, al, A), ⟨hI.skip ht hskip, hQ3⟩, bfM_skip, [0, 1, 2], rfl, by decide, ⟨VE.rfl' _, ⟨rfl, rfl⟩, ⟨rfl, rfl, rfl, rfl⟩, rfl, ⟨rfl, rfl⟩, slR_q2 rfl, rfl, rfl, rfl, rfl, trivial⟩, BE.rfl' _, BE.rfl' _, entH_q2 rfl trivial⟩
            | (exfalso
               have hin : inP l.length (lenB (stAt l 0)) q := ⟨by omega, by omega, by omega, by omega⟩
               exact hgo ⟨‹¬ q ∈ S›, hin, by rw [hgx q hin]; assumption⟩)
            | (have := hp3 q.1.toNat (by omega); omega)
            | trace_state
    · obtain rfl : c = (lenB (stAt l 0)) := by omega
      have hnx : (r + 1) * (lenB (stAt l 0)) = r * (lenB (stAt l 0)) + (lenB (stAt l 0)) := by rw [Nat.add_mul, Nat.one_mul]
      repeat' (first | (with_reducible first | refine then_normal ?_ | refine then_ret ?_ | refine then_exit ?_ | refine block_normal ?_ | refine block_ret ?_) | ((with_reducible show blockQ _ _ _ _); first | refine block_exit ?_ | refine block_exit_ne rfl ?_) | ((with_reducible show AWP _ _ _ _ _); first | (with_reducible first | refine AWP.seq ?_ | refine AWP.block ?_ | refine AWP.region ?_ | refine AWP.ret ?_ | refine AWP.exit ?_ | refine AWP.skip ?_) | refine AWP.drawn rfl (by kernel_rfl) ?_ | refine AWP.cond rfl ?_ ?_) | with_reducible refine ev_nil ?_ | ((first | ((with_reducible show evOps _ _ _ _ _ _); (first | refine ev_step rfl ?_ | refine ev_undef rfl rfl rfl ?_); intro K hK) | ((with_reducible show EvOpen _ _ _ _ _ _ _); refine ev_open ?_; intro K hK) | ((with_reducible show SkOpen _ _ _ _ _ _ _); refine sk_open ?_; intro K hK) | ((with_reducible show callK _ _ _ _ _ _ _ _); first | fail)); simp only [evOp, evQ, binK, withS, opd, kput, putS, upd, lookup, InK_i64, storeK, frz, storeV, setBlk, newBlk, allocK, buildK, partsK, buildSliceK, plSlice, V.one, Value.oneCell', List.set_cons_zero, List.set_cons_succ, sz_strs, c_string, u_string, Nat.zero_le, lenB_is, byteI_is, bparts, z_part, pl_part, c_part, fp0, z_pt, pl_pt, fq0, fq1, ei_pts, ea_pts, List.getElem?_cons_zero, List.getElem?_cons_succ, List.nil_append, List.cons_append, List.length_cons, List.length_nil, Nat.reduceEqDiff, Nat.reduceAdd, Nat.reduceLT, Nat.reduceLeDiff, Nat.mul_one, Nat.one_mul, Nat.zero_mul, Nat.add_zero, Nat.zero_add, Nat.sub_zero, ↓reduceIte, eq_self, true_and, Int.toNat_natCast, Option.isSome_some]) | refine ev_guard rfl rfl rfl ?_ ?_ | ((with_reducible show retQ _ _ _ _); simp only [eq_self]) | (with_reducible refine hK _ ?_; clear hK K) | (with_reducible refine And.intro ?_ ?_) | (with_reducible intro hc; try simp only [decide_eq_true_eq, decide_eq_false_iff_not, Int.not_lt] at hc) | omega)
      all_goals first
        | (exfalso; omega)
        | (refine ⟨(r + 1, S1), ⟨by show r + 1 ≤ l.length; omega, by show SeenOk _ _ L ((r + 1) * (lenB (stAt l 0))) S1; rw [hnx]; exact hS1⟩, by show l.length - (r + 1) < l.length - r; omega, [0], rfl, by decide, ⟨VE.rfl' _, ⟨rfl, rfl⟩, ⟨rfl, rfl, rfl, ?_⟩, rfl, rfl, trivial⟩, ?_, trivial⟩
           · show (PL (r * (lenB (stAt l 0)) + (lenB (stAt l 0)))).length = (PL ((r + 1) * (lenB (stAt l 0)))).length; rw [hnx]
           · show BE _ (bparts (PL ((r + 1) * (lenB (stAt l 0))))); rw [hnx]; exact BE.rfl' _)
        | trace_state
  · obtain rfl : r = l.length := by omega
    repeat' (first | (with_reducible first | refine then_normal ?_ | refine then_ret ?_ | refine then_exit ?_ | refine block_normal ?_ | refine block_ret ?_) | ((with_reducible show blockQ _ _ _ _); first | refine block_exit ?_ | refine block_exit_ne rfl ?_) | ((with_reducible show AWP _ _ _ _ _); first | (with_reducible first | refine AWP.seq ?_ | refine AWP.block ?_ | refine AWP.region ?_ | refine AWP.ret ?_ | refine AWP.exit ?_ | refine AWP.skip ?_) | refine AWP.drawn rfl (by kernel_rfl) ?_ | refine AWP.cond rfl ?_ ?_) | with_reducible refine ev_nil ?_ | ((first | ((with_reducible show evOps _ _ _ _ _ _); (first | refine ev_step rfl ?_ | refine ev_undef rfl rfl rfl ?_); intro K hK) | ((with_reducible show EvOpen _ _ _ _ _ _ _); refine ev_open ?_; intro K hK) | ((with_reducible show SkOpen _ _ _ _ _ _ _); refine sk_open ?_; intro K hK) | ((with_reducible show callK _ _ _ _ _ _ _ _); first | fail)); simp only [evOp, evQ, evB, binK, withS, opd, kput, putS, upd, lookup, sz_strs, c_string, u_string, lenB_is, bparts, Nat.reduceEqDiff, Nat.reduceLT, Nat.mul_one, Nat.add_zero, ↓reduceIte, eq_self, true_and, Int.toNat_natCast]) | refine ev_guard rfl rfl rfl ?_ ?_ | ((with_reducible show retQ _ _ _ _); simp only [retQ, retOk, getL, lookup, Option.map_some, fitsL, fits, ND, srcs, Res.list, List.getElem?_cons_zero, Nat.reduceEqDiff, ↓reduceIte, and_true, true_and]) | (with_reducible refine hK _ ?_; clear hK K) | (with_reducible refine And.intro ?_ ?_) | (with_reducible intro hc; try simp only [decide_eq_true_eq, decide_eq_false_iff_not, Int.not_lt] at hc) | omega)
    all_goals first
      | (exfalso; omega)
      | exact ⟨_, rfl, BE.rfl' _⟩
      | (simp; done)
      | trace_state
end Go.Proofs.Yteapdildbfimnaa
namespace Go.Proofs.Yteapdildbfimnaa
open Go.RowKit Go.Proofs
set_option linter.unusedSimpArgs false
set_option linter.unusedVariables false

theorem nat_quo (a b : Nat) : (a : Int) / (b : Int) = ((a / b : Nat) : Int) := (Int.natCast_ediv a b).symm
theorem nat_rem (a b : Nat) : (a : Int) % (b : Int) = ((a % b : Nat) : Int) := (Int.natCast_emod a b).symm
theorem nat_suc (a : Nat) : (a : Int) + 1 = ((a + 1 : Nat) : Int) := rfl
theorem nat_add (a b : Nat) : (a : Int) + (b : Int) = ((a + b : Nat) : Int) := rfl
theorem nat_mul (a b : Nat) : (a : Int) * (b : Int) = ((a * b : Nat) : Int) := rfl
def bnats (n : Nat) (f : Nat → Nat) : Blk := ⟨3, n, fun i => vi (f i : Nat)⟩
theorem nats_be {n : Nat} {f : Nat → V} {h : Nat → Nat} (e : ∀ i, i < n → f i = vi (h i : Nat)) : BE ⟨3, n, f⟩ (bnats n h) := ⟨rfl, Nat.le_refl _, fun i hi => VE.of_eq (e i hi)⟩

set_option maxHeartbeats 8000000 in
set_option maxRecDepth 20000 in
theorem drParts_fn (l : List ByteArray) (hp : picB l = true) {L : Nat → Nat} (hL : IsLab (Ad l.length (lenB (stAt l 0)) (gP l)) L) :
    Fn Try.prog 82 [strs l] (.one (.fr 1 ((lenB (stAt l 0)) * l.length) (bnats ((lenB (stAt l 0)) * l.length) L))) := by
  obtain ⟨hp1, hp2, hp3⟩ := picB_parts hp
  have hgd : ∀ i, gP l i = byteI (stAt l (i / (lenB (stAt l 0)))) (i % (lenB (stAt l 0))) := fun i => rfl
  generalize gP l = g at *
  have hHW : l.length * (lenB (stAt l 0)) ≤ 256 := Nat.mul_le_mul hp1.2 hp2.2
  have hWH : (lenB (stAt l 0)) * l.length = l.length * (lenB (stAt l 0)) := Nat.mul_comm _ _
  have hrow : ∀ i, i < l.length * (lenB (stAt l 0)) → i / (lenB (stAt l 0)) < l.length := fun i hi => dm_row hi
  have hcol : ∀ i, i % (lenB (stAt l 0)) < (lenB (stAt l 0)) := fun i => Nat.mod_lt i (by omega)
  have hfin := fun (z : Nat) (out : Nat → Nat) (h : PsOk l.length (lenB (stAt l 0)) g z out false (l.length * (lenB (stAt l 0))) 0) => h.fin hL
  refine Fn.of_body Try.call82 Try.func82 rfl Try.ntmps82 (ts := [2]) rfl (by simp) rfl (fun N => ?_)
  repeat' (first | (with_reducible first | refine then_normal ?_ | refine then_ret ?_ | refine then_exit ?_ | refine block_normal ?_ | refine block_ret ?_) | ((with_reducible show blockQ _ _ _ _); first | refine block_exit ?_ | refine block_exit_ne rfl ?_) | ((with_reducible show AWP _ _ _ _ _); first | (with_reducible first | refine AWP.seq ?_ | refine AWP.block ?_ | refine AWP.region ?_ | refine AWP.ret ?_ | refine AWP.exit ?_ | refine AWP.skip ?_) | refine AWP.drawn rfl (by kernel_rfl) ?_ | refine AWP.cond rfl ?_ ?_) | with_reducible refine ev_nil ?_ | ((first | ((with_reducible show evOps _ _ _ _ _ _); (first | refine ev_step rfl ?_ | refine ev_undef rfl rfl rfl ?_); intro K hK) | ((with_reducible show EvOpen _ _ _ _ _ _ _); refine ev_open ?_; intro K hK) | ((with_reducible show SkOpen _ _ _ _ _ _ _); refine sk_open ?_; intro K hK) | ((with_reducible show callK _ _ _ _ _ _ _ _); first | fail)); simp only [evOp, evQ, evB, binK, withS, opd, kput, putS, upd, lookup, slotsOf, InK_i64, makeK, newBlk, sz_ints, ei_ints, sz_strs, c_string, u_string, lenB_is, nat_mul, List.nil_append, List.length_cons, List.length_nil, Nat.reduceEqDiff, Nat.reduceLT, Nat.mul_one, Nat.zero_add, Nat.mod_one, List.getD_cons_zero, ↓reduceIte, eq_self, true_and, Int.toNat_natCast, Int.toNat_zero, Option.isSome_some]) | refine ev_guard rfl rfl rfl ?_ ?_ | ((with_reducible show retQ _ _ _ _); simp only [eq_self]) | (with_reducible refine hK _ ?_; clear hK K) | (with_reducible refine And.intro ?_ ?_) | (with_reducible intro hc; try simp only [eq_self] at hc) | omega)
  all_goals try (exfalso; omega; done)
  all_goals try (omega; done)
  refine AWP.loop_entR [0] (fun k : Nat => ⟨[(0, .one (.pv (strs l))), (3, sc (.int .i64 (lenB (stAt l 0)))), (4, .one (.own 0 1 0 ((lenB (stAt l 0)) * l.length))), (21, sc (.int .i64 (((lenB (stAt l 0)) * l.length : Nat) : Int))), (22, sc (.int .i64 k))], [some ⟨3, (lenB (stAt l 0)) * l.length, fun i => if i < k then vi i else vi 0⟩], 116⟩)
    (fun k => k ≤ (lenB (stAt l 0)) * l.length) (fun k => (lenB (stAt l 0)) * l.length - k) 0 (by omega) ?_ ?_
  · exact ⟨rfl, by decide, ⟨VE.rfl' _, rfl, ⟨rfl, rfl, rfl, rfl⟩, rfl, rfl, trivial⟩, ⟨rfl, Nat.le_of_eq (by simp), fun i hi => VE.of_eq (by simp)⟩, trivial⟩
  intro k hk
  by_cases hkl : k < (lenB (stAt l 0)) * l.length
  · repeat' (first | (with_reducible first | refine then_normal ?_ | refine then_ret ?_ | refine then_exit ?_ | refine block_normal ?_ | refine block_ret ?_) | ((with_reducible show blockQ _ _ _ _); first | refine block_exit ?_ | refine block_exit_ne rfl ?_) | ((with_reducible show AWP _ _ _ _ _); first | (with_reducible first | refine AWP.seq ?_ | refine AWP.block ?_ | refine AWP.region ?_ | refine AWP.ret ?_ | refine AWP.exit ?_ | refine AWP.skip ?_) | refine AWP.drawn rfl (by kernel_rfl) ?_ | refine AWP.cond rfl ?_ ?_) | with_reducible refine ev_nil ?_ | ((first | ((with_reducible show evOps _ _ _ _ _ _); (first | refine ev_step rfl ?_ | refine ev_undef rfl rfl rfl ?_); intro K hK) | ((with_reducible show EvOpen _ _ _ _ _ _ _); refine ev_open ?_; intro K hK) | ((with_reducible show SkOpen _ _ _ _ _ _ _); refine sk_open ?_; intro K hK) | ((with_reducible show callK _ _ _ _ _ _ _ _); first | fail)); simp only [evOp, evQ, binK, withS, opd, kput, putS, upd, lookup, InK_i64, storeK, frz, storeV, setBlk, V.one, Value.oneCell', List.set_cons_zero, sz_ints, c_int, nat_suc, List.getElem?_cons_zero, Nat.reduceEqDiff, Nat.reduceLT, Nat.mul_one, Nat.zero_add, ↓reduceIte, eq_self, true_and, Int.toNat_natCast]) | refine ev_guard rfl rfl rfl ?_ ?_ | ((with_reducible show retQ _ _ _ _); simp only [eq_self]) | (with_reducible refine hK _ ?_; clear hK K) | (with_reducible refine And.intro ?_ ?_) | (with_reducible intro hc; try simp only [decide_eq_true_eq, decide_eq_false_iff_not, Int.not_lt] at hc) | omega)
    all_goals try (exfalso; omega; done)
    all_goals
      refine ⟨k + 1, by omega, by omega, [0], rfl, by decide, ⟨VE.rfl' _, rfl, ⟨rfl, rfl, rfl, rfl⟩, rfl, rfl, trivial⟩, ⟨rfl, Nat.le_refl _, fun i hi => VE.of_eq ?_⟩, trivial⟩
      show (if i = k then _ else if i < k then vi i else vi 0) = (if i < k + 1 then vi i else vi 0)
      by_cases h1 : i = k
      · subst h1; rw [if_pos rfl, if_pos (by omega)]
      · rw [if_neg h1]
        by_cases h2 : i < k
        · rw [if_pos h2, if_pos (by omega)]
        · rw [if_neg h2, if_neg (by omega)]
  obtain rfl : k = (lenB (stAt l 0)) * l.length := by omega
  repeat' (first | (with_reducible first | refine then_normal ?_ | refine then_ret ?_ | refine then_exit ?_ | refine block_normal ?_ | refine block_ret ?_) | ((with_reducible show blockQ _ _ _ _); first | refine block_exit ?_ | refine block_exit_ne rfl ?_) | ((with_reducible show AWP _ _ _ _ _); first | (with_reducible first | refine AWP.seq ?_ | refine AWP.block ?_ | refine AWP.region ?_ | refine AWP.ret ?_ | refine AWP.exit ?_ | refine AWP.skip ?_) | refine AWP.drawn rfl (by kernel_rfl) ?_ | refine AWP.cond rfl ?_ ?_) | with_reducible refine ev_nil ?_ | ((first | ((with_reducible show evOps _ _ _ _ _ _); (first | refine ev_step rfl ?_ | refine ev_undef rfl rfl rfl ?_); intro K hK) | ((with_reducible show EvOpen _ _ _ _ _ _ _); refine ev_open ?_; intro K hK) | ((with_reducible show SkOpen _ _ _ _ _ _ _); refine sk_open ?_; intro K hK) | ((with_reducible show callK _ _ _ _ _ _ _ _); first | fail)); simp only [evOp, evQ, binK, withS, opd, kput, putS, upd, lookup, InK_i64, storeK, frz, storeV, setBlk, V.one, Value.oneCell', List.set_cons_zero, sz_ints, c_int, nat_suc, List.getElem?_cons_zero, Nat.reduceEqDiff, Nat.reduceLT, Nat.mul_one, Nat.zero_add, ↓reduceIte, eq_self, true_and, Int.toNat_natCast]) | refine ev_guard rfl rfl rfl ?_ ?_ | ((with_reducible show retQ _ _ _ _); simp only [eq_self]) | (with_reducible refine hK _ ?_; clear hK K) | (with_reducible refine And.intro ?_ ?_) | (with_reducible intro hc; try simp only [decide_eq_true_eq, decide_eq_false_iff_not, Int.not_lt] at hc) | omega)
  all_goals try (exfalso; omega; done)
  refine AWP.loop_entR [0] (fun x : (Nat → Nat) × Bool => ⟨[(0, .one (.pv (strs l))), (3, sc (.int .i64 (lenB (stAt l 0)))), (4, .one (.own 0 1 0 ((lenB (stAt l 0)) * l.length))), (6, sc (.bool x.2))], [some (bnats ((lenB (stAt l 0)) * l.length) x.1)], 116⟩)
    (fun x => LbOk l.length (lenB (stAt l 0)) g x.1 ∧ (x.2 = false → ∀ i, i < l.length * (lenB (stAt l 0)) → x.1 i = L i)) (fun x => sumN x.1 (l.length * (lenB (stAt l 0))) + if x.2 then 1 else 0) (fun i => i, true) ⟨LbOk.start, fun h => nomatch h⟩ ?_ ?_
  · exact ⟨rfl, by decide, ⟨VE.rfl' _, rfl, ⟨rfl, rfl, rfl, rfl⟩, rfl, trivial⟩, nats_be fun i hi => if_pos hi, trivial⟩
  rintro ⟨out0, c0⟩ ⟨hO, hE⟩
  dsimp only at hO hE ⊢
  cases c0 with
  | false =>
    have hE := hE rfl
    repeat' (first | (with_reducible first | refine then_normal ?_ | refine then_ret ?_ | refine then_exit ?_ | refine block_normal ?_ | refine block_ret ?_) | ((with_reducible show blockQ _ _ _ _); first | refine block_exit ?_ | refine block_exit_ne rfl ?_) | ((with_reducible show AWP _ _ _ _ _); first | (with_reducible first | refine AWP.seq ?_ | refine AWP.block ?_ | refine AWP.region ?_ | refine AWP.ret ?_ | refine AWP.exit ?_ | refine AWP.skip ?_) | refine AWP.drawn rfl (by kernel_rfl) ?_ | refine AWP.cond rfl ?_ ?_) | with_reducible refine ev_nil ?_ | ((first | ((with_reducible show evOps _ _ _ _ _ _); (first | refine ev_step rfl ?_ | refine ev_undef rfl rfl rfl ?_); intro K hK) | ((with_reducible show EvOpen _ _ _ _ _ _ _); refine ev_open ?_; intro K hK) | ((with_reducible show SkOpen _ _ _ _ _ _ _); refine sk_open ?_; intro K hK) | ((with_reducible show callK _ _ _ _ _ _ _ _); first | fail)); simp only [evOp, evQ, withS, opd, kput, putS, upd, lookup, bnats, Nat.reduceEqDiff, Nat.reduceLT, ↓reduceIte, eq_self, true_and]) | refine ev_guard rfl rfl rfl ?_ ?_ | ((with_reducible show retQ _ _ _ _); simp only [retQ, retOk, getL, lookup, Option.map_some, fitsL, fits, ND, srcs, Res.list, List.getElem?_cons_zero, Nat.reduceEqDiff, ↓reduceIte, and_true, true_and]) | (with_reducible refine hK _ ?_; clear hK K) | (with_reducible refine And.intro ?_ ?_) | (with_reducible intro hc; try simp only [reduceCtorEq] at hc) | omega)
    all_goals first
      | (exfalso; omega)
      | exact ⟨_, rfl, nats_be fun i hi => by rw [hE i (by omega)]⟩
      | (simp; done)
      | trace_state
  | true =>
    have hst := PsOk.start hO
    generalize hz : sumN out0 (l.length * (lenB (stAt l 0))) = z at *
    repeat' (first | (with_reducible first | refine then_normal ?_ | refine then_ret ?_ | refine then_exit ?_ | refine block_normal ?_ | refine block_ret ?_) | ((with_reducible show blockQ _ _ _ _); first | refine block_exit ?_ | refine block_exit_ne rfl ?_) | ((with_reducible show AWP _ _ _ _ _); first | (with_reducible first | refine AWP.seq ?_ | refine AWP.block ?_ | refine AWP.region ?_ | refine AWP.ret ?_ | refine AWP.exit ?_ | refine AWP.skip ?_) | refine AWP.drawn rfl (by kernel_rfl) ?_ | refine AWP.cond rfl ?_ ?_) | with_reducible refine ev_nil ?_ | ((first | ((with_reducible show evOps _ _ _ _ _ _); (first | refine ev_step rfl ?_ | refine ev_undef rfl rfl rfl ?_); intro K hK) | ((with_reducible show EvOpen _ _ _ _ _ _ _); refine ev_open ?_; intro K hK) | ((with_reducible show SkOpen _ _ _ _ _ _ _); refine sk_open ?_; intro K hK) | ((with_reducible show callK _ _ _ _ _ _ _ _); first | fail)); simp only [evOp, evQ, evB, withS, opd, kput, putS, upd, lookup, sz_ints, bnats, Nat.reduceEqDiff, Nat.reduceLT, ↓reduceIte, eq_self, true_and, Option.isSome_some]) | refine ev_guard rfl rfl rfl ?_ ?_ | ((with_reducible show retQ _ _ _ _); simp only [eq_self]) | (with_reducible refine hK _ ?_; clear hK K) | (with_reducible refine And.intro ?_ ?_) | (with_reducible intro hc; try simp only [Bool.true_eq_false] at hc) | omega)
    all_goals try (exfalso; omega; done)
    refine AWP.loop_entR [0] (fun x : Nat × (Nat → Nat) × Bool => ⟨[(0, .one (.pv (strs l))), (3, sc (.int .i64 (lenB (stAt l 0)))), (4, .one (.own 0 1 0 ((lenB (stAt l 0)) * l.length))), (6, sc (.bool x.2.2)), (32, sc (.int .i64 (((lenB (stAt l 0)) * l.length : Nat) : Int))), (33, sc (.int .i64 x.1))], [some (bnats ((lenB (stAt l 0)) * l.length) x.2.1)], 116⟩)
      (fun x => x.1 ≤ l.length * (lenB (stAt l 0)) ∧ PsOk l.length (lenB (stAt l 0)) g z x.2.1 x.2.2 x.1 0) (fun x => l.length * (lenB (stAt l 0)) - x.1) (0, out0, false) ⟨by omega, hst⟩ ?_ ?_
    · exact ⟨rfl, by decide, ⟨VE.rfl' _, rfl, ⟨rfl, rfl, rfl, rfl⟩, rfl, rfl, rfl, trivial⟩, BE.rfl' _, trivial⟩
    rintro ⟨i, out, c⟩ ⟨hi, hP⟩
    dsimp only at hi hP ⊢
    by_cases hil : i < l.length * (lenB (stAt l 0))
    · repeat' (first | (with_reducible first | refine then_normal ?_ | refine then_ret ?_ | refine then_exit ?_ | refine block_normal ?_ | refine block_ret ?_) | ((with_reducible show blockQ _ _ _ _); first | refine block_exit ?_ | refine block_exit_ne rfl ?_) | ((with_reducible show AWP _ _ _ _ _); first | (with_reducible first | refine AWP.seq ?_ | refine AWP.block ?_ | refine AWP.region ?_ | refine AWP.ret ?_ | refine AWP.exit ?_ | refine AWP.skip ?_) | refine AWP.drawn rfl (by kernel_rfl) ?_ | refine AWP.cond rfl ?_ ?_) | with_reducible refine ev_nil ?_ | ((first | ((with_reducible show evOps _ _ _ _ _ _); (first | refine ev_step rfl ?_ | refine ev_undef rfl rfl rfl ?_); intro K hK) | ((with_reducible show EvOpen _ _ _ _ _ _ _); refine ev_open ?_; intro K hK) | ((with_reducible show SkOpen _ _ _ _ _ _ _); refine sk_open ?_; intro K hK) | ((with_reducible show callK _ _ _ _ _ _ _ _); first | fail)); simp only [evOp, evQ, evB, binK, withS, opd, kput, putS, upd, lookup, InK_i64, frz, newBlk, partsK, buildSliceK, plSlice, V.one, Value.oneCell', sz_ints, ei_ints, ea_ints, bnats, nat_suc, nat_add, List.nil_append, List.cons_append, List.length_cons, List.length_nil, Nat.reduceEqDiff, Nat.reduceLT, Nat.reduceLeDiff, Nat.mul_one, Nat.zero_add, Nat.mod_one, List.getD_cons_zero, ↓reduceIte, eq_self, true_and, Bool.false_eq_true, Option.isSome_some]) | refine ev_guard rfl rfl rfl ?_ ?_ | ((with_reducible show retQ _ _ _ _); simp only [eq_self]) | (with_reducible refine hK _ ?_; clear hK K) | (with_reducible refine And.intro ?_ ?_) | (with_reducible intro hc; try simp only [decide_eq_true_eq, decide_eq_false_iff_not, Int.not_lt] at hc) | omega)
      all_goals try (exfalso; omega; done)
      all_goals try (omega; done)
      refine AWP.loop_entR [0, 1] (fun x : Nat × (Nat → Nat) × Bool => ⟨[(0, .one (.pv (strs l))), (3, sc (.int .i64 (lenB (stAt l 0)))), (4, .one (.own 0 1 0 ((lenB (stAt l 0)) * l.length))), (6, sc (.bool x.2.2)), (7, sc (.int .i64 i)), (32, sc (.int .i64 (((lenB (stAt l 0)) * l.length : Nat) : Int))), (33, sc (.int .i64 i)), (41, .one (.own 1 1 0 2)), (42, sc (.int .i64 2)), (43, sc (.int .i64 x.1))], [some (bnats ((lenB (stAt l 0)) * l.length) x.2.1), some ⟨3, 2, fun j => vi (sdP (lenB (stAt l 0)) i j : Nat)⟩], 116⟩)
        (fun x => x.1 ≤ 2 ∧ PsOk l.length (lenB (stAt l 0)) g z x.2.1 x.2.2 i x.1) (fun x => 2 - x.1) (0, out, c) ⟨by omega, hP⟩ ?_ ?_
      · refine ⟨rfl, by decide, ⟨VE.rfl' _, rfl, ⟨rfl, rfl, rfl, rfl⟩, rfl, rfl, rfl, rfl, ⟨rfl, rfl, rfl, rfl⟩, rfl, rfl, trivial⟩, BE.rfl' _, ?_, trivial⟩
        exact two_be (Nat.le_refl _) rfl rfl
      rintro ⟨s, out, c⟩ ⟨hs, hP⟩
      dsimp only at hs hP ⊢
      by_cases hsl : s < 2
      · have hri := hp3 (i / (lenB (stAt l 0))) (hrow i hil)
        have hi1 := hrow i hil
        have hi2 := hcol i
        have hk2 := hcol (sdP (lenB (stAt l 0)) i s)
        have hrk : sdP (lenB (stAt l 0)) i s < l.length * (lenB (stAt l 0)) → sdP (lenB (stAt l 0)) i s / (lenB (stAt l 0)) < l.length ∧ lenB (stAt l (sdP (lenB (stAt l 0)) i s / (lenB (stAt l 0)))) = (lenB (stAt l 0)) := fun h => ⟨hrow _ h, hp3 _ (hrow _ h)⟩
        by_cases hgo : As l.length (lenB (stAt l 0)) g s i ∧ out i ≠ out (sdP (lenB (stAt l 0)) i s)
        · obtain ⟨hA, hne⟩ := hgo
          have hJ := hP.join (by omega) hsl hA hne
          obtain ⟨_, hk, h0, hge⟩ := hA
          obtain ⟨hk1, hk3⟩ := hrk hk
          have h0' : s ≠ 0 ∨ sdP (lenB (stAt l 0)) i s % (lenB (stAt l 0)) ≠ 0 := by
            by_cases e : s = 0
            · exact .inr (h0 e)
            · exact .inl e
          have hlet : byteI (stAt l (i / (lenB (stAt l 0)))) (i % (lenB (stAt l 0))) = byteI (stAt l (sdP (lenB (stAt l 0)) i s / (lenB (stAt l 0)))) (sdP (lenB (stAt l 0)) i s % (lenB (stAt l 0))) := by rw [← hgd, ← hgd]; exact hge
          have hmin : (if ((out i : Nat) : Int) < (out (sdP (lenB (stAt l 0)) i s) : Nat) then ((out i : Nat) : Int) else (out (sdP (lenB (stAt l 0)) i s) : Nat)) = ((min (out i) (out (sdP (lenB (stAt l 0)) i s)) : Nat) : Int) := by split <;> omega
          have hl := l1Least_fn (out i : Nat) (out (sdP (lenB (stAt l 0)) i s) : Nat)
          rw [hmin] at hl
          have hjq : ∀ q, joinL out i (sdP (lenB (stAt l 0)) i s) q = if q = sdP (lenB (stAt l 0)) i s then min (out i) (out (sdP (lenB (stAt l 0)) i s)) else if q = i then min (out i) (out (sdP (lenB (stAt l 0)) i s)) else out q := fun q => rfl
          have hj2 : ∀ q, (if q = sdP (lenB (stAt l 0)) i s then vi ((min (out i) (out (sdP (lenB (stAt l 0)) i s)) : Nat) : Int) else if q = i then vi ((min (out i) (out (sdP (lenB (stAt l 0)) i s)) : Nat) : Int) else vi (out q : Nat)) = vi (joinL out i (sdP (lenB (stAt l 0)) i s) q : Nat) := fun q => by
            rw [hjq q]
            by_cases h1 : q = sdP (lenB (stAt l 0)) i s
            · rw [if_pos h1, if_pos h1]
            · rw [if_neg h1, if_neg h1]
              by_cases h2 : q = i
              · rw [if_pos h2, if_pos h2]
              · rw [if_neg h2, if_neg h2]
          clear hjq
          repeat' (first | (with_reducible first | refine then_normal ?_ | refine then_ret ?_ | refine then_exit ?_ | refine block_normal ?_ | refine block_ret ?_) | ((with_reducible show blockQ _ _ _ _); first | refine block_exit ?_ | refine block_exit_ne rfl ?_) | ((with_reducible show AWP _ _ _ _ _); first | (with_reducible first | refine AWP.seq ?_ | refine AWP.block ?_ | refine AWP.region ?_ | refine AWP.ret ?_ | refine AWP.exit ?_ | refine AWP.skip ?_) | refine AWP.drawn rfl (by kernel_rfl) ?_ | refine AWP.cond rfl ?_ ?_) | with_reducible refine ev_nil ?_ | ((first | ((with_reducible show evOps _ _ _ _ _ _); (first | refine ev_step rfl ?_ | refine ev_undef rfl rfl rfl ?_); intro K hK) | ((with_reducible show EvOpen _ _ _ _ _ _ _); refine ev_open ?_; intro K hK) | ((with_reducible show SkOpen _ _ _ _ _ _ _); refine sk_open ?_; intro K hK) | ((with_reducible show callK _ _ _ _ _ _ _ _); first  | (refine call_scalar (hl) (Nat.le_of_ble_eq_true rfl) rfl ?_))); simp only [evOp, evQ, evB, binK, withS, opd, kput, putS, upd, lookup, skipOp, argsK, loadOwn, bringIn, bring, Res.list, Res.slot, InK_i64, storeK, frz, storeV, setBlk, V.one, Value.oneCell', List.set_cons_zero, sz_ints, c_int, sz_strs, c_string, u_string, lenB_is, byteI_is, bnats, nat_quo, nat_rem, nat_suc, List.getElem?_cons_zero, List.getElem?_cons_succ, List.reverse_cons, List.reverse_nil, List.nil_append, List.cons_append, Nat.reduceEqDiff, Nat.reduceLT, Nat.mul_one, Nat.add_zero, Nat.zero_add, ↓reduceIte, eq_self, true_and, and_true, Bool.not_true, Bool.not_false, Bool.true_eq_false, Bool.false_eq_true, false_implies, forall_const, Int.toNat_natCast, Option.isSome_some]) | refine ev_guard rfl rfl rfl ?_ ?_ | ((with_reducible show retQ _ _ _ _); simp only [eq_self]) | (with_reducible refine hK _ ?_; clear hK K) | (with_reducible refine And.intro ?_ ?_) | (with_reducible intro hc; try simp only [decide_eq_true_eq, decide_eq_false_iff_not, beq_iff_eq, beq_eq_false_iff_ne, bne_iff_ne, bne_eq_false_iff_eq, Bool.not_true, Bool.not_false, Int.not_lt, Int.not_le, ge_iff_le, ne_eq, reduceCtorEq, Bool.true_eq_false] at hc) | omega)
          all_goals first
            | (exfalso; omega)
            | exact Int.natCast_nonneg _
            | exact Int.le_trans (by decide) (Int.natCast_nonneg _)
            | omega
            | (exfalso; exact absurd hlet ‹_›)
            | exact ⟨(s + 1, joinL out i (sdP (lenB (stAt l 0)) i s), true), ⟨by show s + 1 ≤ 2; omega, hJ⟩, by show 2 - (s + 1) < 2 - s; omega, [0, 1], rfl, by decide, ⟨VE.rfl' _, rfl, ⟨rfl, rfl, rfl, rfl⟩, VE.rfl' _, rfl, rfl, rfl, ⟨rfl, rfl, rfl, rfl⟩, rfl, rfl, trivial⟩, nats_be fun q hq => hj2 q, BE.rfl' _, trivial⟩
            | trace_state
        · have hs' : As l.length (lenB (stAt l 0)) g s i → out i = out (sdP (lenB (stAt l 0)) i s) := fun h => Classical.byContradiction fun h2 => hgo ⟨h, h2⟩
          have hS := hP.skip hs'
          repeat' (first | (with_reducible first | refine then_normal ?_ | refine then_ret ?_ | refine then_exit ?_ | refine block_normal ?_ | refine block_ret ?_) | ((with_reducible show blockQ _ _ _ _); first | refine block_exit ?_ | refine block_exit_ne rfl ?_) | ((with_reducible show AWP _ _ _ _ _); first | (refine AWP.holdP (id := 18) ?_) | (with_reducible first | refine AWP.seq ?_ | refine AWP.block ?_ | refine AWP.region ?_ | refine AWP.ret ?_ | refine AWP.exit ?_ | refine AWP.skip ?_) | refine AWP.drawn rfl (by kernel_rfl) ?_ | refine AWP.cond rfl ?_ ?_) | with_reducible refine ev_nil ?_ | ((first | ((with_reducible show evOps _ _ _ _ _ _); (first | refine ev_step rfl ?_ | refine ev_undef rfl rfl rfl ?_); intro K hK) | ((with_reducible show EvOpen _ _ _ _ _ _ _); refine ev_open ?_; intro K hK) | ((with_reducible show SkOpen _ _ _ _ _ _ _); refine sk_open ?_; intro K hK) | ((with_reducible show callK _ _ _ _ _ _ _ _); first  | fail)); simp only [evOp, evQ, evB, binK, withS, opd, kput, putS, upd, lookup, skipOp, loadOwn, InK_i64, sz_ints, c_int, sz_strs, c_string, u_string, lenB_is, byteI_is, bnats, nat_quo, nat_rem, nat_suc, List.getElem?_cons_zero, List.getElem?_cons_succ, Nat.reduceEqDiff, Nat.reduceLT, Nat.mul_one, Nat.add_zero, Nat.zero_add, ↓reduceIte, eq_self, true_and, and_true, Bool.not_true, Bool.not_false, Bool.true_eq_false, Bool.false_eq_true, false_implies, forall_const, Int.toNat_natCast, Option.isSome_some]) | refine ev_guard rfl rfl rfl ?_ ?_ | ((with_reducible show retQ _ _ _ _); simp only [eq_self]) | (with_reducible refine hK _ ?_; clear hK K) | (with_reducible refine And.intro ?_ ?_) | (with_reducible intro hc; try simp only [decide_eq_true_eq, decide_eq_false_iff_not, beq_iff_eq, beq_eq_false_iff_ne, bne_iff_ne, bne_eq_false_iff_eq, Bool.not_true, Bool.not_false, Int.not_lt, Int.not_le, ge_iff_le, ne_eq, reduceCtorEq, Bool.true_eq_false] at hc) | omega)
          all_goals first
            | (exfalso; omega)
            | exact ⟨(s + 1, out, c), ⟨by show s + 1 ≤ 2; omega, hS⟩, by show 2 - (s + 1) < 2 - s; omega, [0, 1], rfl, by decide, ⟨VE.rfl' _, rfl, ⟨rfl, rfl, rfl, rfl⟩, rfl, rfl, rfl, rfl, ⟨rfl, rfl, rfl, rfl⟩, rfl, rfl, trivial⟩, BE.rfl' _, BE.rfl' _, trivial⟩
            | exact Int.natCast_nonneg _
            | exact Int.le_trans (by decide) (Int.natCast_nonneg _)
            | (obtain ⟨h1, h2⟩ := hrk (by omega); omega)
            | (exfalso; refine hgo ⟨⟨hil, by omega, fun h => by omega, by rw [hgd, hgd]; assumption⟩, fun h => ?_⟩
               have hne : ¬ ((out i : Nat) : Int) = (out (sdP (lenB (stAt l 0)) i s) : Nat) := by assumption
               exact hne (by rw [h]))
            | trace_state
      · obtain rfl : s = 2 := by omega
        have hN := hP.next
        repeat' (first | (with_reducible first | refine then_normal ?_ | refine then_ret ?_ | refine then_exit ?_ | refine block_normal ?_ | refine block_ret ?_) | ((with_reducible show blockQ _ _ _ _); first | refine block_exit ?_ | refine block_exit_ne rfl ?_) | ((with_reducible show AWP _ _ _ _ _); first | (with_reducible first | refine AWP.seq ?_ | refine AWP.block ?_ | refine AWP.region ?_ | refine AWP.ret ?_ | refine AWP.exit ?_ | refine AWP.skip ?_) | refine AWP.drawn rfl (by kernel_rfl) ?_ | refine AWP.cond rfl ?_ ?_) | with_reducible refine ev_nil ?_ | ((first | ((with_reducible show evOps _ _ _ _ _ _); (first | refine ev_step rfl ?_ | refine ev_undef rfl rfl rfl ?_); intro K hK) | ((with_reducible show EvOpen _ _ _ _ _ _ _); refine ev_open ?_; intro K hK) | ((with_reducible show SkOpen _ _ _ _ _ _ _); refine sk_open ?_; intro K hK) | ((with_reducible show callK _ _ _ _ _ _ _ _); first | fail)); simp only [evOp, evQ, evB, binK, withS, opd, kput, putS, upd, lookup, skipOp, argsK, loadOwn, InK_i64, sz_ints, c_int, sz_strs, c_string, u_string, lenB_is, byteI_is, bnats, nat_quo, nat_rem, nat_suc, List.getElem?_cons_zero, List.getElem?_cons_succ, List.reverse_cons, List.reverse_nil, List.nil_append, List.cons_append, Nat.reduceEqDiff, Nat.reduceAdd, Nat.reduceLT, Nat.mul_one, Nat.add_zero, Nat.zero_add, ↓reduceIte, eq_self, true_and, and_true, Bool.not_true, Bool.not_false, Bool.true_eq_false, Bool.false_eq_true, false_implies, forall_const, Int.toNat_natCast, Option.isSome_some]) | refine ev_guard rfl rfl rfl ?_ ?_ | ((with_reducible show retQ _ _ _ _); simp only [eq_self]) | (with_reducible refine hK _ ?_; clear hK K) | (with_reducible refine And.intro ?_ ?_) | (with_reducible intro hc; try simp only [decide_eq_true_eq, decide_eq_false_iff_not, beq_iff_eq, beq_eq_false_iff_ne, bne_iff_ne, bne_eq_false_iff_eq, Bool.not_true, Bool.not_false, Int.not_lt, Int.not_le, ge_iff_le, ne_eq, reduceCtorEq, Bool.true_eq_false] at hc) | omega)
        all_goals first
          | (exfalso; omega)
          | exact ⟨(i + 1, out, c), ⟨by show i + 1 ≤ _; omega, hN⟩, by show l.length * (lenB (stAt l 0)) - (i + 1) < l.length * (lenB (stAt l 0)) - i; omega, [0], rfl, by decide, ⟨VE.rfl' _, rfl, ⟨rfl, rfl, rfl, rfl⟩, rfl, rfl, rfl, trivial⟩, BE.rfl' _, trivial⟩
          | trace_state
    · obtain rfl : i = l.length * (lenB (stAt l 0)) := by omega
      repeat' (first | (with_reducible first | refine then_normal ?_ | refine then_ret ?_ | refine then_exit ?_ | refine block_normal ?_ | refine block_ret ?_) | ((with_reducible show blockQ _ _ _ _); first | refine block_exit ?_ | refine block_exit_ne rfl ?_) | ((with_reducible show AWP _ _ _ _ _); first | (with_reducible first | refine AWP.seq ?_ | refine AWP.block ?_ | refine AWP.region ?_ | refine AWP.ret ?_ | refine AWP.exit ?_ | refine AWP.skip ?_) | refine AWP.drawn rfl (by kernel_rfl) ?_ | refine AWP.cond rfl ?_ ?_) | with_reducible refine ev_nil ?_ | ((first | ((with_reducible show evOps _ _ _ _ _ _); (first | refine ev_step rfl ?_ | refine ev_undef rfl rfl rfl ?_); intro K hK) | ((with_reducible show EvOpen _ _ _ _ _ _ _); refine ev_open ?_; intro K hK) | ((with_reducible show SkOpen _ _ _ _ _ _ _); refine sk_open ?_; intro K hK) | ((with_reducible show callK _ _ _ _ _ _ _ _); first | fail)); simp only [evOp, evQ, evB, binK, withS, opd, kput, putS, upd, lookup, InK_i64, frz, newBlk, partsK, buildSliceK, plSlice, V.one, Value.oneCell', sz_ints, ei_ints, ea_ints, bnats, nat_suc, nat_add, List.nil_append, List.cons_append, List.length_cons, List.length_nil, Nat.reduceEqDiff, Nat.reduceLT, Nat.reduceLeDiff, Nat.mul_one, Nat.zero_add, Nat.mod_one, List.getD_cons_zero, ↓reduceIte, eq_self, true_and, Bool.false_eq_true, Option.isSome_some]) | refine ev_guard rfl rfl rfl ?_ ?_ | ((with_reducible show retQ _ _ _ _); simp only [eq_self]) | (with_reducible refine hK _ ?_; clear hK K) | (with_reducible refine And.intro ?_ ?_) | (with_reducible intro hc; try simp only [decide_eq_true_eq, decide_eq_false_iff_not, Int.not_lt] at hc) | omega)
      all_goals first
        | (exfalso; omega)
        | (refine ⟨(out, c), ⟨hP.ok, ?_⟩, ?_, [0], rfl, by decide, ⟨VE.rfl' _, rfl, ⟨rfl, rfl, rfl, rfl⟩, rfl, trivial⟩, BE.rfl' _, trivial⟩
           · rintro rfl
             exact hfin _ _ hP
           · cases c with
             | false => have := (hP.no rfl).1; show sumN out (l.length * (lenB (stAt l 0))) + 0 < z + 1; omega
             | true => have := hP.yes rfl; show sumN out (l.length * (lenB (stAt l 0))) + 1 < z + 1; omega)
        | trace_state
end Go.Proofs.Yteapdildbfimnaa
namespace Go.Proofs.Yteapdildbfimnaa
open Go.RowKit Go.Proofs
set_option linter.unusedSimpArgs false
set_option linter.unusedVariables false
theorem partF_0 (L : List (Int × Nat)) (k : Nat) : partF L (k * 2) = vu (L.getD k (0, 0)).1 := by unfold partF; rw [if_pos (by omega), show k * 2 / 2 = k by omega]
theorem partF_1 (L : List (Int × Nat)) (k : Nat) : partF L (k * 2 + 1) = vi (L.getD k (0, 0)).2 := by unfold partF; rw [if_neg (by omega), show (k * 2 + 1) / 2 = k by omega]

theorem safe_parts (L : List (Int × Nat)) : Safe (Res.one (.fr 2 L.length (bparts L))).list := ⟨fun i _ => by
  show ∃ u, partF L i = .val u
  unfold partF; split <;> exact ⟨_, rfl⟩, trivial⟩
noncomputable def labL (l : List ByteArray) : Nat → Nat := Classical.choose (lab_ex (Ad l.length (lenB (stAt l 0)) (gP l)))
theorem labL_is (l : List ByteArray) : IsLab (Ad l.length (lenB (stAt l 0)) (gP l)) (labL l) := Classical.choose_spec (lab_ex (Ad l.length (lenB (stAt l 0)) (gP l)))
noncomputable def cpN (l : List ByteArray) : Nat := cntN (fun i => decide (labL l i = i)) (l.length * lenB (stAt l 0))
noncomputable def cpR (l : List ByteArray) : Int × Bool := if picB l then (((cpN l : Nat) : Int), true) else (0, false)
theorem cpR_yes {l : List ByteArray} (h : picB l = true) : cpR l = (((cpN l : Nat) : Int), true) := by unfold cpR; rw [h]; rfl
theorem cpR_no {l : List ByteArray} (h : picB l = false) : cpR l = (0, false) := by unfold cpR; rw [h]; rfl

theorem implCountParts_fn (l : List ByteArray) (hl : l.length ≤ 1099511627776) : Fn Try.prog 29 [strs l] (.many [.pv (vi (cpR l).1), .pv (vb (cpR l).2)]) := by
  refine Fn.of_body Try.call29 Try.func29 rfl Try.ntmps29 (ts := [2, 3]) rfl (by simp) rfl (fun N => ?_)
  have hpic := isPicture_fn l hl
  cases hp : picB l with
  | true =>
    rw [cpR_yes hp]
    rw [hp] at hpic
    have hpp := pictureParts_fn l hp (labL_is l)
    have hlen := partsL_len (H := l.length) (W := lenB (stAt l 0)) (g := gP l) (L := labL l) (l.length * lenB (stAt l 0))
    unfold cpN
    rw [← hlen]
    have hle : (partsL l.length (lenB (stAt l 0)) (gP l) (labL l) (l.length * lenB (stAt l 0))).length ≤ 256 := by
      obtain ⟨hp1, hp2, hp3⟩ := picB_parts hp
      have : l.length * lenB (stAt l 0) ≤ 256 := Nat.mul_le_mul hp1.2 hp2.2
      rw [hlen]; exact Nat.le_trans (cntN_le _ _) this
    generalize partsL l.length (lenB (stAt l 0)) (gP l) (labL l) (l.length * lenB (stAt l 0)) = PL at *
    repeat' (first | (with_reducible first | refine then_normal ?_ | refine then_ret ?_ | refine then_exit ?_ | refine block_normal ?_ | refine block_ret ?_) | ((with_reducible show blockQ _ _ _ _); first | refine block_exit ?_ | refine block_exit_ne rfl ?_) | ((with_reducible show AWP _ _ _ _ _); first | (with_reducible first | refine AWP.seq ?_ | refine AWP.block ?_ | refine AWP.region ?_ | refine AWP.ret ?_ | refine AWP.exit ?_ | refine AWP.skip ?_) | refine AWP.drawn rfl (by kernel_rfl) ?_ | refine AWP.cond rfl ?_ ?_) | with_reducible refine ev_nil ?_ | ((first | ((with_reducible show evOps _ _ _ _ _ _); (first | refine ev_step rfl ?_ | refine ev_undef rfl rfl rfl ?_); intro K hK) | ((with_reducible show EvOpen _ _ _ _ _ _ _); refine ev_open ?_; intro K hK) | ((with_reducible show SkOpen _ _ _ _ _ _ _); refine sk_open ?_; intro K hK) | ((with_reducible show callK _ _ _ _ _ _ _ _); first  | (refine call_scalar (hpic) (Nat.le_of_ble_eq_true rfl) rfl ?_) | (refine call_safe (hpp) (Nat.le_of_ble_eq_true rfl) (safe_parts PL) ?_))); simp only [evOp, evQ, evB, withS, opd, kput, putS, upd, lookup, argsK, bringIn, bring, Res.list, Res.slot, slotsOf, sz_parts, List.reverse_cons, List.reverse_nil, List.nil_append, List.length_nil, Nat.reduceEqDiff, Nat.reduceLT, ↓reduceIte, eq_self, true_and, Bool.not_true, Option.isSome_some]) | refine ev_guard rfl rfl rfl ?_ ?_ | ((with_reducible show retQ _ _ _ _); simp only [retQ, retOk, getL, lookup, Option.map_some, fitsL, fits, ND, srcs, Res.list, VE, Nat.reduceEqDiff, ↓reduceIte, and_true]) | (with_reducible refine hK _ ?_; clear hK K) | (with_reducible refine And.intro ?_ ?_) | (with_reducible intro hc; try simp only [reduceCtorEq] at hc) | omega)
    all_goals first
      | (exfalso; omega)
      | (exfalso; simp_all; done)
      | (simp; done)
      | trace_state
  | false =>
    rw [cpR_no hp]
    rw [hp] at hpic
    repeat' (first | (with_reducible first | refine then_normal ?_ | refine then_ret ?_ | refine then_exit ?_ | refine block_normal ?_ | refine block_ret ?_) | ((with_reducible show blockQ _ _ _ _); first | refine block_exit ?_ | refine block_exit_ne rfl ?_) | ((with_reducible show AWP _ _ _ _ _); first | (with_reducible first | refine AWP.seq ?_ | refine AWP.block ?_ | refine AWP.region ?_ | refine AWP.ret ?_ | refine AWP.exit ?_ | refine AWP.skip ?_) | refine AWP.drawn rfl (by kernel_rfl) ?_ | refine AWP.cond rfl ?_ ?_) | with_reducible refine ev_nil ?_ | ((first | ((with_reducible show evOps _ _ _ _ _ _); (first | refine ev_step rfl ?_ | refine ev_undef rfl rfl rfl ?_); intro K hK) | ((with_reducible show EvOpen _ _ _ _ _ _ _); refine ev_open ?_; intro K hK) | ((with_reducible show SkOpen _ _ _ _ _ _ _); refine sk_open ?_; intro K hK) | ((with_reducible show callK _ _ _ _ _ _ _ _); first  | (refine call_scalar (hpic) (Nat.le_of_ble_eq_true rfl) rfl ?_))); simp only [evOp, evQ, withS, opd, kput, putS, upd, lookup, argsK, bringIn, bring, Res.list, Res.slot, slotsOf, List.reverse_cons, List.reverse_nil, List.nil_append, Nat.reduceEqDiff, Nat.reduceLT, ↓reduceIte, eq_self, true_and, Bool.not_false]) | refine ev_guard rfl rfl rfl ?_ ?_ | ((with_reducible show retQ _ _ _ _); simp only [retQ, retOk, getL, lookup, Option.map_some, fitsL, fits, ND, srcs, Res.list, VE, Nat.reduceEqDiff, ↓reduceIte, and_true]) | (with_reducible refine hK _ ?_; clear hK K) | (with_reducible refine And.intro ?_ ?_) | (with_reducible intro hc; try simp only [Bool.true_eq_false] at hc) | omega)
    all_goals first
      | (exfalso; omega)
      | (exfalso; simp_all; done)
      | trace_state

theorem cntN_suc (f : Nat → Bool) (k : Nat) : cntN f (k + 1) = cntN f k + (if f k = true then 1 else 0) := rfl

theorem specCountParts_fn (l : List ByteArray) (hl : l.length ≤ 1099511627776) (hs : ∀ i, lenB (stAt l i) ≤ 1099511627776) : Fn Try.prog 30 [strs l] (.many [.pv (vi (cpR l).1), .pv (vb (cpR l).2)]) := by
  refine Fn.of_body Try.call30 Try.func30 rfl Try.ntmps30 (ts := [2, 3]) rfl (by simp) rfl (fun N => ?_)
  have hpic := drGood_fn l hl hs
  cases hp : picB l with
  | true =>
    rw [cpR_yes hp]
    rw [hp] at hpic
    have hpp := drParts_fn l hp (labL_is l)
    have hn : lenB (stAt l 0) * l.length ≤ 256 := by
      obtain ⟨hp1, hp2, hp3⟩ := picB_parts hp
      exact Nat.mul_le_mul hp2.2 hp1.2
    unfold cpN
    rw [Nat.mul_comm l.length]
    generalize lenB (stAt l 0) * l.length = n at *
    generalize labL l = L at *
    repeat' (first | (with_reducible first | refine then_normal ?_ | refine then_ret ?_ | refine then_exit ?_ | refine block_normal ?_ | refine block_ret ?_) | ((with_reducible show blockQ _ _ _ _); first | refine block_exit ?_ | refine block_exit_ne rfl ?_) | ((with_reducible show AWP _ _ _ _ _); first | (with_reducible first | refine AWP.seq ?_ | refine AWP.block ?_ | refine AWP.region ?_ | refine AWP.ret ?_ | refine AWP.exit ?_ | refine AWP.skip ?_) | refine AWP.drawn rfl (by kernel_rfl) ?_ | refine AWP.cond rfl ?_ ?_) | with_reducible refine ev_nil ?_ | ((first | ((with_reducible show evOps _ _ _ _ _ _); (first | refine ev_step rfl ?_ | refine ev_undef rfl rfl rfl ?_); intro K hK) | ((with_reducible show EvOpen _ _ _ _ _ _ _); refine ev_open ?_; intro K hK) | ((with_reducible show SkOpen _ _ _ _ _ _ _); refine sk_open ?_; intro K hK) | ((with_reducible show callK _ _ _ _ _ _ _ _); first  | (refine call_scalar (hpic) (Nat.le_of_ble_eq_true rfl) rfl ?_) | (refine call_safe ( hpp) (Nat.le_of_ble_eq_true rfl) (by repeat' (first | exact trivial | refine ⟨fun _ _ => ⟨_, rfl⟩, ?_⟩)) ?_))); simp only [evOp, evQ, evB, withS, opd, kput, putS, upd, lookup, argsK, bringIn, bring, Res.list, Res.slot, slotsOf, sz_ints, bnats, List.reverse_cons, List.reverse_nil, List.nil_append, List.length_nil, Nat.reduceEqDiff, Nat.reduceLT, ↓reduceIte, eq_self, true_and, Bool.not_true, Option.isSome_some]) | refine ev_guard rfl rfl rfl ?_ ?_ | ((with_reducible show retQ _ _ _ _); simp only [eq_self]) | (with_reducible refine hK _ ?_; clear hK K) | (with_reducible refine And.intro ?_ ?_) | (with_reducible intro hc; try simp only [reduceCtorEq] at hc) | omega)
    all_goals try (exfalso; omega; done)
    refine AWP.loop_entR [0] (fun k : Nat => ⟨[(4, sc (.int .i64 (cntN (fun i => decide (L i = i)) k : Nat))), (11, .one (.own 0 1 0 n)), (12, sc (.int .i64 (n : Nat))), (13, sc (.int .i64 k))], [some (bnats n L)], 25⟩)
      (fun k => k ≤ n) (fun k => n - k) 0 (by omega) ?_ ?_
    · exact ⟨rfl, by decide, ⟨rfl, ⟨rfl, rfl, rfl, rfl⟩, rfl, rfl, trivial⟩, BE.rfl' _, trivial⟩
    intro k hk
    have hc := cntN_le (fun i => decide (L i = i)) k
    by_cases hkl : k < n
    · by_cases e : L k = k
      · have e1 : cntN (fun i => decide (L i = i)) (k + 1) = cntN (fun i => decide (L i = i)) k + 1 := by rw [cntN_suc]; simp [e]
        repeat' (first | (with_reducible first | refine then_normal ?_ | refine then_ret ?_ | refine then_exit ?_ | refine block_normal ?_ | refine block_ret ?_) | ((with_reducible show blockQ _ _ _ _); first | refine block_exit ?_ | refine block_exit_ne rfl ?_) | ((with_reducible show AWP _ _ _ _ _); first | (with_reducible first | refine AWP.seq ?_ | refine AWP.block ?_ | refine AWP.region ?_ | refine AWP.ret ?_ | refine AWP.exit ?_ | refine AWP.skip ?_) | refine AWP.drawn rfl (by kernel_rfl) ?_ | refine AWP.cond rfl ?_ ?_) | with_reducible refine ev_nil ?_ | ((first | ((with_reducible show evOps _ _ _ _ _ _); (first | refine ev_step rfl ?_ | refine ev_undef rfl rfl rfl ?_); intro K hK) | ((with_reducible show EvOpen _ _ _ _ _ _ _); refine ev_open ?_; intro K hK) | ((with_reducible show SkOpen _ _ _ _ _ _ _); refine sk_open ?_; intro K hK) | ((with_reducible show callK _ _ _ _ _ _ _ _); first | fail)); simp only [evOp, evQ, binK, withS, opd, kput, putS, upd, lookup, loadOwn, InK_i64, sz_ints, c_int, bnats, nat_suc, List.getElem?_cons_zero, Nat.reduceEqDiff, Nat.reduceLT, Nat.mul_one, Nat.zero_add, ↓reduceIte, eq_self, true_and, Int.toNat_natCast]) | refine ev_guard rfl rfl rfl ?_ ?_ | ((with_reducible show retQ _ _ _ _); simp only [retQ, retOk, getL, lookup, Option.map_some, fitsL, fits, ND, srcs, Res.list, VE, Value.int.injEq, Nat.reduceEqDiff, ↓reduceIte, and_true, true_and]) | (with_reducible refine hK _ ?_; clear hK K) | (with_reducible refine And.intro ?_ ?_) | (with_reducible intro hc; try simp only [decide_eq_true_eq, decide_eq_false_iff_not, beq_iff_eq, beq_eq_false_iff_ne, Int.not_lt, ne_eq] at hc) | omega)
        all_goals first
          | (exfalso; omega)
          | (refine ⟨k + 1, by omega, by omega, [0], rfl, by decide, ⟨?_, ⟨rfl, rfl, rfl, rfl⟩, rfl, rfl, trivial⟩, BE.rfl' _, trivial⟩
             rw [e1]; rfl)
          | trace_state
      · have e1 : cntN (fun i => decide (L i = i)) (k + 1) = cntN (fun i => decide (L i = i)) k := by rw [cntN_suc]; simp [e]
        repeat' (first | (with_reducible first | refine then_normal ?_ | refine then_ret ?_ | refine then_exit ?_ | refine block_normal ?_ | refine block_ret ?_) | ((with_reducible show blockQ _ _ _ _); first | refine block_exit ?_ | refine block_exit_ne rfl ?_) | ((with_reducible show AWP _ _ _ _ _); first | (with_reducible first | refine AWP.seq ?_ | refine AWP.block ?_ | refine AWP.region ?_ | refine AWP.ret ?_ | refine AWP.exit ?_ | refine AWP.skip ?_) | refine AWP.drawn rfl (by kernel_rfl) ?_ | refine AWP.cond rfl ?_ ?_) | with_reducible refine ev_nil ?_ | ((first | ((with_reducible show evOps _ _ _ _ _ _); (first | refine ev_step rfl ?_ | refine ev_undef rfl rfl rfl ?_); intro K hK) | ((with_reducible show EvOpen _ _ _ _ _ _ _); refine ev_open ?_; intro K hK) | ((with_reducible show SkOpen _ _ _ _ _ _ _); refine sk_open ?_; intro K hK) | ((with_reducible show callK _ _ _ _ _ _ _ _); first | fail)); simp only [evOp, evQ, binK, withS, opd, kput, putS, upd, lookup, loadOwn, InK_i64, sz_ints, c_int, bnats, nat_suc, List.getElem?_cons_zero, Nat.reduceEqDiff, Nat.reduceLT, Nat.mul_one, Nat.zero_add, ↓reduceIte, eq_self, true_and, Int.toNat_natCast]) | refine ev_guard rfl rfl rfl ?_ ?_ | ((with_reducible show retQ _ _ _ _); simp only [retQ, retOk, getL, lookup, Option.map_some, fitsL, fits, ND, srcs, Res.list, VE, Value.int.injEq, Nat.reduceEqDiff, ↓reduceIte, and_true, true_and]) | (with_reducible refine hK _ ?_; clear hK K) | (with_reducible refine And.intro ?_ ?_) | (with_reducible intro hc; try simp only [decide_eq_true_eq, decide_eq_false_iff_not, beq_iff_eq, beq_eq_false_iff_ne, Int.not_lt, ne_eq] at hc) | omega)
        all_goals first
          | (exfalso; omega)
          | (refine ⟨k + 1, by omega, by omega, [0], rfl, by decide, ⟨?_, ⟨rfl, rfl, rfl, rfl⟩, rfl, rfl, trivial⟩, BE.rfl' _, trivial⟩
             rw [e1]; rfl)
          | trace_state
    · obtain rfl : k = n := by omega
      repeat' (first | (with_reducible first | refine then_normal ?_ | refine then_ret ?_ | refine then_exit ?_ | refine block_normal ?_ | refine block_ret ?_) | ((with_reducible show blockQ _ _ _ _); first | refine block_exit ?_ | refine block_exit_ne rfl ?_) | ((with_reducible show AWP _ _ _ _ _); first | (with_reducible first | refine AWP.seq ?_ | refine AWP.block ?_ | refine AWP.region ?_ | refine AWP.ret ?_ | refine AWP.exit ?_ | refine AWP.skip ?_) | refine AWP.drawn rfl (by kernel_rfl) ?_ | refine AWP.cond rfl ?_ ?_) | with_reducible refine ev_nil ?_ | ((first | ((with_reducible show evOps _ _ _ _ _ _); (first | refine ev_step rfl ?_ | refine ev_undef rfl rfl rfl ?_); intro K hK) | ((with_reducible show EvOpen _ _ _ _ _ _ _); refine ev_open ?_; intro K hK) | ((with_reducible show SkOpen _ _ _ _ _ _ _); refine sk_open ?_; intro K hK) | ((with_reducible show callK _ _ _ _ _ _ _ _); first | fail)); simp only [evOp, evQ, binK, withS, opd, kput, putS, upd, lookup, loadOwn, InK_i64, sz_ints, c_int, bnats, nat_suc, List.getElem?_cons_zero, Nat.reduceEqDiff, Nat.reduceLT, Nat.mul_one, Nat.zero_add, ↓reduceIte, eq_self, true_and, Int.toNat_natCast]) | refine ev_guard rfl rfl rfl ?_ ?_ | ((with_reducible show retQ _ _ _ _); simp only [retQ, retOk, getL, lookup, Option.map_some, fitsL, fits, ND, srcs, Res.list, VE, Nat.reduceEqDiff, ↓reduceIte, and_true]) | (with_reducible refine hK _ ?_; clear hK K) | (with_reducible refine And.intro ?_ ?_) | (with_reducible intro hc; try simp only [decide_eq_true_eq, decide_eq_false_iff_not, beq_iff_eq, beq_eq_false_iff_ne, Int.not_lt, ne_eq] at hc) | omega)
      all_goals first
        | (exfalso; omega)
        | (simp; done)
        | trace_state
  | false =>
    rw [cpR_no hp]
    rw [hp] at hpic
    repeat' (first | (with_reducible first | refine then_normal ?_ | refine then_ret ?_ | refine then_exit ?_ | refine block_normal ?_ | refine block_ret ?_) | ((with_reducible show blockQ _ _ _ _); first | refine block_exit ?_ | refine block_exit_ne rfl ?_) | ((with_reducible show AWP _ _ _ _ _); first | (with_reducible first | refine AWP.seq ?_ | refine AWP.block ?_ | refine AWP.region ?_ | refine AWP.ret ?_ | refine AWP.exit ?_ | refine AWP.skip ?_) | refine AWP.drawn rfl (by kernel_rfl) ?_ | refine AWP.cond rfl ?_ ?_) | with_reducible refine ev_nil ?_ | ((first | ((with_reducible show evOps _ _ _ _ _ _); (first | refine ev_step rfl ?_ | refine ev_undef rfl rfl rfl ?_); intro K hK) | ((with_reducible show EvOpen _ _ _ _ _ _ _); refine ev_open ?_; intro K hK) | ((with_reducible show SkOpen _ _ _ _ _ _ _); refine sk_open ?_; intro K hK) | ((with_reducible show callK _ _ _ _ _ _ _ _); first  | (refine call_scalar (hpic) (Nat.le_of_ble_eq_true rfl) rfl ?_))); simp only [evOp, evQ, withS, opd, kput, putS, upd, lookup, argsK, bringIn, bring, Res.list, Res.slot, slotsOf, List.reverse_cons, List.reverse_nil, List.nil_append, Nat.reduceEqDiff, Nat.reduceLT, ↓reduceIte, eq_self, true_and, Bool.not_false]) | refine ev_guard rfl rfl rfl ?_ ?_ | ((with_reducible show retQ _ _ _ _); simp only [retQ, retOk, getL, lookup, Option.map_some, fitsL, fits, ND, srcs, Res.list, VE, Nat.reduceEqDiff, ↓reduceIte, and_true]) | (with_reducible refine hK _ ?_; clear hK K) | (with_reducible refine And.intro ?_ ?_) | (with_reducible intro hc; try simp only [Bool.true_eq_false] at hc) | omega)
    all_goals first
      | (exfalso; omega)
      | (exfalso; simp_all; done)
      | trace_state
end Go.Proofs.Yteapdildbfimnaa
