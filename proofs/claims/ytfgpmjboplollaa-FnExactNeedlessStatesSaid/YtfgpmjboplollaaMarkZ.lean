/- What markIntS, markIntSS, markIntSSS do to rows. No conditions. -/
import Derived.Test.YtfgpmjboplollaaMark
import Derived.Test.YtfgpmjboplollaaEngZ
namespace Go.Proofs.Ytfgpmjboplollaa
open Go.RowKit Go.Proofs
set_option linter.unusedSimpArgs false
set_option linter.unusedVariables false

def MarkedO (b off : Nat) (cur : Array Value) (e : TypeId) (w : World) (k : Nat) (m : Int) (wr : World) : Prop :=
  AllBut b w wr ∧ ∃ cur' : Array Value, wr.heap[b]? = some (.cells cur' e (0, 0)) ∧ cur'.size = cur.size ∧ ∀ i, i < k → cur'[off + i]? = some (.int .i64 (m + i))

theorem MarkedO.cell {b off : Nat} {cur : Array Value} {e : TypeId} {w wr : World} {k : Nat} {m : Int} (h : MarkedO b off cur e w k m wr) (hk : off + k < cur.size) : (∃ x, wr.cell? ⟨b, off + k, none⟩ = some x) ∧ wr.frozen? ⟨b, off + k, none⟩ = false := by
  obtain ⟨_, cur', h1, h2, _⟩ := h
  exact ⟨⟨cur'[off + k], cell_of_blk h1 (Array.getElem?_eq_getElem (by omega))⟩, by simp [World.frozen?, h1]⟩

theorem MarkedO.step {b off : Nat} {cur : Array Value} {e : TypeId} {w wr : World} {k : Nat} {m : Int} (h : MarkedO b off cur e w k m wr) (hk : off + k < cur.size) :
    MarkedO b off cur e w (k + 1) m (wr.setCell ⟨b, off + k, none⟩ (.int .i64 (m + k))) := by
  obtain ⟨ha, cur', h1, h2, h3⟩ := h
  refine ⟨⟨ha.os, ha.tape, ha.output, by rw [setCell_size]; exact ha.size, fun j hj hne => (Below.heap_setCell _ _ _ _ hne).trans (ha.oth j hj hne)⟩, _, setCell_at h1, by simpa using h2, fun i hi => ?_⟩
  by_cases e : i = k
  · subst e; simp [show off + i < cur'.size by omega]
  · rw [Array.getElem?_setIfInBounds_ne (by show off + k ≠ off + i; omega)]; exact h3 i (by omega)

theorem mark_zero (A : Option Addr) (c : Nat) (m : Int) (w : World) : Calls Try.prog 20 #[.slice A 0 c, .int .i64 m] w fun e w' => e = .returned (.int .i64 m) ∧ w' = w := by
  go_enter Try.func20, Try.ntmps20
  go_wp2
  go_loopg [1, 5] 0 (fun _ s1 s5 wr => s1 = .int .i64 m ∧ s5 = .int .i64 0 ∧ wr = w)
  case atStart => exact ⟨rfl, rfl, rfl⟩
  case round =>
    obtain ⟨rfl, rfl, rfl⟩ := hrel
    go_wp2
    go_ret
    exact ⟨rfl, rfl⟩

theorem mark_off (b off n c : Nat) (cur : Array Value) (e : TypeId) (m : Int) (w : World) (hm : 0 ≤ m) (hmn : m + n ≤ 4611686018427387904) (hb : w.heap[b]? = some (.cells cur e (0, 0))) (hn : off + n ≤ cur.size) :
    Calls Try.prog 20 #[.slice (some ⟨b, off, none⟩) n c, .int .i64 m] w fun e' w' => e' = .returned (.int .i64 (m + n)) ∧ MarkedO b off cur e w n m w' := by
  go_enter Try.func20, Try.ntmps20
  go_wp2
  go_loopg [1, 5] n (fun g s1 s5 wr => ∃ k : Nat, s1 = .int .i64 (m + k) ∧ s5 = .int .i64 k ∧ g + k = n ∧ MarkedO b off cur e w k m wr)
  case atStart => exact ⟨0, by simp, rfl, by omega, ⟨⟨rfl, rfl, rfl, Nat.le_refl _, fun _ _ _ => rfl⟩, cur, hb, rfl, fun i hi => by omega⟩⟩
  case round =>
    obtain ⟨k, rfl, rfl, hgk, hM⟩ := hrel
    have A : Aside (gk + k = n ∧ MarkedO b off cur e w k m wr ∧ 0 ≤ m ∧ m + n ≤ 4611686018427387904 ∧ off + n ≤ cur.size) := ⟨hgk, hM, hm, hmn, hn⟩
    by_cases hlt : (k : Int) < n
    · obtain ⟨⟨x, hx⟩, hf⟩ := hM.cell (by omega)
      clear hgk hM hm hmn hn hb
      go_wp2
      go_roundg (n - (k + 1))
      case measure => obtain ⟨hgk, _⟩ := A.out; omega
      case rel =>
        obtain ⟨hgk, hM, hm, hmn, hn⟩ := A.out
        exact ⟨k + 1, by rw [wrap64_id _ (by omega)]; congr 1; omega, by rw [wrap64_id _ (by omega)]; congr 1, by omega, hM.step (by omega)⟩
    · clear hgk hM hm hmn hn hb
      go_wp2
      go_ret
      obtain ⟨hgk, hM, _⟩ := A.out
      obtain rfl : k = n := by omega
      exact ⟨rfl, hM⟩

/-- A row of integers from k on. -/
def cnt (k : Int) : Nat → V := fun i => vi (k + i)

theorem markI_mz (u0 : Value) (Z : Nat → Prop) (n : Nat) (f : Nat → V) (k : Int) (hk : 0 ≤ k) (hkn : k + n ≤ 4611686018427387904) :
    FnMz Try.prog 20 (.row u0 Z 1 n f) k (k + n) Z [(.row u0 Z 1 n f, .row u0 Z 1 n (cnt k))] := by
  refine ⟨Try.call20, fun b hb => ⟨Z, .row _ _ _ _, hb⟩, fun w S u hr => ?_⟩
  obtain ⟨rfl, hz, A, c, hu, hc, hr⟩ := hr
  subst hu
  rcases Nat.eq_zero_or_pos n with h0 | h0
  · subst h0
    refine (mark_zero A c k w).mono ?_
    rintro e w' ⟨rfl, rfl⟩
    refine ⟨by simp, OnlyIn.refl _ _, fun p hp => ?_⟩
    obtain rfl := List.mem_singleton.1 hp
    rintro S' u ⟨e, hz', A', c', hu', hc', _⟩
    exact ⟨e, hz', A', c', hu', hc', fun hp => by simp at hp⟩
  · obtain ⟨b, off, rfl, hZ, hr⟩ := hr (by omega)
    obtain ⟨_, cur, e, hcur⟩ := hz b hZ
    obtain ⟨x, hx, _⟩ := hr (n - 1) (by omega)
    have hsz : off + n ≤ cur.size := by
      have h1 : (w.cell? ⟨b, off + (n - 1), none⟩) = cur[off + (n - 1)]? := by simp [World.cell?, hcur]
      rw [h1] at hx
      have := (Array.getElem?_eq_some_iff.1 hx).1
      omega
    refine (mark_off b off n c cur e k w hk hkn hcur hsz).mono ?_
    rintro e' w' ⟨rfl, hall, cur', h1, h2, h3⟩
    have ho : OnlyIn Z w w' := ⟨hall.os, hall.tape, hall.output, hall.size, fun i hi hn => hall.oth i hi fun e => hn (e ▸ hZ), fun i ⟨ci, ei, hi⟩ => by
      by_cases e2 : i = b
      · subst e2; exact ⟨cur', e, h1⟩
      · exact ⟨ci, ei, by rw [hall.oth i (block_lt hi) e2]; exact hi⟩⟩
    refine ⟨rfl, ho, fun p hp => ?_⟩
    obtain rfl := List.mem_singleton.1 hp
    rintro S' u ⟨rfl, hz', A', c', hu', hc', hr'⟩
    refine ⟨rfl, fun i hi => ⟨(hz' i hi).1, ho.wr i (hz' i hi).2⟩, A', c', hu', hc', fun hp => ?_⟩
    obtain ⟨b', off', hA', hZ', _⟩ := hr' hp
    injection hu' with hu1 hu2 hu3
    subst hA'
    injection hu1 with hu1
    injection hu1 with hu1 hu4
    subst hu1 hu4
    exact ⟨b, off, rfl, hZ', fun i hi => ⟨_, cell_of_blk h1 (h3 i (by omega)), rfl⟩⟩

/-- Rows of things that are marked one by one: what each is, what it becomes from k on, how many numbers it takes, which blocks it turns. -/
structure MkL where
  F : Nat → V
  G : Nat → Int → V
  c : Nat → Nat
  T : Nat → Nat → Prop

namespace MkL
def off (D : MkL) : Nat → Nat
  | 0 => 0
  | i + 1 => D.off i + D.c i
theorem off_mono (D : MkL) {i k : Nat} (h : i ≤ k) : D.off i ≤ D.off k := by
  induction k with
  | zero => rw [show i = 0 by omega]; exact Nat.le_refl _
  | succ k ih =>
    rcases Nat.lt_or_ge i (k + 1) with h1 | h1
    · have := ih (by omega); show _ ≤ D.off k + D.c k; omega
    · rw [show i = k + 1 by omega]; exact Nat.le_refl _
def TT (D : MkL) (n : Nat) : Nat → Prop := fun b => ∃ i, i < n ∧ D.T i b
def vK (D : MkL) (k : Int) (i : Nat) : Nat → V := fun j => if j < i then D.G j (k + D.off j) else D.F j
/-- The parts lie apart. -/
def Ok (D : MkL) (Zh : Nat → Prop) (n : Nat) : Prop := ∀ i, i < n → Disj Zh (D.T i) ∧ ∀ j, j < n → j ≠ i → Keeps (D.T i) (D.F j) ∧ ∀ k, Keeps (D.T i) (D.G j k)

theorem vK_at (D : MkL) (k : Int) (i : Nat) : D.vK k i i = D.F i := by unfold vK; rw [if_neg (by omega)]

theorem row_ve {w : World} {S : Nat → Prop} {u0 u : Value} {Z : Nat → Prop} {n : Nat} {f g : Nat → V} (h : ∀ i, i < n → f i = g i) (hr : Rd w S (.row u0 Z 1 n f) u) : Rd w S (.row u0 Z 1 n g) u :=
  VE.rd (.row u0 Z 1 n f) (.row u0 Z 1 n g) u ⟨rfl, rfl, rfl, rfl, fun i hi => VE.of_eq (h i (by omega))⟩ hr

theorem vK_zero (D : MkL) {w : World} {S : Nat → Prop} {u0 u : Value} {Z : Nat → Prop} {n : Nat} {k : Int} (h : Rd w S (.row u0 Z 1 n D.F) u) : Rd w S (.row u0 Z 1 n (D.vK k 0)) u :=
  row_ve (fun i _ => by unfold vK; rw [if_neg (by omega)]) h
theorem vK_all (D : MkL) {w : World} {S : Nat → Prop} {u0 u : Value} {Z : Nat → Prop} {n : Nat} {k : Int} (h : Rd w S (.row u0 Z 1 n (D.vK k n)) u) : Rd w S (.row u0 Z 1 n fun i => D.G i (k + D.off i)) u :=
  row_ve (fun i hi => by unfold vK; rw [if_pos hi]) h
theorem vK_step (D : MkL) {w w' : World} {S : Nat → Prop} {u0 u : Value} {Z : Nat → Prop} {n i : Nat} {k : Int} (hok : D.Ok Z n) (hi : i < n) (ho : OnlyIn (D.T i) w w') (hg : Goes w w' (D.F i) (D.G i (k + D.off i)))
    (h : Rd w S (.row u0 Z 1 n (D.vK k i)) u) : Rd w' S (.row u0 Z 1 n (D.vK k (i + 1))) u := by
  obtain ⟨e, hz, A, c, hu, hc, hr⟩ := h
  refine ⟨e, fun b hb => ⟨(hz b hb).1, ho.wr b (hz b hb).2⟩, A, c, hu, hc, fun hp => ?_⟩
  obtain ⟨b, off, hA, hZ, hr⟩ := hr hp
  refine ⟨b, off, hA, hZ, fun j hj => ?_⟩
  obtain ⟨x, hx, hr⟩ := hr j hj
  refine ⟨x, by rw [World.cell?_of_block (w := w) (a := ⟨b, off + j, none⟩) (ho.oth b (block_of_cell hx) ((hok i hi).1 b hZ))]; exact hx, ?_⟩
  unfold vK at hr ⊢
  by_cases h1 : j = i
  · subst h1
    rw [if_neg (by omega)] at hr
    rw [if_pos (by omega)]
    exact hg S x hr
  · have hk := (hok i hi).2 j (by omega) h1
    by_cases h2 : j < i
    · rw [if_pos h2] at hr
      rw [if_pos (by omega)]
      exact Keeps.rd ho _ _ (hk.2 _) hr
    · rw [if_neg h2] at hr
      rw [if_neg (by omega)]
      exact Keeps.rd ho _ _ hk.1 hr
end MkL

set_option maxHeartbeats 1000000 in
set_option maxRecDepth 100000 in
theorem markSS_mz (u0 : Value) (Zh : Nat → Prop) (n : Nat) (D : MkL) (k : Int) (hk : 0 ≤ k) (hn : n ≤ 1099511627776) (hok : D.Ok Zh n) (hin : ∀ (i : Nat) (k : Int), i < n → 0 ≤ k → k + D.c i ≤ 4611686018427387904 → FnMz Try.prog 20 (D.F i) k (k + D.c i) (D.T i) [(D.F i, D.G i k)])
    (hkn : k + D.off n ≤ 4611686018427387904) : FnMz Try.prog 186 (.row u0 Zh 1 n D.F) k (k + D.off n) (D.TT n) [(.row u0 Zh 1 n D.F, .row u0 Zh 1 n fun i => D.G i (k + D.off i))] := by
  refine ⟨Try.call186, fun b ⟨i, hi, hb⟩ => ?_, fun w S u hr => ?_⟩
  · have hoff := D.off_mono (show i + 1 ≤ n by omega)
    have e : D.off (i + 1) = D.off i + D.c i := rfl
    obtain ⟨Z, hZ, hb'⟩ := (hin i 0 hi (by omega) (by omega)).inz b hb
    exact ⟨Z, .inRow _ _ _ _ _ i (by omega) hZ, hb'⟩
  have hu : ∃ A c, u = .slice A n c ∧ u = u0 := ⟨_, _, hr.2.2.choose_spec.choose_spec.1, hr.1⟩
  obtain ⟨A, c, rfl, hu0⟩ := hu
  go_enter Try.func186, Try.ntmps186
  go_wp2
  go_loopg [1, 5] n (fun g s1 s5 wr => ∃ i : Nat, s1 = .int .i64 (k + D.off i) ∧ s5 = .int .i64 i ∧ g + i = n ∧ OnlyIn (D.TT n) w wr ∧ Goes w wr (.row u0 Zh 1 n D.F) (.row u0 Zh 1 n (D.vK k i)))
  case atStart => exact ⟨0, by simp [MkL.off], rfl, by omega, OnlyIn.refl _ _, fun S u h => D.vK_zero h⟩
  case round =>
    obtain ⟨i, rfl, rfl, hgk, ho, hG⟩ := hrel
    have B : Aside (gk + i = n ∧ OnlyIn (D.TT n) w wr ∧ Goes w wr (.row u0 Zh 1 n D.F) (.row u0 Zh 1 n (D.vK k i))) := ⟨hgk, ho, hG⟩
    by_cases hlt : (i : Int) < n
    · have hi : i < n := by omega
      have hoff := D.off_mono (show i + 1 ≤ n by omega)
      have e : D.off (i + 1) = D.off i + D.c i := rfl
      have hcall := hin i (k + D.off i) hi (by omega) (by omega)
      obtain ⟨hq0, hz, A', c', hu, hc, hrr⟩ := hG S _ hr
      clear hq0
      obtain ⟨b, off, hA, hZ, hcells⟩ := hrr (by omega)
      injection hu with hu1 hu2 hu3
      subst hA
      subst hu1
      subst hu3
      clear hu2
      obtain ⟨x, hx, hx2⟩ := hcells i (by omega)
      have hx2' : Rd wr S (D.F i) x := by rw [← D.vK_at k i]; exact hx2
      have C : Aside (0 ≤ k ∧ n ≤ 1099511627776 ∧ D.Ok Zh n ∧ k + D.off n ≤ 4611686018427387904 ∧ D.off (i + 1) ≤ D.off n ∧ D.off (i + 1) = D.off i + D.c i) := ⟨hk, hn, hok, hkn, hoff, e⟩
      clear hgk ho hG hrr hcells hz hr hin hok hu0 e hoff
      go_wp2_with fail
      refine (hcall.runs wr S x hx2').mono ?_
      rintro e' w' ⟨rfl, ho', hp⟩
      have hg := hp _ (List.mem_singleton.2 rfl)
      clear hp hcall hx2 hx2' hx
      go_wp2
      go_roundg (n - (i + 1))
      case measure => obtain ⟨hgk, _⟩ := B.out; omega
      case rel =>
        obtain ⟨hgk, ho, hG⟩ := B.out
        obtain ⟨hk, hn, hok, hkn, hoff, e⟩ := C.out
        refine ⟨i + 1, by rw [e]; congr 1; omega, rfl, by omega, ho.trans (ho'.mono fun b hb => ⟨i, hi, hb⟩), fun S u h => D.vK_step hok hi ho' hg (hG S u h)⟩
    · clear hgk ho hG hr hin hok hu0
      go_wp2
      go_ret
      obtain ⟨hgk, ho, hG⟩ := B.out
      obtain rfl : i = n := by omega
      exact ⟨rfl, ho, fun S u h => D.vK_all (hG S u h)⟩

set_option maxHeartbeats 1000000 in
set_option maxRecDepth 100000 in
theorem markSSS_mz (u0 : Value) (Zh : Nat → Prop) (n : Nat) (D : MkL) (k : Int) (hk : 0 ≤ k) (hn : n ≤ 1099511627776) (hok : D.Ok Zh n) (hin : ∀ (i : Nat) (k : Int), i < n → 0 ≤ k → k + D.c i ≤ 4611686018427387904 → FnMz Try.prog 186 (D.F i) k (k + D.c i) (D.T i) [(D.F i, D.G i k)])
    (hkn : k + D.off n ≤ 4611686018427387904) : FnMz Try.prog 98 (.row u0 Zh 1 n D.F) k (k + D.off n) (D.TT n) [(.row u0 Zh 1 n D.F, .row u0 Zh 1 n fun i => D.G i (k + D.off i))] := by
  refine ⟨Try.call98, fun b ⟨i, hi, hb⟩ => ?_, fun w S u hr => ?_⟩
  · have hoff := D.off_mono (show i + 1 ≤ n by omega)
    have e : D.off (i + 1) = D.off i + D.c i := rfl
    obtain ⟨Z, hZ, hb'⟩ := (hin i 0 hi (by omega) (by omega)).inz b hb
    exact ⟨Z, .inRow _ _ _ _ _ i (by omega) hZ, hb'⟩
  have hu : ∃ A c, u = .slice A n c ∧ u = u0 := ⟨_, _, hr.2.2.choose_spec.choose_spec.1, hr.1⟩
  obtain ⟨A, c, rfl, hu0⟩ := hu
  go_enter Try.func98, Try.ntmps98
  go_wp2
  go_loopg [1, 5] n (fun g s1 s5 wr => ∃ i : Nat, s1 = .int .i64 (k + D.off i) ∧ s5 = .int .i64 i ∧ g + i = n ∧ OnlyIn (D.TT n) w wr ∧ Goes w wr (.row u0 Zh 1 n D.F) (.row u0 Zh 1 n (D.vK k i)))
  case atStart => exact ⟨0, by simp [MkL.off], rfl, by omega, OnlyIn.refl _ _, fun S u h => D.vK_zero h⟩
  case round =>
    obtain ⟨i, rfl, rfl, hgk, ho, hG⟩ := hrel
    have B : Aside (gk + i = n ∧ OnlyIn (D.TT n) w wr ∧ Goes w wr (.row u0 Zh 1 n D.F) (.row u0 Zh 1 n (D.vK k i))) := ⟨hgk, ho, hG⟩
    by_cases hlt : (i : Int) < n
    · have hi : i < n := by omega
      have hoff := D.off_mono (show i + 1 ≤ n by omega)
      have e : D.off (i + 1) = D.off i + D.c i := rfl
      have hcall := hin i (k + D.off i) hi (by omega) (by omega)
      obtain ⟨hq0, hz, A', c', hu, hc, hrr⟩ := hG S _ hr
      clear hq0
      obtain ⟨b, off, hA, hZ, hcells⟩ := hrr (by omega)
      injection hu with hu1 hu2 hu3
      subst hA
      subst hu1
      subst hu3
      clear hu2
      obtain ⟨x, hx, hx2⟩ := hcells i (by omega)
      have hx2' : Rd wr S (D.F i) x := by rw [← D.vK_at k i]; exact hx2
      have C : Aside (0 ≤ k ∧ n ≤ 1099511627776 ∧ D.Ok Zh n ∧ k + D.off n ≤ 4611686018427387904 ∧ D.off (i + 1) ≤ D.off n ∧ D.off (i + 1) = D.off i + D.c i) := ⟨hk, hn, hok, hkn, hoff, e⟩
      clear hgk ho hG hrr hcells hz hr hin hok hu0 e hoff
      go_wp2_with fail
      refine (hcall.runs wr S x hx2').mono ?_
      rintro e' w' ⟨rfl, ho', hp⟩
      have hg := hp _ (List.mem_singleton.2 rfl)
      clear hp hcall hx2 hx2' hx
      go_wp2
      go_roundg (n - (i + 1))
      case measure => obtain ⟨hgk, _⟩ := B.out; omega
      case rel =>
        obtain ⟨hgk, ho, hG⟩ := B.out
        obtain ⟨hk, hn, hok, hkn, hoff, e⟩ := C.out
        refine ⟨i + 1, by rw [e]; congr 1; omega, rfl, by omega, ho.trans (ho'.mono fun b hb => ⟨i, hi, hb⟩), fun S u h => D.vK_step hok hi ho' hg (hG S u h)⟩
    · clear hgk ho hG hr hin hok hu0
      go_wp2
      go_ret
      obtain ⟨hgk, ho, hG⟩ := B.out
      obtain rfl : i = n := by omega
      exact ⟨rfl, ho, fun S u h => D.vK_all (hG S u h)⟩

end Go.Proofs.Ytfgpmjboplollaa
