/- What markTermS and markTermSS do to rows of terms. No conditions. -/
import Derived.Test.YtpimjkhfookipaaDoorTermSS
import Derived.Test.YtpimjkhfookipaaDoorRowz
namespace Go.Proofs.YtpimjkhfookipaaDoor
open Go.RowKit Go.Proofs
set_option linter.unusedSimpArgs false
set_option linter.unusedVariables false

theorem MarkedO.cellAt {b off : Nat} {cur : Array Value} {e : TypeId} {w wr : World} {k : Nat} {m : Int} (h : MarkedO b off cur e w k m wr) {i : Nat} (hi : i < cur.size) : (∃ x, wr.cell? ⟨b, i, none⟩ = some x) ∧ wr.frozen? ⟨b, i, none⟩ = false := by
  obtain ⟨_, cur', h1, h2, _⟩ := h
  exact ⟨⟨cur'[i], cell_of_blk h1 (Array.getElem?_eq_getElem (by omega))⟩, by simp [World.frozen?, h1]⟩

theorem markT_zero (A : Option Addr) (c : Nat) (m : Int) (w : World) : Calls Tryd.prog 49 #[.slice A 0 c, .int .i64 m] w fun e w' => e = .returned (.int .i64 m) ∧ w' = w := by
  go_enter Tryd.func49, Tryd.ntmps49
  go_wp2
  go_loopg [1, 5] 0 (fun _ s1 s5 wr => s1 = .int .i64 m ∧ s5 = .int .i64 0 ∧ wr = w)
  case atStart => exact ⟨rfl, rfl, rfl⟩
  case round =>
    obtain ⟨rfl, rfl, rfl⟩ := hrel
    go_wp2
    go_ret
    exact ⟨rfl, rfl⟩

theorem markT_off (b off n c : Nat) (cur : Array Value) (e : TypeId) (m : Int) (w : World) (hm : 0 ≤ m) (hmn : m + n * 3 ≤ 4611686018427387904) (hb : w.heap[b]? = some (.cells cur e (0, 0))) (hn : off + n * 3 ≤ cur.size) :
    Calls Tryd.prog 49 #[.slice (some ⟨b, off, none⟩) n c, .int .i64 m] w fun e' w' => e' = .returned (.int .i64 (m + ((n * 3 : Nat) : Int))) ∧ MarkedO b off cur e w (n * 3) m w' := by
  go_enter Tryd.func49, Tryd.ntmps49
  go_wp2
  go_loopg [1, 5] n (fun g s1 s5 wr => ∃ k : Nat, s1 = .int .i64 (m + ((k * 3 : Nat) : Int)) ∧ s5 = .int .i64 k ∧ g + k = n ∧ MarkedO b off cur e w (k * 3) m wr)
  case atStart => exact ⟨0, by simp, rfl, by omega, ⟨⟨rfl, rfl, rfl, Nat.le_refl _, fun _ _ _ => rfl⟩, cur, hb, rfl, fun i hi => by omega⟩⟩
  case round =>
    obtain ⟨k, rfl, rfl, hgk, hM⟩ := hrel
    have A : Aside (gk + k = n ∧ MarkedO b off cur e w (k * 3) m wr ∧ 0 ≤ m ∧ m + n * 3 ≤ 4611686018427387904 ∧ off + n * 3 ≤ cur.size) := ⟨hgk, hM, hm, hmn, hn⟩
    by_cases hlt : (k : Int) < n
    · obtain ⟨⟨x, hx⟩, hf⟩ := hM.cellAt (show off + k * 3 < cur.size by omega)
      obtain ⟨⟨x1, hx1⟩, hf1⟩ := hM.cellAt (show off + k * 3 + 1 < cur.size by omega)
      obtain ⟨⟨x2, hx2⟩, hf2⟩ := hM.cellAt (show off + k * 3 + 2 < cur.size by omega)
      clear hgk hM hm hmn hn hb
      go_wp2
      go_roundg (n - (k + 1))
      case measure => obtain ⟨hgk, _⟩ := A.out; omega
      case rel =>
        obtain ⟨hgk, hM, hm, hmn, hn⟩ := A.out
        have e1 : wrap64 (m + (k : Int) * 3 + 1) = m + ((k * 3 + 1 : Nat) : Int) := by rw [wrap64_id _ (by omega)]; omega
        have e2 : wrap64 (wrap64 (m + (k : Int) * 3 + 1) + 1) = m + ((k * 3 + 1 + 1 : Nat) : Int) := by rw [e1, wrap64_id _ (by omega)]; omega
        have s1 := hM.step (show off + k * 3 < cur.size by omega)
        have s2 := s1.step (show off + (k * 3 + 1) < cur.size by omega)
        have s3 := s2.step (show off + (k * 3 + 1 + 1) < cur.size by omega)
        rw [show m + ((k * 3 : Nat) : Int) = m + (k : Int) * 3 by omega] at s3
        refine ⟨k + 1, ?_, by rw [wrap64_id _ (by omega)]; congr 1, by omega, ?_⟩
        · rw [e2, wrap64_id _ (by omega)]; congr 1; omega
        · rw [e2, e1, show (k + 1) * 3 = k * 3 + 1 + 1 + 1 by omega]
          exact s3
    · clear hgk hM hm hmn hn hb
      go_wp2
      go_ret
      obtain ⟨hgk, hM, _⟩ := A.out
      obtain rfl : k = n := by omega
      exact ⟨rfl, hM⟩

theorem markT3_mz (u0 : Value) (Z : Nat → Prop) (n : Nat) (f : Nat → V) (k : Int) (hk : 0 ≤ k) (hkn : k + n * 3 ≤ 4611686018427387904) :
    FnMz Tryd.prog 49 (.row u0 Z 3 n f) k (k + ((n * 3 : Nat) : Int)) Z [(.row u0 Z 3 n f, .row u0 Z 3 n (cnt k))] := by
  refine ⟨Tryd.call49, fun b hb => ⟨Z, .row _ _ _ _, hb⟩, fun w S u hr => ?_⟩
  obtain ⟨rfl, hz, A, c, hu, hc, hr⟩ := hr
  subst hu
  rcases Nat.eq_zero_or_pos n with h0 | h0
  · subst h0
    refine (markT_zero A c k w).mono ?_
    rintro e w' ⟨rfl, rfl⟩
    refine ⟨by simp, OnlyIn.refl _ _, fun p hp => ?_⟩
    obtain rfl := List.mem_singleton.1 hp
    rintro S' u ⟨e, hz', A', c', hu', hc', _⟩
    exact ⟨e, hz', A', c', hu', hc', fun hp => by simp at hp⟩
  · obtain ⟨b, off, rfl, hZ, hr⟩ := hr (by omega)
    obtain ⟨_, cur, e, hcur⟩ := hz b hZ
    obtain ⟨x, hx, _⟩ := hr (n * 3 - 1) (by omega)
    have hsz : off + n * 3 ≤ cur.size := by
      have h1 : (w.cell? ⟨b, off + (n * 3 - 1), none⟩) = cur[off + (n * 3 - 1)]? := by simp [World.cell?, hcur]
      rw [h1] at hx
      have := (Array.getElem?_eq_some_iff.1 hx).1
      omega
    refine (markT_off b off n c cur e k w hk hkn hcur hsz).mono ?_
    rintro e' w' ⟨rfl, hall, cur', h1, h2, h3⟩
    have ho : OnlyIn Z w w' := ⟨hall.os, hall.tape, hall.output, hall.size, fun i hi hn => hall.oth i hi fun e => hn (e ▸ hZ), fun i ⟨ci, ei, hi⟩ => by
      by_cases e2 : i = b
      · subst e2; exact ⟨cur', e, h1⟩
      · exact ⟨ci, ei, by rw [hall.oth i (block_lt hi) e2]; exact hi⟩⟩
    refine ⟨rfl, ho, fun p hp => ?_⟩
    obtain rfl := List.mem_singleton.1 hp
    rintro S' u ⟨rfl, hz', A', c', hu', hc', hr'⟩
    refine ⟨rfl, fun i hi => ⟨(hz' i hi).1, ho.wr i (hz' i hi).2⟩, A', c', hu', hc', fun hp => ?_⟩
    obtain ⟨b', off', hA', hZ', _⟩ := hr' hp
    injection hu' with hu1 hu2 hu3
    subst hA'
    injection hu1 with hu1
    injection hu1 with hu1 hu4
    subst hu1 hu4
    exact ⟨b, off, rfl, hZ', fun i hi => ⟨_, cell_of_blk h1 (h3 i (by omega)), rfl⟩⟩


theorem markTRow_mz {l : List T3} {v : V} (h : isT l v) (k : Int) (hk : 0 ≤ k) (hkn : k + ((l.length * 3 : Nat) : Int) ≤ 4611686018427387904) : FnMz Tryd.prog 49 v k (k + ((l.length * 3 : Nat) : Int)) (Zof v) [(v, mk1 k v)] := by
  obtain ⟨u, Z, rfl⟩ := h
  exact (markT3_mz u Z l.length _ k hk (by omega)).widen

set_option maxHeartbeats 1000000 in
set_option maxRecDepth 100000 in
theorem markTSS_mz (u0 : Value) (Zh : Nat → Prop) (n : Nat) (D : MkL) (k : Int) (hk : 0 ≤ k) (hn : n ≤ 1099511627776) (hok : D.Ok Zh n) (hin : ∀ (i : Nat) (k : Int), i < n → 0 ≤ k → k + D.c i ≤ 4611686018427387904 → FnMz Tryd.prog 49 (D.F i) k (k + D.c i) (D.T i) [(D.F i, D.G i k)])
    (hkn : k + D.off n ≤ 4611686018427387904) : FnMz Tryd.prog 14 (.row u0 Zh 1 n D.F) k (k + D.off n) (D.TT n) [(.row u0 Zh 1 n D.F, .row u0 Zh 1 n fun i => D.G i (k + D.off i))] := by
  refine ⟨Tryd.call14, fun b ⟨i, hi, hb⟩ => ?_, fun w S u hr => ?_⟩
  · have hoff := D.off_mono (show i + 1 ≤ n by omega)
    have e : D.off (i + 1) = D.off i + D.c i := rfl
    obtain ⟨Z, hZ, hb'⟩ := (hin i 0 hi (by omega) (by omega)).inz b hb
    exact ⟨Z, .inRow _ _ _ _ _ i (by omega) hZ, hb'⟩
  have hu : ∃ A c, u = .slice A n c ∧ u = u0 := ⟨_, _, hr.2.2.choose_spec.choose_spec.1, hr.1⟩
  obtain ⟨A, c, rfl, hu0⟩ := hu
  go_enter Tryd.func14, Tryd.ntmps14
  go_wp2
  go_loopg [1, 5] n (fun g s1 s5 wr => ∃ i : Nat, s1 = .int .i64 (k + D.off i) ∧ s5 = .int .i64 i ∧ g + i = n ∧ OnlyIn (D.TT n) w wr ∧ Goes w wr (.row u0 Zh 1 n D.F) (.row u0 Zh 1 n (D.vK k i)))
  case atStart => exact ⟨0, by simp [MkL.off], rfl, by omega, OnlyIn.refl _ _, fun S u h => D.vK_zero h⟩
  case round =>
    obtain ⟨i, rfl, rfl, hgk, ho, hG⟩ := hrel
    have B : Aside (gk + i = n ∧ OnlyIn (D.TT n) w wr ∧ Goes w wr (.row u0 Zh 1 n D.F) (.row u0 Zh 1 n (D.vK k i))) := ⟨hgk, ho, hG⟩
    by_cases hlt : (i : Int) < n
    · have hi : i < n := by omega
      have hoff := D.off_mono (show i + 1 ≤ n by omega)
      have e : D.off (i + 1) = D.off i + D.c i := rfl
      have hcall := hin i (k + D.off i) hi (by omega) (by omega)
      obtain ⟨hq0, hz, A', c', hu, hc, hrr⟩ := hG S _ hr
      clear hq0
      obtain ⟨b, off, hA, hZ, hcells⟩ := hrr (by omega)
      injection hu with hu1 hu2 hu3
      subst hA
      subst hu1
      subst hu3
      clear hu2
      obtain ⟨x, hx, hx2⟩ := hcells i (by omega)
      have hx2' : Rd wr S (D.F i) x := by rw [← D.vK_at k i]; exact hx2
      have C : Aside (0 ≤ k ∧ n ≤ 1099511627776 ∧ D.Ok Zh n ∧ k + D.off n ≤ 4611686018427387904 ∧ D.off (i + 1) ≤ D.off n ∧ D.off (i + 1) = D.off i + D.c i) := ⟨hk, hn, hok, hkn, hoff, e⟩
      clear hgk ho hG hrr hcells hz hr hin hok hu0 e hoff
      go_wp2_with fail
      refine (hcall.runs wr S x hx2').mono ?_
      rintro e' w' ⟨rfl, ho', hp⟩
      have hg := hp _ (List.mem_singleton.2 rfl)
      clear hp hcall hx2 hx2' hx
      go_wp2
      go_roundg (n - (i + 1))
      case measure => obtain ⟨hgk, _⟩ := B.out; omega
      case rel =>
        obtain ⟨hgk, ho, hG⟩ := B.out
        obtain ⟨hk, hn, hok, hkn, hoff, e⟩ := C.out
        refine ⟨i + 1, by rw [e]; congr 1; omega, rfl, by omega, ho.trans (ho'.mono fun b hb => ⟨i, hi, hb⟩), fun S u h => D.vK_step hok hi ho' hg (hG S u h)⟩
    · clear hgk ho hG hr hin hok hu0
      go_wp2
      go_ret
      obtain ⟨hgk, ho, hG⟩ := B.out
      obtain rfl : i = n := by omega
      exact ⟨rfl, ho, fun S u h => D.vK_all (hG S u h)⟩


theorem zofT_cnt {u : Value} {Z : Nat → Prop} {n : Nat} {k : Int} {b : Nat} : Zof (.row u Z 3 n (cnt k)) b ↔ Z b := zofT (g := fun i => k + i)
theorem mk1_zofT {l : List T3} {k : Int} {v : V} (h : isT l v) : ∀ b, Zof (mk1 k v) b → Zof v b := by
  obtain ⟨u, Z, rfl⟩ := h
  intro b hb
  exact zofT.2 (zofT_cnt.1 hb)
theorem mk1_newT {l : List T3} {k : Int} {v : V} (h : isT l v) : NewV (fun _ => True) (mk1 k v) := by obtain ⟨u, Z, rfl⟩ := h; exact ⟨trivial, fun _ _ => trivial⟩
def mkTS (L : List (List T3)) : Int → V → V := mkL (fun _ => mk1) fun i => sumTT L i * 3

theorem markTS_mz {m : List (List T3)} {v : V} (h : isTS m v) (k : Int) (hk : 0 ≤ k) (hl : m.length ≤ 1099511627776) (hkn : k + ((sumTT m m.length * 3 : Nat) : Int) ≤ 4611686018427387904) : FnMz Tryd.prog 14 v k (k + ((sumTT m m.length * 3 : Nat) : Int)) (Zof v) [(v, mkTS m k v)] := by
  obtain ⟨u, Z, F, rfl, h⟩ := h
  have e : ∀ i, (lk F (fun _ => mk1) fun i => (tsAt m i).length * 3).off i = sumTT m i * 3 := lk_off (off := fun i => sumTT m i * 3) (by simp [sumTT]) fun i => Nat.add_mul _ _ _
  have hm := markTSS_mz u Z m.length (lk F (fun _ => mk1) fun i => (tsAt m i).length * 3) k hk hl (lk_ok (fun _ _ h => isT.new h) (fun _ _ _ h => mk1_zofT h) (fun _ _ _ h => mk1_newT h) h)
    (fun i k hi hk hc => markTRow_mz (h i hi).1 k hk hc) (by rw [e]; exact hkn)
  rw [e] at hm
  have hm := hm.widen
  refine ⟨hm.entry, hm.inz, fun w S u' hr => (hm.runs w S u' hr).mono fun e' w' ⟨h1, h2, h3⟩ => ⟨h1, h2, fun p hp => ?_⟩⟩
  obtain rfl := List.mem_singleton.1 hp
  have := h3 _ (List.mem_singleton.2 rfl)
  simp only [e] at this
  exact this
end Go.Proofs.YtpimjkhfookipaaDoor
