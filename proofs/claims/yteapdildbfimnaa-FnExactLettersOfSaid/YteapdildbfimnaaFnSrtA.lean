/- Sorting bytes in place: the breaking of patterns, its walk. Conditions: no more than 2^40 bytes. -/
import Derived.Test.YteapdildbfimnaaFnSrt9
namespace Go.Proofs.Yteapdildbfimnaa
open Go.Shelf Go.RowKit Go.Proofs Go.Sort Go.Lib
set_option linter.unusedSimpArgs false
set_option linter.unusedVariables false
set_option maxRecDepth 1000000

def unitM (p : (Nat → Int) → Prop) (D' : Nat → V) (v : Value) : Prop := ∃ d', D' = vuF d' ∧ p d' ∧ v = .tuple #[]
theorem Bp.start {w : World} {bk n c : Nat} {cur : Array Value} {e : TypeId} {a b : Nat} {d : Nat → Int} {L : Nat} {t : TypeId} (hL : L < 18446744073709551616) (hw : Gb w bk e cur) (hs : cur.size = c) (hc : ∀ i, i < n → ∃ x, cur[i]? = some x ∧ vuF d i = .val x) :
    Bp bk n c e a b d w d L (w.alloc (Obj.cells #[Value.int IntKind.u64 (L : Int)] t)) := by
  have hl : bk < w.heap.size := hw.lt
  have key : ∀ k, k < w.heap.size → (w.alloc (Obj.cells #[Value.int IntKind.u64 (L : Int)] t)).heap[k]? = w.heap[k]? := fun k hk => by
    show (w.heap.push _)[k]? = _
    rw [Array.getElem?_push_lt hk]
    simp [hk]
  refine ⟨⟨rfl, rfl, rfl, by show w.heap.size ≤ (w.heap.push _).size; rw [Array.size_push]; omega, fun k hk _ => key k hk⟩, hl, Pm.refl _ _ _, ⟨cur, hw.congr (key bk hl), hs, fun i hi => ?_⟩, hL, ⟨t, by show (w.heap.push _)[w.heap.size]? = _; rw [Array.getElem?_push_size]⟩⟩
  obtain ⟨x, h1, h2⟩ := hc i hi
  have h2 : vu (d i) = .val x := h2
  injection h2 with h2
  rw [h1, h2]
theorem Bp.done {bk n c : Nat} {e : TypeId} {a b : Nat} {d : Nat → Int} {W0 : World} {d' : Nat → Int} {X : Nat} {w : World} (h : Bp bk n c e a b d W0 d' X w) : AllBut bk W0 w ∧ ∃ cur : Array Value, Gb w bk e cur ∧ cur.size = c ∧ ∀ i, i < n → ∃ x, cur[i]? = some x ∧ vuF d' i = .val x := by
  obtain ⟨cur, h1, h2, h3⟩ := h.cur
  exact ⟨h.ab, cur, h1, h2, fun i hi => ⟨_, h3 i hi, rfl⟩⟩

set_option maxHeartbeats 8000000 in
theorem breakPatterns_m (n : Nat) (d : Nat → Int) (a b : Nat) (hab : a < b) (hbn : b ≤ n) (hn : n ≤ 1099511627776) : FnM Try.prog 131 n (vuF d) [.int .i64 a, .int .i64 b] (unitM fun d' => Pm a b d d') := by
  refine ⟨Try.call131, fun w bk c cur e hw hnc hcm hsz hc => ?_⟩
  obtain ⟨L, hL⟩ : ∃ L, b = a + L := ⟨b - a, by omega⟩
  subst hL
  have hLz : ((a : Int) + (L : Int) - (a : Int)) = (L : Int) := by omega
  by_cases h8 : 8 ≤ L
  · have h8z : (8 : Int) ≤ (L : Int) := by omega
    obtain ⟨M, hM⟩ : ∃ M : Nat, M = 1 <<< bitsLen L := ⟨_, rfl⟩
    have hM1 : 1 ≤ M := by rw [hM, Nat.one_shiftLeft]; exact Nat.two_pow_pos _
    have hM2 : M ≤ 2 * L := by rw [hM, Nat.one_shiftLeft]; exact two_pow_bitsLen_le (by omega)
    have hNP : ∀ w, Calls Try.prog 164 #[.int .i64 (L : Int)] w fun e w' => e = .returned (.int .u64 (M : Int)) ∧ w' = w := by rw [hM]; exact fun w => nextPow L (by omega) w
    clear hM
    have mixed : Try.prog.follows .mixedOrders = true := rfl
    have S0 : Aside (∀ t, Bp bk n c e a (a + L) d w d L (w.alloc (Obj.cells #[Value.int IntKind.u64 (L : Int)] t))) := fun t => Bp.start (by omega) hw hsz hc
    have HC : Aside (cur.size = c) := hsz
    clear hw hc hsz
    go_enter Try.func131, Try.ntmps131
    go_wp2_with (first | (go_at_call 164; refine (hNP _).mono ?_; rintro e w' ⟨rfl, rfl⟩))
    go_loopg [9] 3 (fun g1 vi wr => ∃ (t : Nat) (X : Nat) (dk : Nat → Int), vi = .int .i64 ((a : Int) + (L : Int) / 4 * 2 - 1 + (t : Int)) ∧ t ≤ 3 ∧ 3 - t ≤ g1 ∧ Aside (Bp bk n c e a (a + L) d w dk X wr))
    case atStart =>
      exact ⟨0, L, d, by simp, by omega, by omega, S0 _⟩
    case round =>
      clear S0
      obtain ⟨t, X, dk, rfl, ht, hg1, S1⟩ := hrel
      by_cases ht3 : t < 3
      · have hle : (a : Int) + (L : Int) / 4 * 2 - 1 + (t : Int) ≤ (a : Int) + (L : Int) / 4 * 2 + 1 := by omega
        have hNext : Calls Try.prog 165 #[.pointer (some ⟨w.heap.size, 0, none⟩)] wr fun e w' => e = .returned (.int .u64 (xorNextN X : Nat)) ∧ w' = (wr.setCell ⟨w.heap.size, 0, none⟩ (.int .u64 (xorNextN X : Nat))).drewN 3 := xorNext_w _ X S1.out.hX wr S1.out.rc S1.out.rf
        have lR' := xorNextN_lt X S1.out.hX
        have S2 : Aside (Bp bk n c e a (a + L) d w dk (xorNextN X) ((wr.setCell ⟨w.heap.size, 0, none⟩ (.int .u64 (xorNextN X : Nat))).drewN 3)) := S1.out.next _ lR'
        obtain ⟨R', hR'⟩ : ∃ R' : Nat, R' = xorNextN X := ⟨_, rfl⟩
        rw [← hR'] at hNext lR' S2
        obtain ⟨O, hO⟩ : ∃ O : Nat, O = R' &&& (M - 1) := ⟨_, rfl⟩
        have lO : O ≤ M - 1 := by rw [hO]; exact Nat.and_le_right
        have eAnd : bits .and .u64 (R' : Int) ((M : Int) - 1) = (O : Int) := by
          rw [show ((M : Int) - 1) = ((M - 1 : Nat) : Int) by omega, bits_and_u64_nat _ _ lR' (by omega), hO]
        clear hR' hO S1
        generalize (wr.setCell ⟨w.heap.size, 0, none⟩ (.int .u64 (R' : Nat))).drewN 3 = w2 at hNext S2
        by_cases hLO : L ≤ O
        · have hLOz : (L : Int) ≤ (O : Int) := by omega
          go_wp2_with (go_at_call 165; refine hNext.mono ?_; rintro e w' ⟨rfl, hw'⟩; obtain rfl : w2 = w' := hw'.symm)
          obtain ⟨i1, hi1⟩ : ∃ q, q = a + L / 4 * 2 - 1 + t := ⟨_, rfl⟩
          obtain ⟨j1, hj1⟩ : ∃ q, q = a + (O - L) := ⟨_, rfl⟩
          have ea : ((a : Int) + (L : Int) / 4 * 2 - 1 + (t : Int)).toNat = i1 := by omega
          have pa : (0 : Int) ≤ (a : Int) + (L : Int) / 4 * 2 - 1 + (t : Int) := by omega
          have ba : (a : Int) + (L : Int) / 4 * 2 - 1 + (t : Int) < (n : Int) := by omega
          have ra : IntKind.i64.wrap ((a : Int) + (L : Int) / 4 * 2 - 1 + (t : Int)) = (a : Int) + (L : Int) / 4 * 2 - 1 + (t : Int) := by rw [IntKind.wrap_i64]; omega
          have ec : ((a : Int) + ((O : Int) - (L : Int))).toNat = j1 := by omega
          have pc : (0 : Int) ≤ (a : Int) + ((O : Int) - (L : Int)) := by omega
          have bc : (a : Int) + ((O : Int) - (L : Int)) < (n : Int) := by omega
          have rc : IntKind.i64.wrap ((a : Int) + ((O : Int) - (L : Int))) = (a : Int) + ((O : Int) - (L : Int)) := by rw [IntKind.wrap_i64]; omega
          have li : a ≤ i1 ∧ i1 < a + L := by omega
          have lj : a ≤ j1 ∧ j1 < a + L := by omega
          obtain ⟨x, hx⟩ : ∃ x, x = dk i1 := ⟨_, rfl⟩
          obtain ⟨y, hy⟩ : ∃ x, x = dk j1 := ⟨_, rfl⟩
          have S3 : Aside (Bp bk n c e a (a + L) d w (swF dk i1 j1) R' (((w2.setCell ⟨bk, i1, none⟩ (.int .u8 y)).setCell ⟨bk, j1, none⟩ (.int .u8 x)).drew)) := by rw [hx, hy]; exact S2.out.swap hbn li lj
          have ca := S2.out.at (show i1 < n by omega)
          have cb := S2.out.at (show j1 < n by omega)
          have fa := S2.out.fz (show i1 < n by omega)
          have fb := S2.out.fz (show j1 < n by omega)
          obtain ⟨u, cc⟩ := S2.out.c2 (show i1 < n by omega) (show j1 < n by omega) (.int .u8 y)
          rw [← hx] at ca
          rw [← hy] at cb
          have HI : Aside (i1 = a + L / 4 * 2 - 1 + t) := hi1
          clear S2 hx hy hi1 hj1 li lj
          go_wp2_with fail
          go_big_region_o
          clear ca cb cc fa fb
          generalize ((w2.setCell ⟨bk, i1, none⟩ (.int .u8 y)).setCell ⟨bk, j1, none⟩ (.int .u8 x)).drew = w3 at S3 ⊢
          clear ea ec
          go_wp2
          go_roundg (3 - (t + 1))
          case measure => omega
          case rel => exact ⟨t + 1, R', swF dk i1 j1, by congr 1; push_cast; omega, by omega, Nat.le_refl _, S3⟩
        · have hLOz : ¬ (L : Int) ≤ (O : Int) := by omega
          go_wp2_with (go_at_call 165; refine hNext.mono ?_; rintro e w' ⟨rfl, hw'⟩; obtain rfl : w2 = w' := hw'.symm)
          obtain ⟨i1, hi1⟩ : ∃ q, q = a + L / 4 * 2 - 1 + t := ⟨_, rfl⟩
          obtain ⟨j1, hj1⟩ : ∃ q, q = a + O := ⟨_, rfl⟩
          have ea : ((a : Int) + (L : Int) / 4 * 2 - 1 + (t : Int)).toNat = i1 := by omega
          have pa : (0 : Int) ≤ (a : Int) + (L : Int) / 4 * 2 - 1 + (t : Int) := by omega
          have ba : (a : Int) + (L : Int) / 4 * 2 - 1 + (t : Int) < (n : Int) := by omega
          have ra : IntKind.i64.wrap ((a : Int) + (L : Int) / 4 * 2 - 1 + (t : Int)) = (a : Int) + (L : Int) / 4 * 2 - 1 + (t : Int) := by rw [IntKind.wrap_i64]; omega
          have ec : ((a : Int) + (O : Int)).toNat = j1 := by omega
          have pc : (0 : Int) ≤ (a : Int) + (O : Int) := by omega
          have bc : (a : Int) + (O : Int) < (n : Int) := by omega
          have rc : IntKind.i64.wrap ((a : Int) + (O : Int)) = (a : Int) + (O : Int) := by rw [IntKind.wrap_i64]; omega
          have li : a ≤ i1 ∧ i1 < a + L := by omega
          have lj : a ≤ j1 ∧ j1 < a + L := by omega
          obtain ⟨x, hx⟩ : ∃ x, x = dk i1 := ⟨_, rfl⟩
          obtain ⟨y, hy⟩ : ∃ x, x = dk j1 := ⟨_, rfl⟩
          have S3 : Aside (Bp bk n c e a (a + L) d w (swF dk i1 j1) R' (((w2.setCell ⟨bk, i1, none⟩ (.int .u8 y)).setCell ⟨bk, j1, none⟩ (.int .u8 x)).drew)) := by rw [hx, hy]; exact S2.out.swap hbn li lj
          have ca := S2.out.at (show i1 < n by omega)
          have cb := S2.out.at (show j1 < n by omega)
          have fa := S2.out.fz (show i1 < n by omega)
          have fb := S2.out.fz (show j1 < n by omega)
          obtain ⟨u, cc⟩ := S2.out.c2 (show i1 < n by omega) (show j1 < n by omega) (.int .u8 y)
          rw [← hx] at ca
          rw [← hy] at cb
          have HI : Aside (i1 = a + L / 4 * 2 - 1 + t) := hi1
          clear S2 hx hy hi1 hj1 li lj
          go_wp2_with fail
          go_big_region_o
          clear ca cb cc fa fb
          generalize ((w2.setCell ⟨bk, i1, none⟩ (.int .u8 y)).setCell ⟨bk, j1, none⟩ (.int .u8 x)).drew = w3 at S3 ⊢
          clear ea ec
          go_wp2
          go_roundg (3 - (t + 1))
          case measure => omega
          case rel => exact ⟨t + 1, R', swF dk i1 j1, by congr 1; push_cast; omega, by omega, Nat.le_refl _, S3⟩
      · obtain rfl : t = 3 := by omega
        have hle : ¬ ((a : Int) + (L : Int) / 4 * 2 - 1 + ((3 : Nat) : Int) ≤ (a : Int) + (L : Int) / 4 * 2 + 1) := by omega
        go_wp2
        go_end0
        obtain ⟨hA, cur', h1, h2, h3⟩ := S1.out.done
        exact ⟨_, _, ⟨dk, rfl, S1.out.pm, rfl⟩, rfl, hA, cur', h1, by rw [h2]; exact HC.out.symm, h3⟩
  · have h8z : ¬ (8 : Int) ≤ (L : Int) := by omega
    go_enter Try.func131, Try.ntmps131
    go_wp2
    go_end0
    exact ⟨_, _, ⟨d, rfl, Pm.refl _ _ _, rfl⟩, rfl, ⟨rfl, rfl, rfl, Nat.le_refl _, fun _ _ _ => rfl⟩, cur, hw, hsz, hc⟩
end Go.Proofs.Yteapdildbfimnaa
