/- slices.Compact at bytes, walked: what it leaves of the block. Conditions: no more than 2^40 bytes. -/
import Derived.Test.YteapdildbfimnaaFnSrtC
import Derived.Lib.SliceRun
import Derived.Deep.LoopGhost
namespace Go.Proofs.Yteapdildbfimnaa
open Go.RowKit Go.Proofs Go.Sort
set_option linter.unusedSimpArgs false
set_option linter.unusedVariables false

/-- Of the first m numbers those that are not as the one ahead. -/
def kpB (d : Nat → Int) (j : Nat) : Bool := decide (j = 0 ∨ d (j - 1) ≠ d j)
def kV (d : Nat → Int) : Nat → List Int
  | 0 => []
  | m + 1 => if kpB d m then kV d m ++ [d m] else kV d m
theorem kV_len (d : Nat → Int) : ∀ m, (kV d m).length ≤ m
  | 0 => Nat.le_refl _
  | m + 1 => by
    have := kV_len d m
    unfold kV
    split
    · simp; omega
    · omega
theorem kV_all {d : Nat → Int} : ∀ {m : Nat}, (∀ j, j < m → kpB d j = true) → kV d m = (List.range m).map d
  | 0, _ => rfl
  | m + 1, h => by
    unfold kV
    rw [h m (by omega), if_pos rfl, kV_all fun j hj => h j (by omega), List.range_succ, List.map_append]; rfl
/-- m places have been looked at; what stays of them, k, lies at the head; from place k on all is as it was. -/
structure CoB (d : Nat → Int) (m k : Nat) (g : Nat → Int) : Prop where
  len : (kV d m).length = k
  lt : k < m
  low : ∀ j, j < k → (kV d m)[j]? = some (g j)
  high : ∀ j, k ≤ j → g j = d j
theorem CoB.start {d : Nat → Int} {k : Nat} (h : ∀ j, j < k → kpB d j = true) (h2 : kpB d k = false) : CoB d (k + 1) k d := by
  have e : kV d (k + 1) = (List.range k).map d := by unfold kV; rw [h2]; simpa using kV_all h
  exact ⟨by rw [e]; simp, by omega, fun j hj => by rw [e]; simp [hj], fun j hj => rfl⟩
theorem CoB.skip {d : Nat → Int} {m k : Nat} {g : Nat → Int} (h : CoB d m k g) (hk : kpB d m = false) : CoB d (m + 1) k g := by
  have e : kV d (m + 1) = kV d m := by conv => lhs; unfold kV; rw [hk]
                                       simp
  exact ⟨by rw [e]; exact h.len, by have := h.lt; omega, fun j hj => by rw [e]; exact h.low j hj, h.high⟩
theorem CoB.keep {d : Nat → Int} {m k : Nat} {g : Nat → Int} (h : CoB d m k g) (hk : kpB d m = true) : CoB d (m + 1) (k + 1) (fun j => if j = k then d m else g j) := by
  have e : kV d (m + 1) = kV d m ++ [d m] := by conv => lhs; unfold kV; rw [hk]
                                                simp
  refine ⟨by rw [e]; simp [h.len], by have := h.lt; omega, fun j hj => ?_, fun j hj => ?_⟩
  · rw [e]
    by_cases e2 : j = k
    · subst e2
      rw [List.getElem?_append_right (by rw [h.len]; exact Nat.le_refl _), h.len, Nat.sub_self, if_pos rfl]; rfl
    · rw [List.getElem?_append_left (by rw [h.len]; omega), if_neg e2]; exact h.low j (by omega)
  · rw [if_neg (by omega)]; exact h.high j (by omega)

/-- The block's first n cells hold g. -/
def LaidB (wr : World) (b : Nat) (e : TypeId) (sz n : Nat) (g : Nat → Int) : Prop := ∃ cur : Array Value, Gb wr b e cur ∧ cur.size = sz ∧ ∀ j, j < n → cur[j]? = some (.int .u8 (g j))
theorem LaidB.drewN {wr : World} {b : Nat} {e : TypeId} {sz n : Nat} {g : Nat → Int} (h : LaidB wr b e sz n g) (q : Nat) : LaidB (wr.drewN q) b e sz n g := h
theorem LaidB.cell {wr : World} {b : Nat} {e : TypeId} {sz n : Nat} {g : Nat → Int} (h : LaidB wr b e sz n g) {j : Nat} (hj : j < n) : wr.cell? ⟨b, j, none⟩ = some (.int .u8 (g j)) := by
  obtain ⟨cur, h1, h2, h3⟩ := h
  exact h1.cell (h3 j hj)
theorem LaidB.frozen {wr : World} {b : Nat} {e : TypeId} {sz n : Nat} {g : Nat → Int} (h : LaidB wr b e sz n g) {j : Nat} (hj : j < n) : wr.frozen? ⟨b, j, none⟩ = false := by
  obtain ⟨cur, h1, h2, h3⟩ := h
  exact h1.fz (Array.getElem?_eq_some_iff.1 (h3 j hj)).1
theorem LaidB.set {wr : World} {b : Nat} {e : TypeId} {sz n : Nat} {g : Nat → Int} (h : LaidB wr b e sz n g) (hn : n ≤ sz) {k : Nat} (x : Int) (hk : k < n) : LaidB (wr.setCell ⟨b, k, none⟩ (.int .u8 x)) b e sz n (fun j => if j = k then x else g j) := by
  obtain ⟨cur, h1, h2, h3⟩ := h
  refine ⟨_, h1.set k _, by simpa using h2, fun j hj => ?_⟩
  by_cases e2 : j = k
  · subst e2; show _ = some (Value.int .u8 (if j = j then x else g j)); rw [if_pos rfl]; simp [show j < cur.size by omega]
  · show _ = some (Value.int .u8 (if j = k then x else g j))
    rw [if_neg e2, Array.getElem?_setIfInBounds_ne (fun h => e2 h.symm)]; exact h3 j hj
theorem LaidB.kept {wr : World} {b : Nat} {e : TypeId} {sz n : Nat} {d : Nat → Int} (h : LaidB wr b e sz n d) (hk : ∀ j, j < n → kpB d j = true) : (kV d n).length = n ∧ LaidB wr b e sz (kV d n).length (fun j => (kV d n).getD j 0) := by
  have e1 := kV_all hk
  have e2 : (kV d n).length = n := by rw [e1]; simp
  refine ⟨e2, ?_⟩
  rw [e2]
  obtain ⟨cur, h1, h2, h3⟩ := h
  refine ⟨cur, h1, h2, fun j hj => ?_⟩
  rw [h3 j hj, e1]
  simp [List.getD, hj]
theorem Gb.sets {w : World} {b : Nat} {e : TypeId} {cur : Array Value} (h : Gb w b e cur) (l : List Value) (o : Nat) : ∃ cur' : Array Value, Gb (w.setCells b o l) b e cur' ∧ cur'.size = cur.size ∧ (∀ j, (j < o ∨ o + l.length ≤ j) → cur'[j]? = cur[j]?) ∧
    (w.setCells b o l).os = w.os ∧ (w.setCells b o l).tape = w.tape ∧ (w.setCells b o l).output = w.output ∧ (w.setCells b o l).heap.size = w.heap.size ∧ ∀ k, k ≠ b → (w.setCells b o l).heap[k]? = w.heap[k]? := by
  rcases h with h | ⟨h0, h⟩
  · obtain ⟨cur', h1, h2, h3, _, h5⟩ := setCells_at l w b o cur _ _ h
    exact ⟨cur', .inl h1, h2, h3, h5⟩
  · obtain ⟨cur', h1, h2, h3, _, h5⟩ := setCells_at l w b o cur _ _ h
    exact ⟨cur', .inr ⟨h0, by rw [h2]; exact h1⟩, h2, h3, h5⟩
theorem AllBut.refl' (b : Nat) (w : World) : AllBut b w w := ⟨rfl, rfl, rfl, Nat.le_refl _, fun _ _ _ => rfl⟩
theorem AllBut.drewN {b : Nat} {w wr : World} (h : AllBut b w wr) (q : Nat) : AllBut b w (wr.drewN q) := ⟨h.os, h.tape, h.output, h.size, h.oth⟩
theorem AllBut.setCell' {b : Nat} {w wr : World} (h : AllBut b w wr) (j : Nat) (v : Value) : AllBut b w (wr.setCell ⟨b, j, none⟩ v) :=
  ⟨h.os, h.tape, h.output, by rw [setCell_size]; exact h.size, fun k hk hne => (Below.heap_setCell _ _ _ _ hne).trans (h.oth k hk hne)⟩

set_option maxHeartbeats 8000000 in
set_option maxRecDepth 1000000 in
theorem compactB_walk (d : Nat → Int) (n sz : Nat) (w : World) (b c : Nat) (e : TypeId) (hl : LaidB w b e sz n d) (hn : n ≤ sz) (hc : n ≤ c) (hM : n ≤ 1099511627776) :
    Calls Try.prog 49 #[.slice (some ⟨b, 0, none⟩) n c] w fun e' w' =>
      e' = .returned (.slice (some ⟨b, 0, none⟩) (kV d n).length c) ∧ AllBut b w w' ∧ LaidB w' b e sz (kV d n).length (fun j => (kV d n).getD j 0) := by
  have mixed : Try.prog.follows .mixedOrders = true := rfl
  have F : Aside (LaidB w b e sz n d ∧ n ≤ sz) := ⟨hl, hn⟩
  clear hl hn
  by_cases h2 : n < 2
  · go_enter Try.func49, Try.ntmps49
    go_wp2
    go_ret
    obtain ⟨e1, e2⟩ := F.out.1.kept (fun j hj => decide_eq_true (by by_cases h : j = 0; exact .inl h; omega))
    exact ⟨by rw [e1]; rfl, AllBut.refl' _ _, e2⟩
  · go_enter Try.func49, Try.ntmps49
    go_wp2
    go_loopg [3] n (fun g s3 wr => ∃ k : Nat, 1 ≤ k ∧ k ≤ n ∧ n - k ≤ g ∧ s3 = .int .i64 k ∧ AllBut b w wr ∧ LaidB wr b e sz n d ∧ ∀ j, j < k → kpB d j = true)
    case atStart => exact ⟨1, Nat.le_refl _, by omega, by omega, rfl, AllBut.refl' _ _, F.out.1, fun j hj => decide_eq_true (.inl (by omega))⟩
    case round =>
      obtain ⟨k, hk1, hk, hg, rfl, hab, hla, hall⟩ := hrel
      by_cases hlt : k < n
      · have c1 := fun q => (hla.drewN q).cell hlt
        have c0 := fun q => (hla.drewN q).cell (show k - 1 < n by omega)
        have A : Aside (AllBut b w wr ∧ LaidB wr b e sz n d ∧ ∀ j, j < k → kpB d j = true) := ⟨hab, hla, hall⟩
        clear hab hla hall
        have hw : IntKind.i64.wrap ((k : Int) - 1) = ((k - 1 : Nat) : Int) := by
          have : IntKind.i64.wrap ((k : Int) - 1) = (k : Int) - 1 := by simp [IntKind.wrap, IntKind.bits, IntKind.signed]; omega
          omega
        have hkm : k - 1 < n := by omega
        by_cases hdup : d k = d (k - 1)
        · have B : Aside (kpB d k = false) := decide_eq_false (fun h => by rcases h with h | h; omega; exact h hdup.symm)
          rw [hdup] at c1
          clear hdup
          generalize d (k - 1) = x at *
          go_wp2_with fail
          go_quiet_o (fail)
          go_wp2
          clear c1 c0 hw hkm
          go_loopg [3, 5] n (fun g s3 s5 wr => ∃ (kk k2 : Nat) (dk : Nat → Int), s3 = .int .i64 kk ∧ s5 = .int .i64 k2 ∧ 1 ≤ k2 ∧ k + k2 ≤ n ∧ n - (k + k2) ≤ g ∧ AllBut b w wr ∧ LaidB wr b e sz n dk ∧ CoB d (k + k2) kk dk)
          case atStart => exact ⟨k, 1, d, rfl, rfl, Nat.le_refl _, by omega, by omega, A.out.1.drewN _, A.out.2.1.drewN _, CoB.start A.out.2.2 B.out⟩
          case round =>
            obtain ⟨kk, k2, dk, rfl, rfl, h1, hle, hg2, hab, hla, hI⟩ := hrel
            have hkk := hI.lt
            by_cases hlt2 : k + k2 < n
            · have cm := fun q => (hla.drewN q).cell hlt2
              have cp := fun q => (hla.drewN q).cell (show k + (k2 - 1) < n by omega)
              have ck := fun q => (hla.drewN q).cell (show kk < n by omega)
              have fk := fun q => (hla.drewN q).frozen (show kk < n by omega)
              simp only [hI.high (k + k2) (by omega)] at cm
              simp only [hI.high (k + (k2 - 1)) (by omega)] at cp
              have A2 : Aside (AllBut b w wr ∧ LaidB wr b e sz n dk ∧ CoB d (k + k2) kk dk) := ⟨hab, hla, hI⟩
              clear hab hla hI
              have hw : IntKind.i64.wrap ((k2 : Int) - 1) = ((k2 - 1 : Nat) : Int) := by
                have : IntKind.i64.wrap ((k2 : Int) - 1) = (k2 : Int) - 1 := by simp [IntKind.wrap, IntKind.bits, IntKind.signed]; omega
                omega
              have hb1 : k2 < n - k := by omega
              have hb2 : k2 - 1 < n - k := by omega
              have hb3 : kk < n := by omega
              by_cases hdup2 : d (k + k2) = d (k + (k2 - 1))
              · have B2 : Aside (kpB d (k + k2) = false) := decide_eq_false (fun h => by
                  rcases h with h | h
                  · omega
                  · exact h (by rw [show k + k2 - 1 = k + (k2 - 1) by omega]; exact hdup2.symm))
                rw [hdup2] at cm
                clear hdup2
                generalize d (k + (k2 - 1)) = x at *
                go_wp2_with fail
                go_quiet_o (fail)
                go_wp2
                go_roundg (n - (k + (k2 + 1)))
                case measure => omega
                case rel => exact ⟨kk, k2 + 1, dk, rfl, by congr 1, by omega, by omega, Nat.le_refl _, A2.out.1.drewN _, A2.out.2.1.drewN _, A2.out.2.2.skip B2.out⟩
              · have B2 : Aside (kpB d (k + k2) = true) := decide_eq_true (.inr fun h => hdup2 (by rw [show k + (k2 - 1) = k + k2 - 1 by omega]; exact h.symm))
                obtain ⟨x, hx⟩ : ∃ x, x = d (k + k2) := ⟨_, rfl⟩
                rw [← hx] at cm hdup2
                have X : Aside (x = d (k + k2)) := hx
                clear hx
                generalize d (k + (k2 - 1)) = y at *
                go_wp2_with fail
                go_quiet_o (fail)
                go_wp2
                go_roundg (n - (k + (k2 + 1)))
                case measure => omega
                case rel =>
                  refine ⟨kk + 1, k2 + 1, fun j => if j = kk then d (k + k2) else dk j, by congr 1, by congr 1, by omega, by omega, Nat.le_refl _, (A2.out.1.drewN _).setCell' _ _, ?_, A2.out.2.2.keep B2.out⟩
                  rw [X.out]
                  exact (A2.out.2.1.drewN _).set F.out.2 _ (by omega)
            · have hend : k + k2 = n := by omega
              have hcl : ∀ ty, (Builtin.clear_ #[29] ty #[.slice (some ⟨b, kk, none⟩) (n - kk) (c - kk)]).run Try.prog wr = .ok (.tuple #[]) (wr.setCells b kk (List.replicate (n - kk) (.int .u8 0))) :=
                fun ty => Lib.run_clear_slice wr _ _ ty _ Try.underlying29 Try.zeroValue5 rfl rfl b kk _ _ (by omega) (fun j hj => by rw [hla.cell (show kk + j < n by omega)]; rfl) (fun j hj => hla.frozen (by omega))
              have A2 : Aside (AllBut b w wr ∧ LaidB wr b e sz n dk ∧ CoB d (k + k2) kk dk) := ⟨hab, hla, hI⟩
              clear hab hla hI
              have hb3 : kk ≤ n := by omega
              have hb4 : kk ≤ c := by omega
              go_wp2
              go_ret
              obtain ⟨hab, hla, hI⟩ := A2.out
              rw [hend] at hI
              obtain ⟨cur', q1, q2, q3⟩ := hla
              obtain ⟨cur2, r1, r2, r3, r5, r6, r7, r8, r9⟩ := q1.sets (List.replicate (n - kk) (.int .u8 0)) kk
              refine ⟨by rw [hI.len]; rfl, ⟨r5.trans hab.os, r6.trans hab.tape, r7.trans hab.output, by rw [r8]; exact hab.size, fun i hi hne => (r9 i hne).trans (hab.oth i hi hne)⟩, cur2, r1, by rw [r2, q2], fun j hj => ?_⟩
              rw [hI.len] at hj
              rw [r3 j (.inl hj), q3 j (by omega)]
              have := hI.low j hj
              simp [List.getD, this]
        · have B : Aside (kpB d k = true) := decide_eq_true (.inr fun h => hdup h.symm)
          generalize d k = x at *
          generalize d (k - 1) = y at *
          go_wp2_with fail
          go_quiet_o (fail)
          go_wp2
          go_roundg (n - (k + 1))
          case measure => omega
          case rel =>
            refine ⟨k + 1, by omega, by omega, Nat.le_refl _, by congr 1, A.out.1.drewN _, A.out.2.1.drewN _, fun j hj => ?_⟩
            by_cases e2 : j = k
            · subst e2; exact B.out
            · exact A.out.2.2 j (by omega)
      · have e0 : k = n := by omega
        have A : Aside (AllBut b w wr ∧ LaidB wr b e sz n d ∧ ∀ j, j < k → kpB d j = true) := ⟨hab, hla, hall⟩
        clear hab hla hall
        go_wp2
        go_ret
        subst e0
        obtain ⟨e1, e2⟩ := A.out.2.1.kept A.out.2.2
        exact ⟨by rw [e1]; rfl, A.out.1, e2⟩
end Go.Proofs.Yteapdildbfimnaa
