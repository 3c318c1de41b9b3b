/- Parts of the proof of LawFnParts: contracts of functions, laws of an abstract state, plain facts. No conditions. -/
import Derived.Test.YteapdildbfimnaaB10
import Derived.Lib.SliceRun
import Derived.Deep.LoopGhost
import Derived.Test.YteapdildbfimnaaShelf
namespace Go.Proofs.Yteapdildbfimnaa
open Go.RowKit Go.Proofs Go.Sort
set_option linter.unusedSimpArgs false
set_option linter.unusedVariables false

/-- Of the first m numbers those that are not as the one ahead. -/
def kpB (d : Nat → Int) (j : Nat) : Bool := decide (j = 0 ∨ d (j - 1) ≠ d j)
def kV (d : Nat → Int) : Nat → List Int
  | 0 => []
  | m + 1 => if kpB d m then kV d m ++ [d m] else kV d m
theorem kV_all {d : Nat → Int} : ∀ {m : Nat}, (∀ j, j < m → kpB d j = true) → kV d m = (List.range m).map d
  | 0, _ => rfl
  | m + 1, h => by
    unfold kV
    rw [h m (by omega), if_pos rfl, kV_all fun j hj => h j (by omega), List.range_succ, List.map_append]; rfl
/-- m places have been looked at; what stays of them, k, lies at the head; from place k on all is as it was. -/
structure CoB (d : Nat → Int) (m k : Nat) (g : Nat → Int) : Prop where
  len : (kV d m).length = k
  lt : k < m
  low : ∀ j, j < k → (kV d m)[j]? = some (g j)
  high : ∀ j, k ≤ j → g j = d j
theorem CoB.start {d : Nat → Int} {k : Nat} (h : ∀ j, j < k → kpB d j = true) (h2 : kpB d k = false) : CoB d (k + 1) k d := by
  have e : kV d (k + 1) = (List.range k).map d := by unfold kV; rw [h2]; simpa using kV_all h
  exact ⟨by rw [e]; simp, by omega, fun j hj => by rw [e]; simp [hj], fun j hj => rfl⟩
theorem CoB.skip {d : Nat → Int} {m k : Nat} {g : Nat → Int} (h : CoB d m k g) (hk : kpB d m = false) : CoB d (m + 1) k g := by
  have e : kV d (m + 1) = kV d m := by conv => lhs; unfold kV; rw [hk]
                                       simp
  exact ⟨by rw [e]; exact h.len, by have := h.lt; omega, fun j hj => by rw [e]; exact h.low j hj, h.high⟩
theorem CoB.keep {d : Nat → Int} {m k : Nat} {g : Nat → Int} (h : CoB d m k g) (hk : kpB d m = true) : CoB d (m + 1) (k + 1) (fun j => if j = k then d m else g j) := by
  have e : kV d (m + 1) = kV d m ++ [d m] := by conv => lhs; unfold kV; rw [hk]
                                                simp
  refine ⟨by rw [e]; simp [h.len], by have := h.lt; omega, fun j hj => ?_, fun j hj => ?_⟩
  · rw [e]
    by_cases e2 : j = k
    · subst e2
      rw [List.getElem?_append_right (by rw [h.len]; exact Nat.le_refl _), h.len, Nat.sub_self, if_pos rfl]; rfl
    · rw [List.getElem?_append_left (by rw [h.len]; omega), if_neg e2]; exact h.low j (by omega)
  · rw [if_neg (by omega)]; exact h.high j (by omega)

/-- The block's first n cells hold g. -/
def LaidB (wr : World) (b : Nat) (e : TypeId) (sz n : Nat) (g : Nat → Int) : Prop := ∃ cur : Array Value, Gb wr b e cur ∧ cur.size = sz ∧ ∀ j, j < n → cur[j]? = some (.int .u8 (g j))
theorem LaidB.drewN {wr : World} {b : Nat} {e : TypeId} {sz n : Nat} {g : Nat → Int} (h : LaidB wr b e sz n g) (q : Nat) : LaidB (wr.drewN q) b e sz n g := h
theorem LaidB.cell {wr : World} {b : Nat} {e : TypeId} {sz n : Nat} {g : Nat → Int} (h : LaidB wr b e sz n g) {j : Nat} (hj : j < n) : wr.cell? ⟨b, j, none⟩ = some (.int .u8 (g j)) := by
  obtain ⟨cur, h1, h2, h3⟩ := h
  exact h1.cell (h3 j hj)
theorem LaidB.frozen {wr : World} {b : Nat} {e : TypeId} {sz n : Nat} {g : Nat → Int} (h : LaidB wr b e sz n g) {j : Nat} (hj : j < n) : wr.frozen? ⟨b, j, none⟩ = false := by
  obtain ⟨cur, h1, h2, h3⟩ := h
  exact h1.fz (Array.getElem?_eq_some_iff.1 (h3 j hj)).1
theorem LaidB.set {wr : World} {b : Nat} {e : TypeId} {sz n : Nat} {g : Nat → Int} (h : LaidB wr b e sz n g) (hn : n ≤ sz) {k : Nat} (x : Int) (hk : k < n) : LaidB (wr.setCell ⟨b, k, none⟩ (.int .u8 x)) b e sz n (fun j => if j = k then x else g j) := by
  obtain ⟨cur, h1, h2, h3⟩ := h
  refine ⟨_, h1.set k _, by simpa using h2, fun j hj => ?_⟩
  by_cases e2 : j = k
  · subst e2; show _ = some (Value.int .u8 (if j = j then x else g j)); rw [if_pos rfl]; simp [show j < cur.size by omega]
  · show _ = some (Value.int .u8 (if j = k then x else g j))
    rw [if_neg e2, Array.getElem?_setIfInBounds_ne (fun h => e2 h.symm)]; exact h3 j hj
theorem LaidB.kept {wr : World} {b : Nat} {e : TypeId} {sz n : Nat} {d : Nat → Int} (h : LaidB wr b e sz n d) (hk : ∀ j, j < n → kpB d j = true) : (kV d n).length = n ∧ LaidB wr b e sz (kV d n).length (fun j => (kV d n).getD j 0) := by
  have e1 := kV_all hk
  have e2 : (kV d n).length = n := by rw [e1]; simp
  refine ⟨e2, ?_⟩
  rw [e2]
  obtain ⟨cur, h1, h2, h3⟩ := h
  refine ⟨cur, h1, h2, fun j hj => ?_⟩
  rw [h3 j hj, e1]
  simp [List.getD, hj]
theorem Gb.sets {w : World} {b : Nat} {e : TypeId} {cur : Array Value} (h : Gb w b e cur) (l : List Value) (o : Nat) : ∃ cur' : Array Value, Gb (w.setCells b o l) b e cur' ∧ cur'.size = cur.size ∧ (∀ j, (j < o ∨ o + l.length ≤ j) → cur'[j]? = cur[j]?) ∧
    (w.setCells b o l).os = w.os ∧ (w.setCells b o l).tape = w.tape ∧ (w.setCells b o l).output = w.output ∧ (w.setCells b o l).heap.size = w.heap.size ∧ ∀ k, k ≠ b → (w.setCells b o l).heap[k]? = w.heap[k]? := by
  rcases h with h | ⟨h0, h⟩
  · obtain ⟨cur', h1, h2, h3, _, h5⟩ := setCells_at l w b o cur _ _ h
    exact ⟨cur', .inl h1, h2, h3, h5⟩
  · obtain ⟨cur', h1, h2, h3, _, h5⟩ := setCells_at l w b o cur _ _ h
    exact ⟨cur', .inr ⟨h0, by rw [h2]; exact h1⟩, h2, h3, h5⟩
theorem AllBut.refl' (b : Nat) (w : World) : AllBut b w w := ⟨rfl, rfl, rfl, Nat.le_refl _, fun _ _ _ => rfl⟩
theorem AllBut.drewN {b : Nat} {w wr : World} (h : AllBut b w wr) (q : Nat) : AllBut b w (wr.drewN q) := ⟨h.os, h.tape, h.output, h.size, h.oth⟩
theorem AllBut.setCell' {b : Nat} {w wr : World} (h : AllBut b w wr) (j : Nat) (v : Value) : AllBut b w (wr.setCell ⟨b, j, none⟩ v) :=
  ⟨h.os, h.tape, h.output, by rw [setCell_size]; exact h.size, fun k hk hne => (Below.heap_setCell _ _ _ _ hne).trans (h.oth k hk hne)⟩

set_option maxHeartbeats 8000000 in
set_option maxRecDepth 1000000 in
theorem compactB_walk (d : Nat → Int) (n sz : Nat) (w : World) (b c : Nat) (e : TypeId) (hl : LaidB w b e sz n d) (hn : n ≤ sz) (hc : n ≤ c) (hM : n ≤ 1099511627776) :
    Calls Try.prog 49 #[.slice (some ⟨b, 0, none⟩) n c] w fun e' w' =>
      e' = .returned (.slice (some ⟨b, 0, none⟩) (kV d n).length c) ∧ AllBut b w w' ∧ LaidB w' b e sz (kV d n).length (fun j => (kV d n).getD j 0) := by
  have mixed : Try.prog.follows .mixedOrders = true := rfl
  have F : Aside (LaidB w b e sz n d ∧ n ≤ sz) := ⟨hl, hn⟩
  clear hl hn
  by_cases h2 : n < 2
  · go_enter Try.func49, Try.ntmps49
    go_wp2
    go_ret
    obtain ⟨e1, e2⟩ := F.out.1.kept (fun j hj => decide_eq_true (by by_cases h : j = 0; exact .inl h; omega))
    exact ⟨by rw [e1]; rfl, AllBut.refl' _ _, e2⟩
  · go_enter Try.func49, Try.ntmps49
    go_wp2
    go_loopg [3] n (fun g s3 wr => ∃ k : Nat, 1 ≤ k ∧ k ≤ n ∧ n - k ≤ g ∧ s3 = .int .i64 k ∧ AllBut b w wr ∧ LaidB wr b e sz n d ∧ ∀ j, j < k → kpB d j = true)
    case atStart => exact ⟨1, Nat.le_refl _, by omega, by omega, rfl, AllBut.refl' _ _, F.out.1, fun j hj => decide_eq_true (.inl (by omega))⟩
    case round =>
      obtain ⟨k, hk1, hk, hg, rfl, hab, hla, hall⟩ := hrel
      by_cases hlt : k < n
      · have c1 := fun q => (hla.drewN q).cell hlt
        have c0 := fun q => (hla.drewN q).cell (show k - 1 < n by omega)
        have A : Aside (AllBut b w wr ∧ LaidB wr b e sz n d ∧ ∀ j, j < k → kpB d j = true) := ⟨hab, hla, hall⟩
        clear hab hla hall
        have hw : IntKind.i64.wrap ((k : Int) - 1) = ((k - 1 : Nat) : Int) := by
          have : IntKind.i64.wrap ((k : Int) - 1) = (k : Int) - 1 := by simp [IntKind.wrap, IntKind.bits, IntKind.signed]; omega
          omega
        have hkm : k - 1 < n := by omega
        by_cases hdup : d k = d (k - 1)
        · have B : Aside (kpB d k = false) := decide_eq_false (fun h => by rcases h with h | h; omega; exact h hdup.symm)
          rw [hdup] at c1
          clear hdup
          generalize d (k - 1) = x at *
          go_wp2_with fail
          go_quiet_o (fail)
          go_wp2
          clear c1 c0 hw hkm
          go_loopg [3, 5] n (fun g s3 s5 wr => ∃ (kk k2 : Nat) (dk : Nat → Int), s3 = .int .i64 kk ∧ s5 = .int .i64 k2 ∧ 1 ≤ k2 ∧ k + k2 ≤ n ∧ n - (k + k2) ≤ g ∧ AllBut b w wr ∧ LaidB wr b e sz n dk ∧ CoB d (k + k2) kk dk)
          case atStart => exact ⟨k, 1, d, rfl, rfl, Nat.le_refl _, by omega, by omega, A.out.1.drewN _, A.out.2.1.drewN _, CoB.start A.out.2.2 B.out⟩
          case round =>
            obtain ⟨kk, k2, dk, rfl, rfl, h1, hle, hg2, hab, hla, hI⟩ := hrel
            have hkk := hI.lt
            by_cases hlt2 : k + k2 < n
            · have cm := fun q => (hla.drewN q).cell hlt2
              have cp := fun q => (hla.drewN q).cell (show k + (k2 - 1) < n by omega)
              have ck := fun q => (hla.drewN q).cell (show kk < n by omega)
              have fk := fun q => (hla.drewN q).frozen (show kk < n by omega)
              simp only [hI.high (k + k2) (by omega)] at cm
              simp only [hI.high (k + (k2 - 1)) (by omega)] at cp
              have A2 : Aside (AllBut b w wr ∧ LaidB wr b e sz n dk ∧ CoB d (k + k2) kk dk) := ⟨hab, hla, hI⟩
              clear hab hla hI
              have hw : IntKind.i64.wrap ((k2 : Int) - 1) = ((k2 - 1 : Nat) : Int) := by
                have : IntKind.i64.wrap ((k2 : Int) - 1) = (k2 : Int) - 1 := by simp [IntKind.wrap, IntKind.bits, IntKind.signed]; omega
                omega
              have hb1 : k2 < n - k := by omega
              have hb2 : k2 - 1 < n - k := by omega
              have hb3 : kk < n := by omega
              by_cases hdup2 : d (k + k2) = d (k + (k2 - 1))
              · have B2 : Aside (kpB d (k + k2) = false) := decide_eq_false (fun h => by
                  rcases h with h | h
                  · omega
                  · exact h (by rw [show k + k2 - 1 = k + (k2 - 1) by omega]; exact hdup2.symm))
                rw [hdup2] at cm
                clear hdup2
                generalize d (k + (k2 - 1)) = x at *
                go_wp2_with fail
                go_quiet_o (fail)
                go_wp2
                go_roundg (n - (k + (k2 + 1)))
                case measure => omega
                case rel => exact ⟨kk, k2 + 1, dk, rfl, by congr 1, by omega, by omega, Nat.le_refl _, A2.out.1.drewN _, A2.out.2.1.drewN _, A2.out.2.2.skip B2.out⟩
              · have B2 : Aside (kpB d (k + k2) = true) := decide_eq_true (.inr fun h => hdup2 (by rw [show k + (k2 - 1) = k + k2 - 1 by omega]; exact h.symm))
                obtain ⟨x, hx⟩ : ∃ x, x = d (k + k2) := ⟨_, rfl⟩
                rw [← hx] at cm hdup2
                have X : Aside (x = d (k + k2)) := hx
                clear hx
                generalize d (k + (k2 - 1)) = y at *
                go_wp2_with fail
                go_quiet_o (fail)
                go_wp2
                go_roundg (n - (k + (k2 + 1)))
                case measure => omega
                case rel =>
                  refine ⟨kk + 1, k2 + 1, fun j => if j = kk then d (k + k2) else dk j, by congr 1, by congr 1, by omega, by omega, Nat.le_refl _, (A2.out.1.drewN _).setCell' _ _, ?_, A2.out.2.2.keep B2.out⟩
                  rw [X.out]
                  exact (A2.out.2.1.drewN _).set F.out.2 _ (by omega)
            · have hend : k + k2 = n := by omega
              have hcl : ∀ ty, (Builtin.clear_ #[29] ty #[.slice (some ⟨b, kk, none⟩) (n - kk) (c - kk)]).run Try.prog wr = .ok (.tuple #[]) (wr.setCells b kk (List.replicate (n - kk) (.int .u8 0))) :=
                fun ty => Lib.run_clear_slice wr _ _ ty _ Try.underlying29 Try.zeroValue5 rfl rfl b kk _ _ (by omega) (fun j hj => by rw [hla.cell (show kk + j < n by omega)]; rfl) (fun j hj => hla.frozen (by omega))
              have A2 : Aside (AllBut b w wr ∧ LaidB wr b e sz n dk ∧ CoB d (k + k2) kk dk) := ⟨hab, hla, hI⟩
              clear hab hla hI
              have hb3 : kk ≤ n := by omega
              have hb4 : kk ≤ c := by omega
              go_wp2
              go_ret
              obtain ⟨hab, hla, hI⟩ := A2.out
              rw [hend] at hI
              obtain ⟨cur', q1, q2, q3⟩ := hla
              obtain ⟨cur2, r1, r2, r3, r5, r6, r7, r8, r9⟩ := q1.sets (List.replicate (n - kk) (.int .u8 0)) kk
              refine ⟨by rw [hI.len]; rfl, ⟨r5.trans hab.os, r6.trans hab.tape, r7.trans hab.output, by rw [r8]; exact hab.size, fun i hi hne => (r9 i hne).trans (hab.oth i hi hne)⟩, cur2, r1, by rw [r2, q2], fun j hj => ?_⟩
              rw [hI.len] at hj
              rw [r3 j (.inl hj), q3 j (by omega)]
              have := hI.low j hj
              simp [List.getD, this]
        · have B : Aside (kpB d k = true) := decide_eq_true (.inr fun h => hdup h.symm)
          generalize d k = x at *
          generalize d (k - 1) = y at *
          go_wp2_with fail
          go_quiet_o (fail)
          go_wp2
          go_roundg (n - (k + 1))
          case measure => omega
          case rel =>
            refine ⟨k + 1, by omega, by omega, Nat.le_refl _, by congr 1, A.out.1.drewN _, A.out.2.1.drewN _, fun j hj => ?_⟩
            by_cases e2 : j = k
            · subst e2; exact B.out
            · exact A.out.2.2 j (by omega)
      · have e0 : k = n := by omega
        have A : Aside (AllBut b w wr ∧ LaidB wr b e sz n d ∧ ∀ j, j < k → kpB d j = true) := ⟨hab, hla, hall⟩
        clear hab hla hall
        go_wp2
        go_ret
        subst e0
        obtain ⟨e1, e2⟩ := A.out.2.1.kept A.out.2.2
        exact ⟨by rw [e1]; rfl, A.out.1, e2⟩
end Go.Proofs.Yteapdildbfimnaa
namespace Go.Proofs.Yteapdildbfimnaa
open Go.RowKit Go.Proofs
set_option linter.unusedSimpArgs false
set_option linter.unusedVariables false

theorem strict_ext : ∀ (xs ys : List Int), xs.Pairwise (· < ·) → ys.Pairwise (· < ·) → (∀ c, c ∈ xs ↔ c ∈ ys) → xs = ys
  | [], [], _, _, _ => rfl
  | [], y :: ys, _, _, h => absurd ((h y).2 (List.mem_cons_self ..)) (by simp)
  | x :: xs, [], _, _, h => absurd ((h x).1 (List.mem_cons_self ..)) (by simp)
  | x :: xs, y :: ys, hx, hy, h => by
    obtain ⟨hx1, hx2⟩ := List.pairwise_cons.1 hx
    obtain ⟨hy1, hy2⟩ := List.pairwise_cons.1 hy
    have e : x = y := by
      have h1 := (h x).1 (List.mem_cons_self ..)
      have h2 := (h y).2 (List.mem_cons_self ..)
      rcases List.mem_cons.1 h1 with h1 | h1
      · exact h1
      · rcases List.mem_cons.1 h2 with h2 | h2
        · exact h2.symm
        · have := hx1 y h2; have := hy1 x h1; omega
    subst e
    congr 1
    refine strict_ext xs ys hx2 hy2 fun c => ⟨fun hc => ?_, fun hc => ?_⟩
    · rcases List.mem_cons.1 ((h c).1 (List.mem_cons_of_mem _ hc)) with h1 | h1
      · have := hx1 c hc; omega
      · exact h1
    · rcases List.mem_cons.1 ((h c).2 (List.mem_cons_of_mem _ hc)) with h1 | h1
      · have := hy1 c hc; omega
      · exact h1

theorem kV_mem (d : Nat → Int) (c : Int) : ∀ m, c ∈ kV d m ↔ ∃ i, i < m ∧ d i = c
  | 0 => by simp [kV]
  | m + 1 => by
    have ih := kV_mem d c m
    unfold kV
    by_cases hk : kpB d m = true
    · rw [if_pos hk, List.mem_append, List.mem_singleton, ih]
      constructor
      · rintro (⟨i, h1, h2⟩ | rfl)
        · exact ⟨i, by omega, h2⟩
        · exact ⟨m, by omega, rfl⟩
      · rintro ⟨i, h1, h2⟩
        by_cases e : i = m
        · subst e; exact .inr h2.symm
        · exact .inl ⟨i, by omega, h2⟩
    · rw [if_neg hk, ih]
      have hk2 : ¬ (m = 0 ∨ d (m - 1) ≠ d m) := fun h => hk (decide_eq_true h)
      constructor
      · rintro ⟨i, h1, h2⟩; exact ⟨i, by omega, h2⟩
      · rintro ⟨i, h1, h2⟩
        by_cases e : i = m
        · subst e
          refine ⟨i - 1, by omega, ?_⟩
          rw [← h2]
          exact Classical.byContradiction fun h => hk2 (.inr h)
        · exact ⟨i, by omega, h2⟩
theorem kV_sorted {d : Nat → Int} {n : Nat} (hs : Srt 0 n d) : ∀ m, m ≤ n → (kV d m).Pairwise (· < ·)
  | 0, _ => List.Pairwise.nil
  | m + 1, hm => by
    have ih := kV_sorted hs m (by omega)
    unfold kV
    by_cases hk : kpB d m = true
    · rw [if_pos hk]
      refine List.pairwise_append.2 ⟨ih, List.pairwise_singleton _ _, fun x hx y hy => ?_⟩
      rw [List.mem_singleton] at hy
      subst hy
      obtain ⟨i, hi, rfl⟩ := (kV_mem d x m).1 hx
      have hk2 := of_decide_eq_true hk
      have hne : d (m - 1) ≠ d m := by
        rcases hk2 with h | h
        · omega
        · exact h
      have h1 := hs i (m - 1)
      have h2 := hs (m - 1) m (by omega) (by omega) (by omega)
      by_cases e : i = m - 1
      · subst e; omega
      · have := h1 (by omega) (by omega) (by omega); omega
    · rw [if_neg hk]; exact ih

def alpha : List Int := [42, 97, 98, 99, 100, 101, 102, 103, 104, 105, 106, 107, 108]
theorem alpha_mem {n : Int} : n ∈ alpha ↔ ltrI n = true := by
  unfold alpha ltrI
  simp only [List.mem_cons, List.not_mem_nil, or_false, Bool.or_eq_true, Bool.and_eq_true, decide_eq_true_eq, beq_iff_eq]
  omega
theorem alpha_sorted : alpha.Pairwise (· < ·) := by decide
/-- The letters that the picture has. -/
def ltL (l : List ByteArray) : List Int := alpha.filter fun c => decide (0 < cntP l c l.length)
theorem byteI_mem {b : ByteArray} {c : Int} : (∃ i, i < lenB b ∧ byteI b i = c) ↔ ∃ x ∈ bytesOf b, (x.toNat : Int) = c := by
  constructor
  · rintro ⟨i, hi, rfl⟩
    have hi : i < (bytesOf b).length := hi
    exact ⟨(bytesOf b)[i], List.getElem_mem hi, by unfold byteI; simp [List.getD, hi]⟩
  · rintro ⟨x, hx, rfl⟩
    obtain ⟨i, hi, rfl⟩ := List.mem_iff_getElem.1 hx
    exact ⟨i, hi, by unfold byteI; simp [List.getD, hi]⟩
theorem cntJ_pos {b : ByteArray} {c : Int} : ∀ j, 0 < cntJ b c j ↔ ∃ i, i < j ∧ byteI b i = c
  | 0 => by simp [cntJ]
  | j + 1 => by
    have ih := cntJ_pos (b := b) (c := c) j
    unfold cntJ
    by_cases h : byteI b j = c
    · rw [if_pos h]
      exact ⟨fun _ => ⟨j, by omega, h⟩, fun _ => by omega⟩
    · rw [if_neg h, Nat.add_zero, ih]
      constructor
      · rintro ⟨i, h1, h2⟩; exact ⟨i, by omega, h2⟩
      · rintro ⟨i, h1, h2⟩
        by_cases e : i = j
        · subst e; exact absurd h2 h
        · exact ⟨i, by omega, h2⟩
theorem cntP_pos {l : List ByteArray} {c : Int} : ∀ k, 0 < cntP l c k ↔ ∃ r, r < k ∧ ∃ i, i < lenB (stAt l r) ∧ byteI (stAt l r) i = c
  | 0 => by simp [cntP]
  | k + 1 => by
    have ih := cntP_pos (l := l) (c := c) k
    have hj := cntJ_pos (b := stAt l k) (c := c) (lenB (stAt l k))
    unfold cntP
    constructor
    · intro h
      by_cases h1 : 0 < cntP l c k
      · obtain ⟨r, hr, h2⟩ := ih.1 h1; exact ⟨r, by omega, h2⟩
      · obtain ⟨i, hi, h2⟩ := hj.1 (by omega); exact ⟨k, by omega, i, hi, h2⟩
    · rintro ⟨r, hr, h2⟩
      by_cases e : r = k
      · subst e; have := hj.2 h2; omega
      · have := ih.2 ⟨r, by omega, h2⟩; omega
theorem join_mem {l : List ByteArray} {x : UInt8} : x ∈ bytesOf (joinB l ⟨#[]⟩) ↔ ∃ r, r < l.length ∧ x ∈ bytesOf (stAt l r) := by
  have e : bytesOf (joinB l ⟨#[]⟩) = (l.map bytesOf).flatten := by
    rw [joinB_bytes]
    match l with
    | [] => rfl
    | b :: r =>
      rw [List.map_cons, Lib.join_cons]
      unfold Lib.joinTail
      have e0 : ∀ L : List (List UInt8), L.map (fun x => bytesOf ⟨#[]⟩ ++ x) = L := fun L => by
        have : (fun x : List UInt8 => bytesOf ⟨#[]⟩ ++ x) = id := by funext x; rfl
        rw [this, List.map_id]
      rw [e0]; rfl
  rw [e, List.mem_flatten]
  constructor
  · rintro ⟨y, hy, hx⟩
    obtain ⟨b, hb, rfl⟩ := List.mem_map.1 hy
    obtain ⟨r, hr, rfl⟩ := List.mem_iff_getElem.1 hb
    exact ⟨r, hr, by unfold stAt; simpa [List.getD, hr] using hx⟩
  · rintro ⟨r, hr, hx⟩
    refine ⟨_, List.mem_map.2 ⟨l[r], List.getElem_mem hr, rfl⟩, ?_⟩
    unfold stAt at hx
    simpa [List.getD, hr] using hx
theorem jb_pos {l : List ByteArray} {c : Int} : (∃ i, i < lenB (joinB l ⟨#[]⟩) ∧ byteI (joinB l ⟨#[]⟩) i = c) ↔ 0 < cntP l c l.length := by
  rw [byteI_mem, cntP_pos]
  constructor
  · rintro ⟨x, hx, h⟩
    obtain ⟨r, hr, h2⟩ := join_mem.1 hx
    exact ⟨r, hr, byteI_mem.2 ⟨x, h2, h⟩⟩
  · rintro ⟨r, hr, h⟩
    obtain ⟨x, hx, h2⟩ := byteI_mem.1 h
    exact ⟨x, join_mem.2 ⟨r, hr, hx⟩, h2⟩
theorem allN_all {n : Nat} {p : Nat → Bool} (h : allN n p = true) : ∀ j, j < n → p j = true := fun j hj => by
  cases hp : p j with
  | true => rfl
  | false => rw [allN_false hj hp] at h; cases h
theorem letters_all {l : List ByteArray} (h : picB l = true) {r i : Nat} (hr : r < l.length) (hi : i < lenB (stAt l r)) : ltrI (byteI (stAt l r) i) = true := by
  unfold picB at h
  simp only [Bool.and_eq_true] at h
  have h1 := allN_all h.2 r hr
  unfold rowB at h1
  simp only [Bool.and_eq_true] at h1
  exact allN_all h1.2 i hi
theorem cntF_pos {d : Nat → Int} {x : Int} : ∀ n, 0 < cntF d x n ↔ ∃ i, i < n ∧ d i = x
  | 0 => by simp [cntF]
  | n + 1 => by
    have ih := cntF_pos (d := d) (x := x) n
    unfold cntF
    by_cases h : d n = x
    · rw [if_pos h]
      exact ⟨fun _ => ⟨n, by omega, h⟩, fun _ => by omega⟩
    · rw [if_neg h, Nat.add_zero, ih]
      constructor
      · rintro ⟨i, h1, h2⟩; exact ⟨i, by omega, h2⟩
      · rintro ⟨i, h1, h2⟩
        by_cases e : i = n
        · subst e; exact absurd h2 h
        · exact ⟨i, by omega, h2⟩
/-- What is left of the sorted bytes: the letters. -/
theorem letters_eq {l : List ByteArray} (h : picB l = true) {d : Nat → Int} (hp : Pm 0 (lenB (joinB l ⟨#[]⟩)) (byteI (joinB l ⟨#[]⟩)) d) (hs : Srt 0 (lenB (joinB l ⟨#[]⟩)) d) : kV d (lenB (joinB l ⟨#[]⟩)) = ltL l := by
  refine strict_ext _ _ (kV_sorted hs _ (Nat.le_refl _)) (alpha_sorted.sublist (List.filter_sublist)) fun c => ?_
  have e : (∃ i, i < lenB (joinB l ⟨#[]⟩) ∧ d i = c) ↔ 0 < cntP l c l.length := by
    rw [← cntF_pos, hp.cnt c _ (Nat.le_refl _), cntF_pos, jb_pos]
  rw [kV_mem, e]
  unfold ltL
  rw [List.mem_filter, decide_eq_true_eq]
  constructor
  · intro hc
    refine ⟨?_, hc⟩
    obtain ⟨r, hr, i, hi, rfl⟩ := (cntP_pos _).1 hc
    exact alpha_mem.2 (letters_all h hr hi)
  · exact fun hc => hc.2
end Go.Proofs.Yteapdildbfimnaa
namespace Go.Proofs.Yteapdildbfimnaa
set_option linter.unusedSimpArgs false
set_option linter.unusedVariables false

def rightB (b : ByteArray) (c : Nat) : Bool := decide (c + 1 < lenB b) && decide (byteI b (c + 1) ≠ byteI b c)
def belowB (l : List ByteArray) (r c : Nat) : Bool := decide (r + 1 < l.length) && decide (byteI (stAt l (r + 1)) c ≠ byteI (stAt l r) c)
def isBd (l : List ByteArray) (r c : Nat) : Bool := rightB (stAt l r) c || belowB l r c
def bdJ (l : List ByteArray) (r : Nat) : Nat → List (List Int)
  | 0 => []
  | c + 1 => bdJ l r c ++ if isBd l r c then [[(r : Int), (c : Int)]] else []
def bdK (l : List ByteArray) : Nat → List (List Int)
  | 0 => []
  | r + 1 => bdK l r ++ bdJ l r (lenB (stAt l r))
theorem bdJ_len (l : List ByteArray) (r : Nat) : ∀ c, (bdJ l r c).length ≤ c
  | 0 => by simp [bdJ]
  | c + 1 => by
    have := bdJ_len l r c
    rw [bdJ, List.length_append]; split <;> simp <;> omega
theorem bdK_len {l : List ByteArray} (h : picB l = true) : ∀ k, k ≤ l.length → (bdK l k).length ≤ 16 * k
  | 0, _ => by simp [bdK]
  | k + 1, hk => by
    have h1 := bdK_len h k (by omega)
    obtain ⟨h2, h3, h4⟩ := picB_parts h
    have h5 := bdJ_len l k (lenB (stAt l k))
    have := h4 k (by omega)
    rw [bdK, List.length_append]; omega
def bdR (l : List ByteArray) : List (List Int) × Bool := if picB l then (bdK l l.length, true) else ([], false)
theorem bdR_no {l : List ByteArray} (h : picB l = false) : bdR l = ([], false) := by unfold bdR; rw [h]; rfl
theorem bdR_yes {l : List ByteArray} (h : picB l = true) : bdR l = (bdK l l.length, true) := by unfold bdR; rw [h]; rfl
theorem bdR_len (l : List ByteArray) : (bdR l).1.length ≤ 256 := by
  unfold bdR
  split
  · rename_i h
    have := bdK_len h l.length (Nat.le_refl _)
    have := (picB_parts h).1
    simp only []; omega
  · simp
/-- All rows have at most two numbers. -/
def two (m : List (List Int)) : Prop := ∀ i, (rowAt m i).length ≤ 2
theorem two_app {m m' : List (List Int)} (h : two m) (h' : two m') : two (m ++ m') := fun i => by
  rcases Nat.lt_or_ge i m.length with h1 | h1
  · have e : rowAt (m ++ m') i = rowAt m i := by simp [rowAt, List.getD, List.getElem?_append_left h1]
    rw [e]; exact h i
  · have e : rowAt (m ++ m') i = rowAt m' (i - m.length) := by simp [rowAt, List.getD, List.getElem?_append_right h1]
    rw [e]; exact h' _
theorem two_nil : two [] := fun i => by simp [rowAt]
theorem two_one (a b : Int) : two [[a, b]] := fun i => by cases i <;> simp [rowAt]
theorem bdJ_two (l : List ByteArray) (r : Nat) : ∀ c, two (bdJ l r c)
  | 0 => two_nil
  | c + 1 => by
    rw [bdJ]; refine two_app (bdJ_two l r c) ?_
    split
    · exact two_one _ _
    · exact two_nil
theorem bdK_two (l : List ByteArray) : ∀ k, two (bdK l k)
  | 0 => two_nil
  | k + 1 => by rw [bdK]; exact two_app (bdK_two l k) (bdJ_two l k _)
theorem bdR_two (l : List ByteArray) : two (bdR l).1 := by unfold bdR; split; exact bdK_two l _; exact two_nil
end Go.Proofs.Yteapdildbfimnaa
namespace Go.Proofs.Yteapdildbfimnaa
open Go.RowKit Go.Proofs
set_option linter.unusedSimpArgs false
set_option linter.unusedVariables false

theorem cntN_split (f : Nat → Bool) (a : Nat) : ∀ b, cntN f (a + b) = cntN f a + cntN (fun i => f (a + i)) b
  | 0 => rfl
  | b + 1 => by
    show cntN f (a + b) + (if f (a + b) = true then 1 else 0) = cntN f a + (cntN (fun i => f (a + i)) b + (if f (a + b) = true then 1 else 0))
    rw [cntN_split f a b]; omega
theorem cntN_full {f : Nat → Bool} : ∀ {n}, (∀ i, i < n → f i = true) → cntN f n = n
  | 0, _ => rfl
  | n + 1, h => by
    show cntN f n + (if f n = true then 1 else 0) = n + 1
    rw [cntN_full (n := n) fun i hi => h i (by omega), if_pos (h n (by omega))]
theorem cntJ_N (b : ByteArray) (c : Int) : ∀ j, cntJ b c j = cntN (fun i => decide (byteI b i = c)) j
  | 0 => rfl
  | j + 1 => by
    show cntJ b c j + (if _ then _ else _) = cntN _ j + (if _ then _ else _)
    rw [cntJ_N b c j]
    simp only [decide_eq_true_eq]
theorem cntP_N {l : List ByteArray} (h : picB l = true) (c : Int) : ∀ k, k ≤ l.length → cntP l c k = cntN (fun i => decide (gP l i = c)) (k * lenB (stAt l 0))
  | 0, _ => by rw [Nat.zero_mul]; rfl
  | k + 1, hk => by
    have hl := (picB_parts h).2.2 k (by omega)
    show cntP l c k + _ = _
    rw [cntP_N h c k (by omega), Nat.succ_mul, cntN_split, hl, cntJ_N]
    congr 1
    exact cntN_ext fun i hi => by rw [gP_at hi]

/-- The sum over a list of letters. -/
def sumC (f : Int → Nat) : List Int → Nat
  | [] => 0
  | c :: r => f c + sumC f r
theorem sumC_app (f : Int → Nat) : ∀ a b, sumC f (a ++ b) = sumC f a + sumC f b
  | [], b => by show sumC f b = 0 + sumC f b; omega
  | c :: a, b => by show f c + sumC f (a ++ b) = f c + sumC f a + _; rw [sumC_app f a b]; omega
theorem sumC_add (f g h : Int → Nat) : ∀ a : List Int, (∀ c ∈ a, h c = f c + g c) → sumC h a = sumC f a + sumC g a
  | [], _ => rfl
  | c :: a, e => by
    show h c + sumC h a = f c + sumC f a + (g c + sumC g a)
    rw [sumC_add f g h a fun d hd => e d (by simp [hd]), e c (by simp)]; omega
theorem sumC_zero {f : Int → Nat} : ∀ a : List Int, (∀ c ∈ a, f c = 0) → sumC f a = 0
  | [], _ => rfl
  | c :: a, e => by
    show f c + sumC f a = 0
    rw [sumC_zero a fun d hd => e d (by simp [hd]), e c (by simp)]
theorem sumC_len {f : Int → Nat} : ∀ a : List Int, (∀ c ∈ a, 1 ≤ f c) → a.length ≤ sumC f a
  | [], _ => Nat.zero_le _
  | c :: a, e => by
    have h1 := sumC_len a fun d hd => e d (by simp [hd])
    have h2 := e c (by simp)
    show a.length + 1 ≤ f c + sumC f a
    omega
theorem sumC_one {x : Int} : ∀ {a : List Int}, a.Pairwise (· < ·) → x ∈ a → sumC (fun c => if x = c then 1 else 0) a = 1
  | [], _, h => by simp at h
  | c :: a, hp, h => by
    obtain ⟨h1, h2⟩ := List.pairwise_cons.1 hp
    show (if x = c then 1 else 0) + _ = 1
    by_cases e : x = c
    · subst e
      rw [if_pos rfl, sumC_zero a fun d hd => if_neg (by have := h1 d hd; omega)]
    · rw [if_neg e, sumC_one h2 (by
        rcases List.mem_cons.1 h with h | h
        · exact absurd h e
        · exact h)]
/-- What is counted letter by letter is counted once. -/
theorem sumC_cnt {f : Nat → Bool} {g : Nat → Int} {a : List Int} (hp : a.Pairwise (· < ·)) : ∀ n, (∀ i, i < n → g i ∈ a) → sumC (fun c => cntN (fun i => f i && decide (g i = c)) n) a = cntN f n
  | 0, _ => sumC_zero a fun _ _ => rfl
  | n + 1, h => by
    have ih := sumC_cnt (f := f) hp n fun i hi => h i (by omega)
    show _ = cntN f n + (if f n = true then 1 else 0)
    cases hf : f n with
    | false =>
      rw [← ih, if_neg (by simp)]
      show _ = sumC _ a + 0
      congr 1
      funext c
      show cntN _ n + (if (f n && decide (g n = c)) = true then 1 else 0) = cntN _ n
      rw [hf]; simp
    | true =>
      rw [if_pos rfl]
      have h1 := sumC_one hp (h n (by omega))
      refine (sumC_add (fun c => cntN (fun i => f i && decide (g i = c)) n) (fun c => if g n = c then 1 else 0) _ a fun c hc => ?_).trans (by rw [ih, h1])
      show cntN _ n + (if (f n && decide (g n = c)) = true then 1 else 0) = _
      rw [hf]; simp

section
variable {l : List ByteArray}
theorem ltL_sorted (l : List ByteArray) : (ltL l).Pairwise (· < ·) := alpha_sorted.sublist List.filter_sublist
theorem gP_ltr (h : picB l = true) {i : Nat} (hi : i < l.length * lenB (stAt l 0)) : ltrI (gP l i) = true := by
  obtain ⟨h1, h2, h3⟩ := picB_parts h
  have hr : i / lenB (stAt l 0) < l.length := dm_row hi
  exact letters_all h hr (by rw [h3 _ hr]; exact Nat.mod_lt _ (by omega))
theorem ltL_cnt {c : Int} (hc : c ∈ ltL l) : 1 ≤ cntP l c l.length := by
  unfold ltL at hc
  exact of_decide_eq_true (List.mem_filter.1 hc).2
theorem ltL_ltr {c : Int} (hc : c ∈ ltL l) : ltrI c = true := by
  unfold ltL at hc
  exact alpha_mem.1 (List.mem_filter.1 hc).1
theorem gP_mem (h : picB l = true) {i : Nat} (hi : i < l.length * lenB (stAt l 0)) : gP l i ∈ ltL l := by
  unfold ltL
  refine List.mem_filter.2 ⟨alpha_mem.2 (gP_ltr h hi), decide_eq_true ?_⟩
  rw [cntP_N h _ _ (Nat.le_refl _)]
  exact cntN_pos hi (decide_eq_true rfl)
theorem ltL_at (h : picB l = true) {c : Int} (hc : c ∈ ltL l) : ∃ i, i < l.length * lenB (stAt l 0) ∧ gP l i = c := by
  have := ltL_cnt hc
  rw [cntP_N h _ _ (Nat.le_refl _)] at this
  refine Classical.byContradiction fun hn => ?_
  have e : cntN (fun i => decide (gP l i = c)) (l.length * lenB (stAt l 0)) = 0 := cntN_zero fun i hi => decide_eq_false fun e => hn ⟨i, hi, e⟩
  omega
theorem ltL_sum (h : picB l = true) : sumC (fun c => cntP l c l.length) (ltL l) = l.length * lenB (stAt l 0) := by
  have e := sumC_cnt (f := fun _ => true) (g := gP l) (ltL_sorted l) (l.length * lenB (stAt l 0)) fun i hi => gP_mem h hi
  rw [cntN_full fun _ _ => rfl] at e
  rw [← e]
  congr 1
  funext c
  rw [cntP_N h _ _ (Nat.le_refl _)]
  exact cntN_ext fun i _ => by simp
theorem ltL_len : (ltL l).length ≤ 13 := List.length_filter_le _ alpha
theorem ltL_pos (h : picB l = true) : 1 ≤ (ltL l).length := by
  obtain ⟨h1, h2, h3⟩ := picB_parts h
  exact List.length_pos_of_mem (gP_mem h (i := 0) (Nat.mul_pos (by omega) (by omega)))
theorem cpN_ge (h : picB l = true) : (ltL l).length ≤ cpN l := by
  unfold cpN
  have hL := labL_is l
  rw [← sumC_cnt (g := gP l) (ltL_sorted l) (l.length * lenB (stAt l 0)) fun i hi => gP_mem h hi]
  refine sumC_len _ fun c hc => ?_
  obtain ⟨i, hi, e⟩ := ltL_at h hc
  refine cntN_pos (i := labL l i) (by have := hL.le i; omega) ?_
  have e2 := cn_g (hL.cn i)
  rw [hL.idem, ← e2, e]; simp
theorem bestJ_max (f : Nat → Nat) : ∀ k j, j < k → f j ≤ f (bestJ f k)
  | 0, j, h => by omega
  | k + 1, j, h => by
    have ih := bestJ_max f k
    show f j ≤ f (if f (bestJ f k) < f k then k else bestJ f k)
    split
    · rename_i h1
      by_cases e : j = k
      · rw [e]; exact Nat.le_refl _
      · have := ih j (by omega); omega
    · rename_i h1
      by_cases e : j = k
      · rw [e]; omega
      · exact ih j (by omega)
/-- The greatest part's size. -/
noncomputable def gtN (l : List ByteArray) : Nat := sizeN l.length (lenB (stAt l 0)) (labL l) (gtJ l)
theorem gtJ_lt (h : picB l = true) : gtJ l < l.length * lenB (stAt l 0) := by
  obtain ⟨h1, h2, h3⟩ := picB_parts h
  exact bestJ_lt _ _ (Nat.mul_pos (by omega) (by omega))
theorem gtN_pos (h : picB l = true) : 1 ≤ gtN l := by
  obtain ⟨h1, h2, h3⟩ := picB_parts h
  have h0 : 0 < l.length * lenB (stAt l 0) := Nat.mul_pos (by omega) (by omega)
  have := bestJ_max (sizeN l.length (lenB (stAt l 0)) (labL l)) _ 0 h0
  have h5 : labL l 0 = 0 := by have := (labL_is l).le 0; omega
  have h4 := sizeN_pos (L := labL l) h0 h5
  unfold gtN gtJ
  omega
theorem gtN_le (h : picB l = true) : gtN l ≤ cntP l (gP l (gtJ l)) l.length := by
  rw [cntP_N h _ _ (Nat.le_refl _)]
  refine cntN_mono fun q hq e => ?_
  have e := of_decide_eq_true e
  have := cn_g ((labL_is l).cn q)
  rw [e] at this
  exact decide_eq_true this
theorem gtN_le_all (l : List ByteArray) : gtN l ≤ l.length * lenB (stAt l 0) := cntN_le _ _

/-- No borders: one letter. -/
theorem bdJ_none {r : Nat} : ∀ c, (bdJ l r c).length = 0 ↔ ∀ j, j < c → isBd l r j = false
  | 0 => ⟨fun _ j hj => by omega, fun _ => rfl⟩
  | c + 1 => by
    have ih := bdJ_none (r := r) c
    show (bdJ l r c ++ if isBd l r c then [[(r : Int), (c : Int)]] else []).length = 0 ↔ _
    rw [List.length_append]
    constructor
    · intro h j hj
      by_cases e : j = c
      · subst e
        cases hb : isBd l r j with
        | false => rfl
        | true => rw [hb] at h; simp at h
      · exact ih.1 (by omega) j (by omega)
    · intro h
      rw [ih.2 fun j hj => h j (by omega), h c (by omega)]; rfl
theorem bdK_none : ∀ k, (bdK l k).length = 0 ↔ ∀ r, r < k → ∀ j, j < lenB (stAt l r) → isBd l r j = false
  | 0 => ⟨fun _ r hr => by omega, fun _ => rfl⟩
  | k + 1 => by
    have ih := bdK_none k
    show (bdK l k ++ bdJ l k (lenB (stAt l k))).length = 0 ↔ _
    rw [List.length_append]
    constructor
    · intro h r hr
      by_cases e : r = k
      · subst e; exact (bdJ_none _).1 (by omega)
      · exact ih.1 (by omega) r (by omega)
    · intro h
      rw [ih.2 fun r hr => h r (by omega), (bdJ_none _).2 (h k (by omega))]
theorem same_of_none (h : picB l = true) (hn : (bdK l l.length).length = 0) : ∀ r, r < l.length → ∀ j, j < lenB (stAt l 0) → byteI (stAt l r) j = byteI (stAt l 0) 0 := by
  obtain ⟨h1, h2, h3⟩ := picB_parts h
  have hb := (bdK_none _).1 hn
  have hrow : ∀ r, r < l.length → ∀ j, j < lenB (stAt l 0) → byteI (stAt l r) j = byteI (stAt l r) 0 := fun r hr j => by
    induction j with
    | zero => intro _; rfl
    | succ j ih =>
      intro hj
      have h4 := hb r hr j (by rw [h3 r hr]; omega)
      unfold isBd rightB at h4
      rw [Bool.or_eq_false_iff, Bool.and_eq_false_iff] at h4
      rcases h4.1 with h5 | h5
      · have := of_decide_eq_false h5; rw [h3 r hr] at this; omega
      · have := of_decide_eq_false h5
        rw [← ih (by omega)]
        exact Classical.byContradiction this
  have hcol : ∀ r, r < l.length → byteI (stAt l r) 0 = byteI (stAt l 0) 0 := fun r => by
    induction r with
    | zero => intro _; rfl
    | succ r ih =>
      intro hr
      have h4 := hb r (by omega) 0 (by rw [h3 r (by omega)]; omega)
      unfold isBd belowB at h4
      rw [Bool.or_eq_false_iff, Bool.and_eq_false_iff] at h4
      rcases h4.2 with h5 | h5
      · have := of_decide_eq_false h5; omega
      · have := of_decide_eq_false h5
        rw [← ih (by omega)]
        exact Classical.byContradiction this
  intro r hr j hj
  rw [hrow r hr j hj, hcol r hr]
theorem len_one {a : List Int} {x : Int} (hp : a.Pairwise (· < ·)) (h : 1 ≤ a.length) (hx : ∀ c ∈ a, c = x) : a.length = 1 := by
  match a, h with
  | [c], _ => rfl
  | c :: d :: r, _ =>
    have h1 := hx c (by simp)
    have h2 := hx d (by simp)
    have h3 := (List.pairwise_cons.1 hp).1 d (by simp)
    omega
theorem one_len {a : List Int} (h : a.length = 1) {c d : Int} (hc : c ∈ a) (hd : d ∈ a) : c = d := by
  match a, h with
  | [x], _ =>
    rw [List.mem_singleton] at hc hd
    rw [hc, hd]
theorem gP_const (h : picB l = true) (hn : (bdK l l.length).length = 0) {i : Nat} (hi : i < l.length * lenB (stAt l 0)) : gP l i = byteI (stAt l 0) 0 :=
  same_of_none h hn _ (dm_row hi) _ (Nat.mod_lt _ (dm_pos hi))
theorem bd_ltL (h : picB l = true) : (bdK l l.length).length = 0 ↔ (ltL l).length = 1 := by
  obtain ⟨h1, h2, h3⟩ := picB_parts h
  constructor
  · intro hn
    refine len_one (x := byteI (stAt l 0) 0) (ltL_sorted l) (ltL_pos h) fun c hc => ?_
    obtain ⟨i, hi, rfl⟩ := ltL_at h hc
    exact gP_const h hn hi
  · intro h1l
    have hall : ∀ r, r < l.length → ∀ j, j < lenB (stAt l 0) → ∀ r', r' < l.length → ∀ j', j' < lenB (stAt l 0) → byteI (stAt l r) j = byteI (stAt l r') j' := fun r hr j hj r' hr' j' hj' => by
      have e1 := gP_mem h (dm_lt hr hj)
      have e2 := gP_mem h (dm_lt hr' hj')
      rw [gP_at hj] at e1
      rw [gP_at hj'] at e2
      exact one_len h1l e1 e2
    refine (bdK_none _).2 fun r hr j hj => ?_
    rw [h3 r hr] at hj
    unfold isBd rightB belowB
    rw [Bool.or_eq_false_iff, Bool.and_eq_false_iff, Bool.and_eq_false_iff]
    constructor
    · by_cases e : j + 1 < lenB (stAt l r)
      · refine .inr (decide_eq_false fun hne => hne ?_)
        rw [h3 r hr] at e
        exact hall _ hr _ e _ hr _ hj
      · exact .inl (decide_eq_false e)
    · by_cases e : r + 1 < l.length
      · exact .inr (decide_eq_false fun hne => hne (hall _ e _ hj _ hr _ hj))
      · exact .inl (decide_eq_false e)
/-- One letter: one part. -/
theorem lab_zero (h : picB l = true) (h1l : (ltL l).length = 1) : ∀ i, i < l.length * lenB (stAt l 0) → labL l i = 0 := by
  obtain ⟨h1, h2, h3⟩ := picB_parts h
  have hn := (bd_ltL h).2 h1l
  have hL := labL_is l
  have hc : ∀ r, r < l.length → ∀ j, j < lenB (stAt l 0) → Cn (Ad l.length (lenB (stAt l 0)) (gP l)) (r * lenB (stAt l 0) + j) 0 := fun r => by
    induction r with
    | zero =>
      intro hr j
      induction j with
      | zero => intro _; rw [Nat.zero_mul]; exact .refl
      | succ j ih =>
        intro hj
        exact (Cn.bwd .refl (nb_right hr hj (by rw [gP_const h hn (dm_lt hr (by omega)), gP_const h hn (dm_lt hr hj)]))).trans (ih (by omega))
    | succ r ih =>
      intro hr j hj
      exact (Cn.bwd .refl (nb_down hr hj (by rw [gP_const h hn (dm_lt (by omega) hj), gP_const h hn (dm_lt hr hj)]))).trans (ih (by omega) j hj)
  intro i hi
  have := hc _ (dm_row hi) _ (Nat.mod_lt i (dm_pos hi))
  rw [dm_is] at this
  have := hL.least _ _ this
  omega
theorem cpN_one (h : picB l = true) (h1l : (ltL l).length = 1) : cpN l = 1 := by
  have hz := lab_zero h h1l
  obtain ⟨h1, h2, h3⟩ := picB_parts h
  have h0 : 0 < l.length * lenB (stAt l 0) := Nat.mul_pos (by omega) (by omega)
  unfold cpN
  rw [cntN_ins (f := fun _ => false) (g := fun i => decide (labL l i = i)) (i := 0) h0 rfl (decide_eq_true (hz 0 h0)) fun q hq hne => decide_eq_false (by rw [hz q hq]; omega), cntN_zero fun _ _ => rfl]
theorem gtN_all (h : picB l = true) (h1l : (ltL l).length = 1) : gtN l = l.length * lenB (stAt l 0) := by
  have hz := lab_zero h h1l
  obtain ⟨h1, h2, h3⟩ := picB_parts h
  have h0 : 0 < l.length * lenB (stAt l 0) := Nat.mul_pos (by omega) (by omega)
  have e : sizeN l.length (lenB (stAt l 0)) (labL l) 0 = l.length * lenB (stAt l 0) := cntN_full fun i hi => decide_eq_true (hz i hi)
  have := bestJ_max (sizeN l.length (lenB (stAt l 0)) (labL l)) _ 0 h0
  have h4 := gtN_le_all l
  unfold gtN gtJ at h4 ⊢
  omega
end
end Go.Proofs.Yteapdildbfimnaa
namespace Go.Proofs.Yteapdildbfimnaa
open Go.RowKit Go.Proofs
set_option linter.unusedSimpArgs false
set_option linter.unusedVariables false

/-- Columns x to x + w of a string. -/
def cutS (b : ByteArray) (x w : Nat) : ByteArray := ⟨(((bytesOf b).drop x).take w).toArray⟩
def cutL (l : List ByteArray) (x y w h : Nat) : List ByteArray := (List.range h).map fun i => cutS (stAt l (y + i)) x w
@[simp] theorem cutL_len (l : List ByteArray) (x y w h : Nat) : (cutL l x y w h).length = h := by simp [cutL]
theorem cutL_get {l : List ByteArray} {x y w h i : Nat} (hi : i < h) : stAt (cutL l x y w h) i = cutS (stAt l (y + i)) x w := by simp [stAt, cutL, List.getD, hi]
def cutB (l : List ByteArray) (x y w h : Int) : Bool := picB l && (decide (0 ≤ x) && decide (0 ≤ y) && decide (1 ≤ w) && decide (1 ≤ h) && decide (x + w ≤ lenB (stAt l 0)) && decide (y + h ≤ l.length))
theorem cutB_iff {l : List ByteArray} {x y w h : Int} : cutB l x y w h = true ↔ picB l = true ∧ 0 ≤ x ∧ 0 ≤ y ∧ 1 ≤ w ∧ 1 ≤ h ∧ x + w ≤ lenB (stAt l 0) ∧ y + h ≤ l.length := by
  simp [cutB, and_assoc]
theorem cutB_no {l : List ByteArray} {x y w h : Int} (hn : ¬ (picB l = true ∧ 0 ≤ x ∧ 0 ≤ y ∧ 1 ≤ w ∧ 1 ≤ h ∧ x + w ≤ lenB (stAt l 0) ∧ y + h ≤ l.length)) : cutB l x y w h = false := by
  cases e : cutB l x y w h with
  | false => rfl
  | true => exact absurd (cutB_iff.1 e) hn
theorem cutB_noA {l : List ByteArray} {x y w h : Int} (hn : ¬ (0 ≤ x ∧ 0 ≤ y ∧ 1 ≤ w ∧ 1 ≤ h ∧ x + w ≤ lenB (stAt l 0) ∧ y + h ≤ l.length)) : cutB l x y w h = false := cutB_no fun hh => hn hh.2
theorem cutB_noP {l : List ByteArray} {x y w h : Int} (hn : ¬ picB l = true) : cutB l x y w h = false := cutB_no fun hh => hn hh.1
def cutR (l : List ByteArray) (x y w h : Int) : List ByteArray × Bool := if cutB l x y w h then (cutL l x.toNat y.toNat w.toNat h.toNat, true) else ([], false)
theorem cutR_no {l : List ByteArray} {x y w h : Int} (hn : cutB l x y w h = false) : cutR l x y w h = ([], false) := by unfold cutR; rw [hn]; rfl
theorem cutR_yes {l : List ByteArray} {x y w h : Int} (hn : cutB l x y w h = true) : cutR l x y w h = (cutL l x.toNat y.toNat w.toNat h.toNat, true) := by unfold cutR; rw [hn]; rfl

theorem grow_strs {e : TypeId} {k : Nat} {L : List ByteArray} {v z : V} (h : v = vs (stAt L k)) : BE ⟨e, k + 1, fun i => if i < k then vs (stAt L i) else if i - k = 0 then v else z⟩ ⟨e, k + 1, fun i => vs (stAt L i)⟩ := grow_be (VE.of_eq h)

set_option maxHeartbeats 2000000 in
theorem implCutPicture_fn (l : List ByteArray) (x y w h : Int) (hl : l.length ≤ 1099511627776) : Fn Try.prog 40 [strs l, vi x, vi y, vi w, vi h]
    (.many [.fr 1 (cutR l x y w h).1.length (bstrs (cutR l x y w h).1), .pv (vb (cutR l x y w h).2)]) := by
  refine Fn.of_body Try.call40 Try.func40 rfl Try.ntmps40 (ts := [10, 11]) rfl (by simp) rfl (fun N => ?_)
  by_cases hp : picB l = true
  · have hpp := picB_parts hp
    repeat' (first | (with_reducible first | refine then_normal ?_ | refine then_ret ?_ | refine then_exit ?_ | refine block_normal ?_ | refine block_ret ?_) | ((with_reducible show blockQ _ _ _ _); first | refine block_exit ?_ | refine block_exit_ne rfl ?_) | ((with_reducible show AWP _ _ _ _ _); first | (with_reducible first | refine AWP.seq ?_ | refine AWP.block ?_ | refine AWP.region ?_ | refine AWP.ret ?_ | refine AWP.exit ?_ | refine AWP.skip ?_) | refine AWP.drawn rfl (by kernel_rfl) ?_ | refine AWP.cond rfl ?_ ?_) | with_reducible refine ev_nil ?_ | ((first | ((with_reducible show evOps _ _ _ _ _ _); (first | refine ev_step rfl ?_ | refine ev_undef rfl rfl rfl ?_); intro K hK) | ((with_reducible show EvOpen _ _ _ _ _ _ _); refine ev_open ?_; intro K hK) | ((with_reducible show SkOpen _ _ _ _ _ _ _); refine sk_open ?_; intro K hK) | ((with_reducible show callK _ _ _ _ _ _ _ _); first  | (refine call_scalar (isPicture_fn l hl) (Nat.le_of_ble_eq_true rfl) rfl ?_) | (refine call_scalar (within_fn _ _ _) (Nat.le_of_ble_eq_true rfl) rfl ?_))); simp only [evOp, evQ, evB, binK, withS, opd, kput, putS, upd, lookup, skipOp, argsK, bringIn, bring, Res.list, Res.slot, slotsOf, InK_i64, newBlk, partsK, buildSliceK, cutK, boundK, sz_strs, c_string, ei_strs, ea_strs, u_string, Nat.zero_le, lenB_is, List.reverse_cons, List.reverse_nil, List.nil_append, List.cons_append, List.length_cons, List.length_nil, Nat.reduceEqDiff, Nat.reduceAdd, Nat.reduceLT, Nat.reduceLeDiff, Nat.mul_one, Nat.zero_add, Nat.mod_one, List.getD_cons_zero, ↓reduceIte, eq_self, true_and, and_true, Bool.not_false, Bool.true_eq_false, Bool.false_eq_true, false_implies, forall_const, Int.toNat_zero, Option.isSome_some]) | refine ev_guard rfl rfl rfl ?_ ?_ | ((with_reducible show retQ _ _ _ _); simp only [retQ, retOk, getL, lookup, Option.map_some, fitsL, fits, ND, srcs, Res.list, VE, Value.bool.injEq, Nat.reduceEqDiff, ↓reduceIte, and_true]) | (with_reducible refine hK _ ?_; clear hK K) | (with_reducible refine And.intro ?_ ?_) | (with_reducible intro hc; try simp only [Bool.not_eq_true', Bool.not_eq_false', Bool.not_false, reduceCtorEq, inB_true, inB_false, Bool.true_eq_false] at hc) | omega)
    any_goals first
      | (simp [cutR_no (cutB_noA (l := l) (x := x) (y := y) (w := w) (h := h) (by omega)), bstrs]; done)
      | (exfalso; simp_all; done)
    have hok : cutB l x y w h = true := cutB_iff.2 ⟨hp, by omega, by omega, by omega, by omega, by omega, by omega⟩
    have hyh : (y + h).toNat - y.toNat = h.toNat := by omega
    have hxw : (x + w).toNat - x.toNat = w.toNat := by omega
    rw [cutR_yes hok]
    refine AWP.loop_entR [0] (fun k : Nat => ⟨[(1, sc (.int .i64 x)), (3, sc (.int .i64 w)), (12, .one (.own 0 1 0 k)), (62, .one (.pv (.seq 1 h.toNat fun i => vs (stAt l (y.toNat + i))))), (63, sc (.int .i64 (h.toNat : Int))), (64, sc (.int .i64 k))], [some ⟨9, k, fun i => vs (stAt (cutL l x.toNat y.toNat w.toNat h.toNat) i)⟩], 79⟩)
      (fun k => k ≤ h.toNat) (fun k => h.toNat - k) 0 (by omega) (by simp [EntR, EntSR, EntHR, SlR, VE, VE.rfl', lookup, BE, upd, sc, hyh]) ?_
    intro k hk
    by_cases hkl : k < h.toNat
    · have hlk := hpp.2.2 (y.toNat + k) (by omega)
      have hlk' : (bytesOf (stAt l (y.toNat + k))).length = lenB (stAt l 0) := hlk
      repeat' (first | (with_reducible first | refine then_normal ?_ | refine then_ret ?_ | refine then_exit ?_ | refine block_normal ?_ | refine block_ret ?_) | ((with_reducible show blockQ _ _ _ _); first | refine block_exit ?_ | refine block_exit_ne rfl ?_) | ((with_reducible show AWP _ _ _ _ _); first | (with_reducible first | refine AWP.seq ?_ | refine AWP.block ?_ | refine AWP.region ?_ | refine AWP.ret ?_ | refine AWP.exit ?_ | refine AWP.skip ?_) | refine AWP.drawn rfl (by kernel_rfl) ?_ | refine AWP.cond rfl ?_ ?_) | with_reducible refine ev_nil ?_ | ((first | ((with_reducible show evOps _ _ _ _ _ _); (first | refine ev_step rfl ?_ | refine ev_undef rfl rfl rfl ?_); intro K hK) | ((with_reducible show EvOpen _ _ _ _ _ _ _); refine ev_open ?_; intro K hK) | ((with_reducible show SkOpen _ _ _ _ _ _ _); refine sk_open ?_; intro K hK) | ((with_reducible show callK _ _ _ _ _ _ _ _); first | fail)); simp only [evOp, evQ, binK, withS, opd, kput, putS, upd, lookup, InK_i64, appendK, srcK, growK, frz, newBlk, partsK, buildSliceK, plSlice, cutK, boundK, V.one, Value.oneCell', List.set_cons_zero, sz_strs, c_string, ei_strs, ea_strs, u_string, lenB_is, List.getElem?_cons_zero, List.getElem?_cons_succ, List.nil_append, List.cons_append, List.length_cons, List.length_nil, Nat.reduceEqDiff, Nat.reduceAdd, Nat.reduceLT, Nat.reduceLeDiff, Nat.mul_one, Nat.add_zero, Nat.zero_add, Nat.mod_one, List.getD_cons_zero, ↓reduceIte, eq_self, true_and, Bool.false_eq_true, forall_const, implies_true, Int.toNat_natCast]) | refine ev_guard rfl rfl rfl ?_ ?_ | ((with_reducible show retQ _ _ _ _); simp only [retQ, retOk, getL, lookup, Option.map_some, fitsL, fits, ND, srcs, Res.list, VE, List.getElem?_cons_zero, Nat.reduceEqDiff, ↓reduceIte, and_true, true_and]) | (with_reducible refine hK _ ?_; clear hK K) | (with_reducible refine And.intro ?_ ?_) | (with_reducible intro hc; try simp only [decide_eq_true_eq, decide_eq_false_iff_not, Int.not_lt] at hc) | omega)
      all_goals first
        | (rename_i i; obtain rfl : i = 0 := (by omega); rfl)
        | (refine ⟨k + 1, by omega, by omega, [2], rfl, by decide, by simp [EntSR, SlR, VE, VE.rfl', lookup, sc], grow_strs ?_, trivial⟩
           rw [cutL_get hkl]
           show vs _ = vs (cutS (stAt l (y.toNat + k)) x.toNat w.toNat)
           unfold cutS
           rw [hxw])
        | (rw [hlk']; omega)
        | trace_state
    · obtain rfl : k = h.toNat := by omega
      repeat' (first | (with_reducible first | refine then_normal ?_ | refine then_ret ?_ | refine then_exit ?_ | refine block_normal ?_ | refine block_ret ?_) | ((with_reducible show blockQ _ _ _ _); first | refine block_exit ?_ | refine block_exit_ne rfl ?_) | ((with_reducible show AWP _ _ _ _ _); first | (with_reducible first | refine AWP.seq ?_ | refine AWP.block ?_ | refine AWP.region ?_ | refine AWP.ret ?_ | refine AWP.exit ?_ | refine AWP.skip ?_) | refine AWP.drawn rfl (by kernel_rfl) ?_ | refine AWP.cond rfl ?_ ?_) | with_reducible refine ev_nil ?_ | ((first | ((with_reducible show evOps _ _ _ _ _ _); (first | refine ev_step rfl ?_ | refine ev_undef rfl rfl rfl ?_); intro K hK) | ((with_reducible show EvOpen _ _ _ _ _ _ _); refine ev_open ?_; intro K hK) | ((with_reducible show SkOpen _ _ _ _ _ _ _); refine sk_open ?_; intro K hK) | ((with_reducible show callK _ _ _ _ _ _ _ _); first | fail)); simp only [evOp, evQ, binK, withS, opd, kput, putS, upd, lookup, InK_i64, appendK, srcK, growK, frz, newBlk, partsK, buildSliceK, plSlice, cutK, boundK, V.one, Value.oneCell', List.set_cons_zero, sz_strs, c_string, ei_strs, ea_strs, u_string, lenB_is, List.getElem?_cons_zero, List.getElem?_cons_succ, List.nil_append, List.cons_append, List.length_cons, List.length_nil, Nat.reduceEqDiff, Nat.reduceAdd, Nat.reduceLT, Nat.reduceLeDiff, Nat.mul_one, Nat.add_zero, Nat.zero_add, Nat.mod_one, List.getD_cons_zero, ↓reduceIte, eq_self, true_and, Bool.false_eq_true, forall_const, implies_true, Int.toNat_natCast]) | refine ev_guard rfl rfl rfl ?_ ?_ | ((with_reducible show retQ _ _ _ _); simp only [retQ, retOk, getL, lookup, Option.map_some, fitsL, fits, ND, srcs, Res.list, VE, List.getElem?_cons_zero, Nat.reduceEqDiff, ↓reduceIte, and_true, true_and]) | (with_reducible refine hK _ ?_; clear hK K) | (with_reducible refine And.intro ?_ ?_) | (with_reducible intro hc; try simp only [decide_eq_true_eq, decide_eq_false_iff_not, Int.not_lt] at hc) | omega)
      all_goals first
        | (exfalso; omega)
        | (simp; done)
        | (refine ⟨_, rfl, rfl, by simp [bstrs], fun i hi => VE.of_eq rfl⟩)
        | trace_state
  · repeat' (first | (with_reducible first | refine then_normal ?_ | refine then_ret ?_ | refine then_exit ?_ | refine block_normal ?_ | refine block_ret ?_) | ((with_reducible show blockQ _ _ _ _); first | refine block_exit ?_ | refine block_exit_ne rfl ?_) | ((with_reducible show AWP _ _ _ _ _); first | (with_reducible first | refine AWP.seq ?_ | refine AWP.block ?_ | refine AWP.region ?_ | refine AWP.ret ?_ | refine AWP.exit ?_ | refine AWP.skip ?_) | refine AWP.drawn rfl (by kernel_rfl) ?_ | refine AWP.cond rfl ?_ ?_) | with_reducible refine ev_nil ?_ | ((first | ((with_reducible show evOps _ _ _ _ _ _); (first | refine ev_step rfl ?_ | refine ev_undef rfl rfl rfl ?_); intro K hK) | ((with_reducible show EvOpen _ _ _ _ _ _ _); refine ev_open ?_; intro K hK) | ((with_reducible show SkOpen _ _ _ _ _ _ _); refine sk_open ?_; intro K hK) | ((with_reducible show callK _ _ _ _ _ _ _ _); first  | (refine call_scalar (isPicture_fn l hl) (Nat.le_of_ble_eq_true rfl) rfl ?_) | (refine call_scalar (within_fn _ _ _) (Nat.le_of_ble_eq_true rfl) rfl ?_))); simp only [evOp, evQ, evB, binK, withS, opd, kput, putS, upd, lookup, skipOp, argsK, bringIn, bring, Res.list, Res.slot, slotsOf, InK_i64, newBlk, partsK, buildSliceK, cutK, boundK, sz_strs, c_string, ei_strs, ea_strs, u_string, Nat.zero_le, lenB_is, List.reverse_cons, List.reverse_nil, List.nil_append, List.cons_append, List.length_cons, List.length_nil, Nat.reduceEqDiff, Nat.reduceAdd, Nat.reduceLT, Nat.reduceLeDiff, Nat.mul_one, Nat.zero_add, Nat.mod_one, List.getD_cons_zero, ↓reduceIte, eq_self, true_and, and_true, Bool.not_false, Bool.true_eq_false, Bool.false_eq_true, false_implies, forall_const, Int.toNat_zero, Option.isSome_some]) | refine ev_guard rfl rfl rfl ?_ ?_ | ((with_reducible show retQ _ _ _ _); simp only [retQ, retOk, getL, lookup, Option.map_some, fitsL, fits, ND, srcs, Res.list, VE, Value.bool.injEq, Nat.reduceEqDiff, ↓reduceIte, and_true]) | (with_reducible refine hK _ ?_; clear hK K) | (with_reducible refine And.intro ?_ ?_) | (with_reducible intro hc; try simp only [Bool.not_eq_true', Bool.not_eq_false', Bool.not_false, reduceCtorEq, inB_true, inB_false, Bool.true_eq_false] at hc) | omega)
    all_goals first
      | (exfalso; simp_all; done)
      | (simp [cutR_no (cutB_noP (l := l) (x := x) (y := y) (w := w) (h := h) hp), bstrs]; done)
      | trace_state

set_option maxHeartbeats 2000000 in
theorem specCutPicture_fn (l : List ByteArray) (x y w h : Int) (hl : l.length ≤ 1099511627776) (hs : ∀ i, lenB (stAt l i) ≤ 1099511627776) : Fn Try.prog 41 [strs l, vi x, vi y, vi w, vi h]
    (.many [.fr 1 (cutR l x y w h).1.length (bstrs (cutR l x y w h).1), .pv (vb (cutR l x y w h).2)]) := by
  refine Fn.of_body Try.call41 Try.func41 rfl Try.ntmps41 (ts := [10, 11]) rfl (by simp) rfl (fun N => ?_)
  by_cases hp : picB l = true
  · have hpp := picB_parts hp
    have hdr := drSize_fn w h
    by_cases hsz : (1 ≤ w ∧ w ≤ 16) ∧ (1 ≤ h ∧ h ≤ 16)
    case neg =>
      have e : (inB w 1 16 && inB h 1 16) = false := by
        cases e1 : inB w 1 16 with
        | false => rfl
        | true =>
          cases e2 : inB h 1 16 with
          | false => rfl
          | true => exact absurd ⟨inB_true.1 e1, inB_true.1 e2⟩ hsz
      rw [e] at hdr
      repeat' (first | (with_reducible first | refine then_normal ?_ | refine then_ret ?_ | refine then_exit ?_ | refine block_normal ?_ | refine block_ret ?_) | ((with_reducible show blockQ _ _ _ _); first | refine block_exit ?_ | refine block_exit_ne rfl ?_) | ((with_reducible show AWP _ _ _ _ _); first | (with_reducible first | refine AWP.seq ?_ | refine AWP.block ?_ | refine AWP.region ?_ | refine AWP.ret ?_ | refine AWP.exit ?_ | refine AWP.skip ?_) | refine AWP.drawn rfl (by kernel_rfl) ?_ | refine AWP.cond rfl ?_ ?_) | with_reducible refine ev_nil ?_ | ((first | ((with_reducible show evOps _ _ _ _ _ _); (first | refine ev_step rfl ?_ | refine ev_undef rfl rfl rfl ?_); intro K hK) | ((with_reducible show EvOpen _ _ _ _ _ _ _); refine ev_open ?_; intro K hK) | ((with_reducible show SkOpen _ _ _ _ _ _ _); refine sk_open ?_; intro K hK) | ((with_reducible show callK _ _ _ _ _ _ _ _); first  | (refine call_scalar (drGood_fn l hl hs) (Nat.le_of_ble_eq_true rfl) rfl ?_) | (refine call_scalar (hdr) (Nat.le_of_ble_eq_true rfl) rfl ?_) | (refine call_scalar (l1In_fn _ _ _) (Nat.le_of_ble_eq_true rfl) rfl ?_))); simp only [evOp, evQ, withS, opd, kput, putS, upd, lookup, skipOp, argsK, bringIn, bring, Res.list, Res.slot, slotsOf, List.reverse_cons, List.reverse_nil, List.nil_append, List.cons_append, Nat.reduceEqDiff, Nat.reduceAdd, Nat.reduceLT, Nat.zero_add, ↓reduceIte, eq_self, true_and, and_true, Bool.not_false, Bool.true_eq_false, Bool.false_eq_true, false_implies, forall_const]) | refine ev_guard rfl rfl rfl ?_ ?_ | ((with_reducible show retQ _ _ _ _); simp only [retQ, retOk, getL, lookup, Option.map_some, fitsL, fits, ND, srcs, Res.list, VE, Value.bool.injEq, Nat.reduceEqDiff, ↓reduceIte, and_true]) | (with_reducible refine hK _ ?_; clear hK K) | (with_reducible refine And.intro ?_ ?_) | (with_reducible intro hc; try simp only [Bool.not_eq_true', Bool.not_eq_false', Bool.not_false, reduceCtorEq, Bool.true_eq_false] at hc) | omega)
      any_goals first
        | (simp [cutR_no (cutB_noA (l := l) (x := x) (y := y) (w := w) (h := h) (by omega)), bstrs]; done)
        | (exfalso; simp_all; done)
    have e : (inB w 1 16 && inB h 1 16) = true := by rw [inB_true.2 hsz.1, inB_true.2 hsz.2]; rfl
    rw [e] at hdr
    have ew := hsz.1
    have eh := hsz.2
    repeat' (first | (with_reducible first | refine then_normal ?_ | refine then_ret ?_ | refine then_exit ?_ | refine block_normal ?_ | refine block_ret ?_) | ((with_reducible show blockQ _ _ _ _); first | refine block_exit ?_ | refine block_exit_ne rfl ?_) | ((with_reducible show AWP _ _ _ _ _); first | (with_reducible first | refine AWP.seq ?_ | refine AWP.block ?_ | refine AWP.region ?_ | refine AWP.ret ?_ | refine AWP.exit ?_ | refine AWP.skip ?_) | refine AWP.drawn rfl (by kernel_rfl) ?_ | refine AWP.cond rfl ?_ ?_) | with_reducible refine ev_nil ?_ | ((first | ((with_reducible show evOps _ _ _ _ _ _); (first | refine ev_step rfl ?_ | refine ev_undef rfl rfl rfl ?_); intro K hK) | ((with_reducible show EvOpen _ _ _ _ _ _ _); refine ev_open ?_; intro K hK) | ((with_reducible show SkOpen _ _ _ _ _ _ _); refine sk_open ?_; intro K hK) | ((with_reducible show callK _ _ _ _ _ _ _ _); first  | (refine call_scalar (drGood_fn l hl hs) (Nat.le_of_ble_eq_true rfl) rfl ?_) | (refine call_scalar (hdr) (Nat.le_of_ble_eq_true rfl) rfl ?_) | (refine call_scalar (l1In_fn _ _ _) (Nat.le_of_ble_eq_true rfl) rfl ?_))); simp only [evOp, evQ, evB, binK, withS, opd, kput, putS, upd, lookup, skipOp, argsK, bringIn, bring, Res.list, Res.slot, slotsOf, InK_i64, cutK, boundK, sz_strs, c_string, u_string, lenB_is, List.reverse_cons, List.reverse_nil, List.nil_append, List.cons_append, Nat.reduceEqDiff, Nat.reduceAdd, Nat.reduceLT, Nat.mul_one, Nat.zero_add, ↓reduceIte, eq_self, true_and, and_true, Bool.not_true, Bool.not_false, Bool.true_eq_false, Bool.false_eq_true, false_implies, forall_const, Int.toNat_zero, Option.isSome_some]) | refine ev_guard rfl rfl rfl ?_ ?_ | ((with_reducible show retQ _ _ _ _); simp only [retQ, retOk, getL, lookup, Option.map_some, fitsL, fits, ND, srcs, Res.list, VE, Value.bool.injEq, Nat.reduceEqDiff, ↓reduceIte, and_true]) | (with_reducible refine hK _ ?_; clear hK K) | (with_reducible refine And.intro ?_ ?_) | (with_reducible intro hc; try simp only [Bool.not_eq_true', Bool.not_eq_false', Bool.not_false, reduceCtorEq, inB_true, inB_false, Bool.true_eq_false] at hc) | omega)
    any_goals first
      | (simp [cutR_no (cutB_noA (l := l) (x := x) (y := y) (w := w) (h := h) (by omega)), bstrs]; done)
      | (exfalso; simp_all; done)
    have hok : cutB l x y w h = true := cutB_iff.2 ⟨hp, by omega, by omega, by omega, by omega, by omega, by omega⟩
    have hyh : (y + h).toNat - y.toNat = h.toNat := by omega
    have hxw : (x + w).toNat - x.toNat = w.toNat := by omega
    rw [cutR_yes hok]
    refine AWP.virtual 12 9 1 rfl ?_
    refine AWP.loop_entR [0] (fun k : Nat => ⟨[(1, sc (.int .i64 x)), (3, sc (.int .i64 w)), (12, .one (.own 0 1 0 k)), (49, .one (.pv (.seq 1 h.toNat fun i => vs (stAt l (y.toNat + i))))), (50, sc (.int .i64 (h.toNat : Int))), (51, sc (.int .i64 k))], [some ⟨9, k, fun i => vs (stAt (cutL l x.toNat y.toNat w.toNat h.toNat) i)⟩], 66⟩)
      (fun k => k ≤ h.toNat) (fun k => h.toNat - k) 0 (by omega) (by simp [EntR, EntSR, EntHR, SlR, VE, VE.rfl', lookup, BE, upd, sc, hyh]) ?_
    intro k hk
    by_cases hkl : k < h.toNat
    · have hlk := hpp.2.2 (y.toNat + k) (by omega)
      have hlk' : (bytesOf (stAt l (y.toNat + k))).length = lenB (stAt l 0) := hlk
      repeat' (first | (with_reducible first | refine then_normal ?_ | refine then_ret ?_ | refine then_exit ?_ | refine block_normal ?_ | refine block_ret ?_) | ((with_reducible show blockQ _ _ _ _); first | refine block_exit ?_ | refine block_exit_ne rfl ?_) | ((with_reducible show AWP _ _ _ _ _); first | (with_reducible first | refine AWP.seq ?_ | refine AWP.block ?_ | refine AWP.region ?_ | refine AWP.ret ?_ | refine AWP.exit ?_ | refine AWP.skip ?_) | refine AWP.drawn rfl (by kernel_rfl) ?_ | refine AWP.cond rfl ?_ ?_) | with_reducible refine ev_nil ?_ | ((first | ((with_reducible show evOps _ _ _ _ _ _); (first | refine ev_step rfl ?_ | refine ev_undef rfl rfl rfl ?_); intro K hK) | ((with_reducible show EvOpen _ _ _ _ _ _ _); refine ev_open ?_; intro K hK) | ((with_reducible show SkOpen _ _ _ _ _ _ _); refine sk_open ?_; intro K hK) | ((with_reducible show callK _ _ _ _ _ _ _ _); first | fail)); simp only [evOp, evQ, binK, withS, opd, kput, putS, upd, lookup, InK_i64, appendK, srcK, growK, frz, newBlk, partsK, buildSliceK, plSlice, cutK, boundK, V.one, Value.oneCell', List.set_cons_zero, sz_strs, c_string, ei_strs, ea_strs, u_string, lenB_is, List.getElem?_cons_zero, List.getElem?_cons_succ, List.nil_append, List.cons_append, List.length_cons, List.length_nil, Nat.reduceEqDiff, Nat.reduceAdd, Nat.reduceLT, Nat.reduceLeDiff, Nat.mul_one, Nat.add_zero, Nat.zero_add, Nat.mod_one, List.getD_cons_zero, ↓reduceIte, eq_self, true_and, Bool.false_eq_true, forall_const, implies_true, Int.toNat_natCast]) | refine ev_guard rfl rfl rfl ?_ ?_ | ((with_reducible show retQ _ _ _ _); simp only [retQ, retOk, getL, lookup, Option.map_some, fitsL, fits, ND, srcs, Res.list, VE, List.getElem?_cons_zero, Nat.reduceEqDiff, ↓reduceIte, and_true, true_and]) | (with_reducible refine hK _ ?_; clear hK K) | (with_reducible refine And.intro ?_ ?_) | (with_reducible intro hc; try simp only [decide_eq_true_eq, decide_eq_false_iff_not, Int.not_lt] at hc) | omega)
      all_goals first
        | (rename_i i; obtain rfl : i = 0 := (by omega); rfl)
        | (refine ⟨k + 1, by omega, by omega, [2], rfl, by decide, by simp [EntSR, SlR, VE, VE.rfl', lookup, sc], grow_strs ?_, trivial⟩
           rw [cutL_get hkl]
           show vs _ = vs (cutS (stAt l (y.toNat + k)) x.toNat w.toNat)
           unfold cutS
           rw [hxw])
        | (rw [hlk']; omega)
        | trace_state
    · obtain rfl : k = h.toNat := by omega
      repeat' (first | (with_reducible first | refine then_normal ?_ | refine then_ret ?_ | refine then_exit ?_ | refine block_normal ?_ | refine block_ret ?_) | ((with_reducible show blockQ _ _ _ _); first | refine block_exit ?_ | refine block_exit_ne rfl ?_) | ((with_reducible show AWP _ _ _ _ _); first | (with_reducible first | refine AWP.seq ?_ | refine AWP.block ?_ | refine AWP.region ?_ | refine AWP.ret ?_ | refine AWP.exit ?_ | refine AWP.skip ?_) | refine AWP.drawn rfl (by kernel_rfl) ?_ | refine AWP.cond rfl ?_ ?_) | with_reducible refine ev_nil ?_ | ((first | ((with_reducible show evOps _ _ _ _ _ _); (first | refine ev_step rfl ?_ | refine ev_undef rfl rfl rfl ?_); intro K hK) | ((with_reducible show EvOpen _ _ _ _ _ _ _); refine ev_open ?_; intro K hK) | ((with_reducible show SkOpen _ _ _ _ _ _ _); refine sk_open ?_; intro K hK) | ((with_reducible show callK _ _ _ _ _ _ _ _); first | fail)); simp only [evOp, evQ, binK, withS, opd, kput, putS, upd, lookup, InK_i64, appendK, srcK, growK, frz, newBlk, partsK, buildSliceK, plSlice, cutK, boundK, V.one, Value.oneCell', List.set_cons_zero, sz_strs, c_string, ei_strs, ea_strs, u_string, lenB_is, List.getElem?_cons_zero, List.getElem?_cons_succ, List.nil_append, List.cons_append, List.length_cons, List.length_nil, Nat.reduceEqDiff, Nat.reduceAdd, Nat.reduceLT, Nat.reduceLeDiff, Nat.mul_one, Nat.add_zero, Nat.zero_add, Nat.mod_one, List.getD_cons_zero, ↓reduceIte, eq_self, true_and, Bool.false_eq_true, forall_const, implies_true, Int.toNat_natCast]) | refine ev_guard rfl rfl rfl ?_ ?_ | ((with_reducible show retQ _ _ _ _); simp only [retQ, retOk, getL, lookup, Option.map_some, fitsL, fits, ND, srcs, Res.list, VE, List.getElem?_cons_zero, Nat.reduceEqDiff, ↓reduceIte, and_true, true_and]) | (with_reducible refine hK _ ?_; clear hK K) | (with_reducible refine And.intro ?_ ?_) | (with_reducible intro hc; try simp only [decide_eq_true_eq, decide_eq_false_iff_not, Int.not_lt] at hc) | omega)
      all_goals first
        | (exfalso; omega)
        | (simp; done)
        | (refine ⟨_, rfl, rfl, by simp [bstrs], fun i hi => VE.of_eq rfl⟩)
        | trace_state
  · repeat' (first | (with_reducible first | refine then_normal ?_ | refine then_ret ?_ | refine then_exit ?_ | refine block_normal ?_ | refine block_ret ?_) | ((with_reducible show blockQ _ _ _ _); first | refine block_exit ?_ | refine block_exit_ne rfl ?_) | ((with_reducible show AWP _ _ _ _ _); first | (with_reducible first | refine AWP.seq ?_ | refine AWP.block ?_ | refine AWP.region ?_ | refine AWP.ret ?_ | refine AWP.exit ?_ | refine AWP.skip ?_) | refine AWP.drawn rfl (by kernel_rfl) ?_ | refine AWP.cond rfl ?_ ?_) | with_reducible refine ev_nil ?_ | ((first | ((with_reducible show evOps _ _ _ _ _ _); (first | refine ev_step rfl ?_ | refine ev_undef rfl rfl rfl ?_); intro K hK) | ((with_reducible show EvOpen _ _ _ _ _ _ _); refine ev_open ?_; intro K hK) | ((with_reducible show SkOpen _ _ _ _ _ _ _); refine sk_open ?_; intro K hK) | ((with_reducible show callK _ _ _ _ _ _ _ _); first  | (refine call_scalar (drGood_fn l hl hs) (Nat.le_of_ble_eq_true rfl) rfl ?_) | (refine call_scalar (drSize_fn _ _) (Nat.le_of_ble_eq_true rfl) rfl ?_) | (refine call_scalar (l1In_fn _ _ _) (Nat.le_of_ble_eq_true rfl) rfl ?_))); simp only [evOp, evQ, evB, binK, withS, opd, kput, putS, upd, lookup, skipOp, argsK, bringIn, bring, Res.list, Res.slot, slotsOf, InK_i64, cutK, boundK, sz_strs, c_string, u_string, lenB_is, List.reverse_cons, List.reverse_nil, List.nil_append, List.cons_append, Nat.reduceEqDiff, Nat.reduceAdd, Nat.reduceLT, Nat.mul_one, Nat.zero_add, ↓reduceIte, eq_self, true_and, and_true, Bool.not_false, Bool.true_eq_false, Bool.false_eq_true, false_implies, forall_const, Int.toNat_zero, Option.isSome_some]) | refine ev_guard rfl rfl rfl ?_ ?_ | ((with_reducible show retQ _ _ _ _); simp only [retQ, retOk, getL, lookup, Option.map_some, fitsL, fits, ND, srcs, Res.list, VE, Value.bool.injEq, Nat.reduceEqDiff, ↓reduceIte, and_true]) | (with_reducible refine hK _ ?_; clear hK K) | (with_reducible refine And.intro ?_ ?_) | (with_reducible intro hc; try simp only [Bool.not_eq_true', Bool.not_eq_false', Bool.not_false, reduceCtorEq, inB_true, inB_false, Bool.true_eq_false] at hc) | omega)
    all_goals first
      | (exfalso; simp_all; done)
      | (simp [cutR_no (cutB_noP (l := l) (x := x) (y := y) (w := w) (h := h) hp), bstrs]; done)
      | trace_state

end Go.Proofs.Yteapdildbfimnaa
namespace Go.Proofs.Yteapdildbfimnaa
open Go.RowKit Go.Proofs
set_option linter.unusedSimpArgs false
set_option linter.unusedVariables false
set_option maxRecDepth 20000

theorem sameInts_self (a : List Int) (ha : a.length ≤ 1099511627776) : Fn Try.prog 24 [ints a, ints a] (.one (.pv (vb true))) := by
  refine Fn.of_body Try.call24 Try.func24 rfl Try.ntmps24 (ts := [4]) rfl (by simp) rfl (fun N => ?_)
  repeat' (first | (with_reducible first | refine then_normal ?_ | refine then_ret ?_ | refine then_exit ?_ | refine block_normal ?_ | refine block_ret ?_) | ((with_reducible show blockQ _ _ _ _); first | refine block_exit ?_ | refine block_exit_ne rfl ?_) | ((with_reducible show AWP _ _ _ _ _); first | (with_reducible first | refine AWP.seq ?_ | refine AWP.block ?_ | refine AWP.region ?_ | refine AWP.ret ?_ | refine AWP.exit ?_ | refine AWP.skip ?_) | refine AWP.drawn rfl (by kernel_rfl) ?_ | refine AWP.cond rfl ?_ ?_) | with_reducible refine ev_nil ?_ | ((first | ((with_reducible show evOps _ _ _ _ _ _); (first | refine ev_step rfl ?_ | refine ev_undef rfl rfl rfl ?_); intro K hK) | ((with_reducible show EvOpen _ _ _ _ _ _ _); refine ev_open ?_; intro K hK) | ((with_reducible show SkOpen _ _ _ _ _ _ _); refine sk_open ?_; intro K hK) | ((with_reducible show callK _ _ _ _ _ _ _ _); first | fail)); simp only [evOp, evQ, evB, binK, withS, opd, kput, putS, upd, lookup, slotsOf, sz_ints, Nat.reduceEqDiff, Nat.reduceLT, Nat.zero_add, ↓reduceIte, eq_self, true_and, Option.isSome_some]) | refine ev_guard rfl rfl rfl ?_ ?_ | ((with_reducible show retQ _ _ _ _); simp only [eq_self]) | (with_reducible refine hK _ ?_; clear hK K) | (with_reducible refine And.intro ?_ ?_) | (with_reducible intro hc; try simp only [bne_iff_ne, bne_eq_false_iff_eq, ne_eq, not_true_eq_false] at hc) | omega)
  all_goals try (exfalso; simp_all; done)
  refine AWP.loop_ent (fun k : Nat => ⟨[(0, .one (.pv (ints a))), (1, .one (.pv (ints a))), (12, sc (.int .i64 a.length)), (13, sc (.int .i64 k))], [], 26⟩)
    (fun k => k ≤ a.length) (fun k => a.length - k) 0 (by omega) (by (simp [Ent, EntS, EntH, SlE, VE, lookup, BE])) ?_
  intro k hk
  repeat' (first | (with_reducible first | refine then_normal ?_ | refine then_ret ?_ | refine then_exit ?_ | refine block_normal ?_ | refine block_ret ?_) | ((with_reducible show blockQ _ _ _ _); first | refine block_exit ?_ | refine block_exit_ne rfl ?_) | ((with_reducible show AWP _ _ _ _ _); first | (with_reducible first | refine AWP.seq ?_ | refine AWP.block ?_ | refine AWP.region ?_ | refine AWP.ret ?_ | refine AWP.exit ?_ | refine AWP.skip ?_) | refine AWP.drawn rfl (by kernel_rfl) ?_ | refine AWP.cond rfl ?_ ?_) | with_reducible refine ev_nil ?_ | ((first | ((with_reducible show evOps _ _ _ _ _ _); (first | refine ev_step rfl ?_ | refine ev_undef rfl rfl rfl ?_); intro K hK) | ((with_reducible show EvOpen _ _ _ _ _ _ _); refine ev_open ?_; intro K hK) | ((with_reducible show SkOpen _ _ _ _ _ _ _); refine sk_open ?_; intro K hK) | ((with_reducible show callK _ _ _ _ _ _ _ _); first | fail)); simp only [evOp, evQ, binK, withS, opd, kput, putS, upd, lookup, InK_i64, sz_ints, c_int, Nat.reduceEqDiff, Nat.reduceLT, Nat.mul_one, Nat.add_zero, ↓reduceIte, eq_self, true_and, Int.toNat_natCast]) | refine ev_guard rfl rfl rfl ?_ ?_ | ((with_reducible show retQ _ _ _ _); simp only [retQ, retOk, getL, lookup, Option.map_some, fitsL, fits, ND, srcs, Res.list, VE, Nat.reduceEqDiff, ↓reduceIte, and_true]) | (with_reducible refine hK _ ?_; clear hK K) | (with_reducible refine And.intro ?_ ?_) | (with_reducible intro hc; try simp only [decide_eq_true_eq, decide_eq_false_iff_not, bne_iff_ne, bne_eq_false_iff_eq, Int.not_lt, ne_eq, not_true_eq_false] at hc) | omega)
  all_goals first
    | (exfalso; omega)
    | (exfalso; simp_all; done)
    | exact ⟨k + 1, by omega, by omega, by (simp [Ent, EntS, EntH, SlE, VE, lookup, BE])⟩
    | rfl
    | trace_state
theorem sameLists_same (m : List (List Int)) (hm : m.length ≤ 1099511627776) (hr : ∀ i, i < m.length → (rowAt m i).length ≤ 1099511627776) : Fn Try.prog 35 [rows m, rows m] (.one (.pv (vb true))) := by
  refine Fn.of_body Try.call35 Try.func35 rfl Try.ntmps35 (ts := [4]) rfl (by simp) rfl (fun N => ?_)
  repeat' (first | (with_reducible first | refine then_normal ?_ | refine then_ret ?_ | refine then_exit ?_ | refine block_normal ?_ | refine block_ret ?_) | ((with_reducible show blockQ _ _ _ _); first | refine block_exit ?_ | refine block_exit_ne rfl ?_) | ((with_reducible show AWP _ _ _ _ _); first | (with_reducible first | refine AWP.seq ?_ | refine AWP.block ?_ | refine AWP.region ?_ | refine AWP.ret ?_ | refine AWP.exit ?_ | refine AWP.skip ?_) | refine AWP.drawn rfl (by kernel_rfl) ?_ | refine AWP.cond rfl ?_ ?_) | with_reducible refine ev_nil ?_ | ((first | ((with_reducible show evOps _ _ _ _ _ _); (first | refine ev_step rfl ?_ | refine ev_undef rfl rfl rfl ?_); intro K hK) | ((with_reducible show EvOpen _ _ _ _ _ _ _); refine ev_open ?_; intro K hK) | ((with_reducible show SkOpen _ _ _ _ _ _ _); refine sk_open ?_; intro K hK) | ((with_reducible show callK _ _ _ _ _ _ _ _); first | fail)); simp only [evOp, evQ, evB, binK, withS, opd, kput, putS, upd, lookup, slotsOf, sz_rows, Nat.reduceEqDiff, Nat.reduceLT, Nat.zero_add, ↓reduceIte, eq_self, true_and, Option.isSome_some]) | refine ev_guard rfl rfl rfl ?_ ?_ | ((with_reducible show retQ _ _ _ _); simp only [eq_self]) | (with_reducible refine hK _ ?_; clear hK K) | (with_reducible refine And.intro ?_ ?_) | (with_reducible intro hc; try simp only [bne_iff_ne, bne_eq_false_iff_eq, ne_eq, not_true_eq_false] at hc) | omega)
  all_goals try (exfalso; simp_all; done)
  refine AWP.loop_ent (fun k : Nat => ⟨[(0, .one (.pv (rows m))), (1, .one (.pv (rows m))), (12, sc (.int .i64 m.length)), (13, sc (.int .i64 k))], [], 27⟩)
    (fun k => k ≤ m.length) (fun k => m.length - k) 0 (by omega) (by simp [Ent, EntS, EntH, SlE, VE, VE.rfl', lookup]) ?_
  intro k hk
  by_cases hkl : k < m.length
  · repeat' (first | (with_reducible first | refine then_normal ?_ | refine then_ret ?_ | refine then_exit ?_ | refine block_normal ?_ | refine block_ret ?_) | ((with_reducible show blockQ _ _ _ _); first | refine block_exit ?_ | refine block_exit_ne rfl ?_) | ((with_reducible show AWP _ _ _ _ _); first | (with_reducible first | refine AWP.seq ?_ | refine AWP.block ?_ | refine AWP.region ?_ | refine AWP.ret ?_ | refine AWP.exit ?_ | refine AWP.skip ?_) | refine AWP.drawn rfl (by kernel_rfl) ?_ | refine AWP.cond rfl ?_ ?_) | with_reducible refine ev_nil ?_ | ((first | ((with_reducible show evOps _ _ _ _ _ _); (first | refine ev_step rfl ?_ | refine ev_undef rfl rfl rfl ?_); intro K hK) | ((with_reducible show EvOpen _ _ _ _ _ _ _); refine ev_open ?_; intro K hK) | ((with_reducible show SkOpen _ _ _ _ _ _ _); refine sk_open ?_; intro K hK) | ((with_reducible show callK _ _ _ _ _ _ _ _); first  | (refine call_scalar (sameInts_self (rowAt m k) (hr k hkl)) (Nat.le_of_ble_eq_true rfl) rfl ?_))); simp only [evOp, evQ, binK, withS, opd, kput, putS, upd, lookup, argsK, bringIn, bring, Res.list, Res.slot, InK_i64, sz_rows, c_ints, List.reverse_cons, List.reverse_nil, List.nil_append, List.cons_append, Nat.reduceEqDiff, Nat.reduceLT, Nat.mul_one, Nat.add_zero, ↓reduceIte, eq_self, true_and, Bool.not_true, Int.toNat_natCast]) | refine ev_guard rfl rfl rfl ?_ ?_ | ((with_reducible show retQ _ _ _ _); simp only [retQ, retOk, getL, lookup, Option.map_some, fitsL, fits, ND, srcs, Res.list, VE, Nat.reduceEqDiff, ↓reduceIte, and_true]) | (with_reducible refine hK _ ?_; clear hK K) | (with_reducible refine And.intro ?_ ?_) | (with_reducible intro hc; try simp only [decide_eq_true_eq, decide_eq_false_iff_not, Int.not_lt, reduceCtorEq] at hc) | omega)
    all_goals first
      | (exfalso; omega)
      | (exfalso; simp_all; done)
      | (intro i hi; rfl)
      | exact ⟨k + 1, by omega, by omega, by simp [Ent, EntS, EntH, SlE, VE, VE.rfl', lookup]⟩
      | trace_state
  · repeat' (first | (with_reducible first | refine then_normal ?_ | refine then_ret ?_ | refine then_exit ?_ | refine block_normal ?_ | refine block_ret ?_) | ((with_reducible show blockQ _ _ _ _); first | refine block_exit ?_ | refine block_exit_ne rfl ?_) | ((with_reducible show AWP _ _ _ _ _); first | (with_reducible first | refine AWP.seq ?_ | refine AWP.block ?_ | refine AWP.region ?_ | refine AWP.ret ?_ | refine AWP.exit ?_ | refine AWP.skip ?_) | refine AWP.drawn rfl (by kernel_rfl) ?_ | refine AWP.cond rfl ?_ ?_) | with_reducible refine ev_nil ?_ | ((first | ((with_reducible show evOps _ _ _ _ _ _); (first | refine ev_step rfl ?_ | refine ev_undef rfl rfl rfl ?_); intro K hK) | ((with_reducible show EvOpen _ _ _ _ _ _ _); refine ev_open ?_; intro K hK) | ((with_reducible show SkOpen _ _ _ _ _ _ _); refine sk_open ?_; intro K hK) | ((with_reducible show callK _ _ _ _ _ _ _ _); first | fail)); simp only [evOp, evQ, binK, withS, opd, kput, putS, upd, lookup, argsK, sz_rows, c_ints, List.reverse_cons, List.reverse_nil, List.nil_append, List.cons_append, Nat.reduceEqDiff, Nat.reduceLT, Nat.mul_one, Nat.add_zero, ↓reduceIte, eq_self, true_and, Int.toNat_natCast]) | refine ev_guard rfl rfl rfl ?_ ?_ | ((with_reducible show retQ _ _ _ _); simp only [retQ, retOk, getL, lookup, Option.map_some, fitsL, fits, ND, srcs, Res.list, VE, Nat.reduceEqDiff, ↓reduceIte, and_true]) | (with_reducible refine hK _ ?_; clear hK K) | (with_reducible refine And.intro ?_ ?_) | (with_reducible intro hc; try simp only [decide_eq_true_eq, decide_eq_false_iff_not, Int.not_lt] at hc) | omega)
    all_goals first
      | (exfalso; omega)
      | rfl
      | trace_state

/-- What is cut out of a picture is one. -/
theorem cut_ok {l : List ByteArray} {x y w h : Int} (e : (cutR l x y w h).2 = true) : picB (cutR l x y w h).1 = true ∧ (((cutR l x y w h).1.length : Nat) : Int) = h := by
  cases hb : cutB l x y w h with
  | false => rw [cutR_no hb] at e; cases e
  | true =>
    rw [cutR_yes hb]
    obtain ⟨h1, h2, h3, h4, h5, h6, h7⟩ := cutB_iff.1 hb
    obtain ⟨q1, q2, q3⟩ := picB_parts h1
    have hl : ∀ i, i < h.toNat → lenB (stAt (cutL l x.toNat y.toNat w.toNat h.toNat) i) = w.toNat := fun i hi => by
      rw [cutL_get hi]
      show (((bytesOf _).drop x.toNat).take w.toNat).length = _
      have : (bytesOf (stAt l (y.toNat + i))).length = lenB (stAt l 0) := q3 _ (by omega)
      rw [List.length_take, List.length_drop, this]
      omega
    refine ⟨?_, by simp; omega⟩
    refine picB_yes (by rw [cutL_len]; exact inB_true.2 (by omega)) (by rw [hl 0 (by omega)]; exact inB_true.2 (by omega)) fun i hi => ?_
    rw [cutL_len] at hi
    refine rowB_yes (by rw [hl i hi, hl 0 (by omega)]) ?_
    refine allN_true fun j hj => ?_
    rw [hl i hi] at hj
    have hx : lenB (stAt l (y.toNat + i)) = lenB (stAt l 0) := q3 _ (by omega)
    have := letters_all h1 (r := y.toNat + i) (i := x.toNat + j) (by omega) (by omega)
    have e : byteI (stAt (cutL l x.toNat y.toNat w.toNat h.toNat) i) j = byteI (stAt l (y.toNat + i)) (x.toNat + j) := by
      rw [cutL_get hi]
      unfold byteI
      have e2 : (bytesOf (cutS (stAt l (y.toNat + i)) x.toNat w.toNat)) = ((bytesOf (stAt l (y.toNat + i))).drop x.toNat).take w.toNat := rfl
      rw [e2, List.getD, List.getD, List.getElem?_take_of_lt hj, List.getElem?_drop]
    rw [e]; exact this

theorem lt_len (u : List ByteArray) : lenB (strOfNums (ltL u)) = (ltL u).length := by rw [lenB_size, strOfNums_size]
theorem ltr_bd {c : Int} (h : ltrI c = true) : 0 ≤ c ∧ c ≤ 108 := by
  have := alpha_mem.2 h
  unfold alpha at this
  simp only [List.mem_cons, List.not_mem_nil, or_false] at this
  omega
theorem byte_nums {xs : List Int} {j : Nat} (hj : j < xs.length) (h : 0 ≤ xs.getD j 0 ∧ xs.getD j 0 ≤ 255) : byteI (strOfNums xs) j = xs.getD j 0 := by
  have e : (bytesOf (strOfNums xs)).getD j 0 = UInt8.ofNat (xs.getD j 0).toNat := by
    unfold bytesOf; rw [strOfNums_data]; simp [List.getD, hj]
  unfold byteI
  rw [e, UInt8.toNat_ofNat']
  omega
/-- The letter at place k. -/
def ltAt (u : List ByteArray) (k : Nat) : Int := (ltL u).getD k 0
theorem ltAt_mem {u : List ByteArray} {k : Nat} (hk : k < (ltL u).length) : ltAt u k ∈ ltL u := by
  unfold ltAt
  rw [List.getD, List.getElem?_eq_getElem hk]
  exact List.getElem_mem hk
theorem ltAt_byte {u : List ByteArray} {k : Nat} (hk : k < (ltL u).length) : byteI (strOfNums (ltL u)) k = ltAt u k :=
  byte_nums hk (by have := ltr_bd (ltL_ltr (ltAt_mem hk)); unfold ltAt at this; omega)
theorem lt_cut {u : List ByteArray} {k : Nat} (hk : k < (ltL u).length) : ByteArray.mk (List.toArray (((bytesOf (strOfNums (ltL u))).drop k).take (k + 1 - k))) = strOfNums [ltAt u k] := by
  rw [cut_ltr (by rw [lt_len]; exact hk), ltAt_byte hk]
theorem nums1_byte {c : Int} (h : 0 ≤ c ∧ c ≤ 255) : byteI (strOfNums [c]) 0 = c := byte_nums (by simp) h
theorem clR_lt {u : List ByteArray} (hp : picB u = true) {k : Nat} (hk : k < (ltL u).length) : clR u (strOfNums [ltAt u k]) = (((cntP u (ltAt u k) u.length : Nat) : Int), true) := by
  have hl := ltL_ltr (ltAt_mem hk)
  have hb := ltr_bd hl
  have e := nums1_byte (c := ltAt u k) (by omega)
  rw [clR_yes hp (by rw [mrkB_is (by rw [lenB_size, strOfNums_size]; rfl), e]; exact hl), e]
theorem gt_same {u : List ByteArray} (hp : picB u = true) {k : Nat} (hk : k < (ltL u).length) (e : bytesOf (strOfNums [ltAt u k]) = bytesOf (strOfNums [gP u (gtJ u)])) : gtN u ≤ cntP u (ltAt u k) u.length := by
  have h1 := ltr_bd (ltL_ltr (ltAt_mem hk))
  have h2 := ltr_bd (gP_ltr hp (gtJ_lt hp))
  have e2 : byteI (strOfNums [ltAt u k]) 0 = byteI (strOfNums [gP u (gtJ u)]) 0 := congrArg (fun b => byteI b 0) (ba_ext e)
  rw [nums1_byte (by omega), nums1_byte (by omega)] at e2
  rw [e2]; exact gtN_le hp
/-- The sum of the counts of the first k letters. -/
def sumK (u : List ByteArray) (k : Nat) : Nat := sumC (fun c => cntP u c u.length) ((ltL u).take k)
theorem sumK_suc {u : List ByteArray} {k : Nat} (hk : k < (ltL u).length) : sumK u (k + 1) = sumK u k + cntP u (ltAt u k) u.length := by
  unfold sumK
  rw [List.take_succ_eq_append_getElem hk, sumC_app]
  congr 1
  show cntP u _ u.length + 0 = _
  unfold ltAt
  rw [List.getD, List.getElem?_eq_getElem hk]; rfl
theorem sumK_all {u : List ByteArray} (hp : picB u = true) : sumK u (ltL u).length = u.length * lenB (stAt u 0) := by
  unfold sumK
  rw [List.take_length]; exact ltL_sum hp

section
variable {b m : Nat} {Z : Nat → Prop} {g : Nat → Int}
theorem of4L_fn (k : Nat) (f : Nat → V) (hk : k ≤ 549755813000) (hb : BytOk m g) (h0 : f 0 = vs ⟨#[108]⟩) (h1 : f 1 = vs ⟨#[109]⟩) (h2 : f 2 = vs ⟨#[]⟩) (h3 : f 3 = vs ⟨#[97, 98]⟩) : FnC Try.prog 86 b k (k + 2) Z (bytV m g) [.seq 1 4 f] (someS fun x => lenB x ≤ 2) :=
  of_fn k 4 f (fun i => if i = 0 then ⟨#[108]⟩ else if i = 1 then ⟨#[109]⟩ else if i = 2 then ⟨#[]⟩ else ⟨#[97, 98]⟩) _ hk (by omega) hb (fun i hi => by
    rcases (show i = 0 ∨ i = 1 ∨ i = 2 ∨ i = 3 by omega) with rfl | rfl | rfl | rfl
    · exact h0
    · exact h1
    · exact h2
    · exact h3) fun i hi => by
    rcases (show i = 0 ∨ i = 1 ∨ i = 2 ∨ i = 3 by omega) with rfl | rfl | rfl | rfl <;> decide
theorem of5L_fn (k : Nat) (f : Nat → V) (x : ByteArray) (hk : k ≤ 549755813000) (hb : BytOk m g) (h0 : f 0 = vs ⟨#[97]⟩) (h1 : f 1 = vs ⟨#[98]⟩) (h2 : f 2 = vs ⟨#[42]⟩) (h3 : f 3 = vs ⟨#[99]⟩) (h4 : f 4 = vs x) (hx : lenB x ≤ 2) : FnC Try.prog 86 b k (k + 2) Z (bytV m g) [.seq 1 5 f] (someS fun x => lenB x ≤ 2) :=
  of_fn k 5 f (fun i => if i = 0 then ⟨#[97]⟩ else if i = 1 then ⟨#[98]⟩ else if i = 2 then ⟨#[42]⟩ else if i = 3 then ⟨#[99]⟩ else x) _ hk (by omega) hb (fun i hi => by
    rcases (show i = 0 ∨ i = 1 ∨ i = 2 ∨ i = 3 ∨ i = 4 by omega) with rfl | rfl | rfl | rfl | rfl
    · exact h0
    · exact h1
    · exact h2
    · exact h3
    · exact h4) fun i hi => by
    rcases (show i = 0 ∨ i = 1 ∨ i = 2 ∨ i = 3 ∨ i = 4 by omega) with rfl | rfl | rfl | rfl | rfl
    · exact (by decide : lenB ⟨#[97]⟩ ≤ 2)
    · exact (by decide : lenB ⟨#[98]⟩ ≤ 2)
    · exact (by decide : lenB ⟨#[42]⟩ ≤ 2)
    · exact (by decide : lenB ⟨#[99]⟩ ≤ 2)
    · exact hx
end
/-- A list of texts and a text. -/
def somePS : Res → Prop := fun r => ∃ (u : List ByteArray) (x : ByteArray), (PcOk u ∧ lenB x ≤ 2) ∧ r = .many [.fr 1 u.length (bstrs u), .pv (vs x)]
theorem somePS.shape (r : Res) (h : somePS r) : r.shape 2 = true := by obtain ⟨u, x, _, rfl⟩ := h; rfl
/-- A list of texts, a place and two sides. -/
def someP4 : Res → Prop := fun r => ∃ (u : List ByteArray) (x y w h : Int), (PcOk u ∧ (-101 ≤ x ∧ x ≤ 101) ∧ (-101 ≤ y ∧ y ≤ 101) ∧ (0 ≤ w ∧ w ≤ 17) ∧ (0 ≤ h ∧ h ≤ 17)) ∧ r = .many [.fr 1 u.length (bstrs u), .pv (vi x), .pv (vi y), .pv (vi w), .pv (vi h)]
theorem someP4.shape (r : Res) (h : someP4 r) : r.shape 5 = true := by obtain ⟨l, x, y, w, z, _, rfl⟩ := h; rfl
section
variable {m : Nat} {g : Nat → Int}
theorem drawCountParts_E (hb : BytOk m g) : FnE Try.prog 28 [bytV m g] someP := by
  refine FnE.of_body (fun N => [.old (fun b => b < N) (bytV m g)]) (fun _ us h => oldL_rd _ us h) Try.call28 Try.func28 rfl Try.ntmps28 (ts := [2]) rfl (fun _ => by simp) (someP.shape) (fun N => ?_)
  have hd := (drawIsPicture_E hb).bare (vs' := [.old (fun b => b < N) (bytV m g)]) ⟨bare_seq _, trivial⟩
  repeat' (first | ((with_reducible show evNx _ _ _ _ _ _); first | (with_reducible refine nx_done ?_) | (refine nx_one rfl ?_) | (refine nx_alt rfl ?_ ?_) | (with_reducible refine nx_st ?_)) | ((with_reducible show evSx _ _ _ _ _ _); first | (with_reducible refine sx_done ?_) | (with_reducible refine sx_st ?_) | (with_reducible refine sx_op ?_)) | ((with_reducible show evTake _ _ _ _ _); with_reducible refine take_nil ?_) | ((with_reducible show evSy _ _ _ _ _ _ _); first | (with_reducible refine sy_done ?_) | (refine sy_last rfl ?_) | (refine sy_one (by decide) rfl ?_) | (refine sy_alt (by decide) rfl ?_ ?_) | (with_reducible refine sy_st ?_)) | ((with_reducible show StK _ _ _); first | fail) | (with_reducible first | refine then_normal ?_ | refine then_ret ?_ | refine then_exit ?_ | refine block_normal ?_ | refine block_ret ?_) | ((with_reducible show blockQ _ _ _ _); first | refine block_exit ?_ | refine block_exit_ne rfl ?_) | ((with_reducible show AWP _ _ _ _ _); first | (refine AWP.region_sx (id := 1) [.op, .op, .op] ?_) | (with_reducible first | refine AWP.seq ?_ | refine AWP.block ?_ | refine AWP.region ?_ | refine AWP.ret ?_ | refine AWP.exit ?_ | refine AWP.skip ?_) | refine AWP.drawn rfl (by kernel_rfl) ?_ | refine AWP.cond rfl ?_ ?_) | with_reducible refine ev_nil ?_ | ((first | ((with_reducible show evNx _ _ _ _ _ _); refine nx_take rfl ?_; intro K hK) | ((with_reducible show Ax _ _ _ _ _); first | (refine ax_callE (f := 80) ?_) | (refine ax_op rfl ?_; intro K hK)) | ((with_reducible show evTake _ _ _ _ _); refine take_step rfl ?_; intro K hK) | ((with_reducible show evSy _ _ _ _ _ _ _); refine sy_take rfl ?_; intro K hK) | ((with_reducible show AxB _ _ _ _ _); first | (refine axb_callE (f := 80) ?_) | (refine axb_op rfl rfl ?_; intro K hK)) | (refine ⟨_, hd, ?_⟩; rintro _ ⟨u, hu, rfl⟩ hn1; simp only [Res.list, NewL, and_true, true_and] at hn1) | ((with_reducible show evOps _ _ _ _ _ _); (first | refine ev_step rfl ?_ | refine ev_undef rfl rfl rfl ?_); intro K hK) | ((with_reducible show EvOpen _ _ _ _ _ _ _); refine ev_open ?_; intro K hK) | ((with_reducible show SkOpen _ _ _ _ _ _ _); refine sk_open ?_; intro K hK) | ((with_reducible show callK _ _ _ _ _ _ _ _); first  | fail)); simp only [callEK, evOp, evQ, withS, opd, kput, putS, upd, lookup, argsK, bringIn, bring, Res.list, Res.slot, slotsOf, bstrs, List.reverse_cons, List.reverse_nil, List.nil_append, List.length_nil, Nat.reduceEqDiff, Nat.reduceLT, ↓reduceIte, eq_self, true_and]) | refine ev_guard rfl rfl rfl ?_ ?_ | ((with_reducible show retQ _ _ _ _); simp only [eq_self]) | (with_reducible refine hK _ ?_; clear hK K) | (with_reducible refine And.intro ?_ ?_) | (with_reducible intro hc; try simp only [eq_self] at hc) | omega)
  all_goals first
    | exact retE_P u rfl rfl rfl (BE.rfl' _) hu
    | trace_state
set_option maxHeartbeats 2000000 in
theorem drawCountLetter_E (hb : BytOk m g) : FnE Try.prog 37 [bytV m g] somePS := by
  refine FnE.of_body (fun N => [.old (fun b => b < N) (bytV m g)]) (fun _ us h => oldL_rd _ us h) Try.call37 Try.func37 rfl Try.ntmps37 (ts := [2, 3]) rfl (fun _ => by simp) (somePS.shape) (fun N => ?_)
  repeat' (first | ((with_reducible show evNx _ _ _ _ _ _); first | (with_reducible refine nx_done ?_) | (refine nx_one rfl ?_) | (refine nx_alt rfl ?_ ?_) | (with_reducible refine nx_st ?_)) | ((with_reducible show evSx _ _ _ _ _ _); first | (with_reducible refine sx_done ?_) | (with_reducible refine sx_st ?_) | (with_reducible refine sx_op ?_)) | ((with_reducible show evTake _ _ _ _ _); with_reducible refine take_nil ?_) | ((with_reducible show evSy _ _ _ _ _ _ _); first | (with_reducible refine sy_done ?_) | (refine sy_last rfl ?_) | (refine sy_one (by decide) rfl ?_) | (refine sy_alt (by decide) rfl ?_ ?_) | (with_reducible refine sy_st ?_)) | ((with_reducible show StK _ _ _); first | fail) | (with_reducible first | refine then_normal ?_ | refine then_ret ?_ | refine then_exit ?_ | refine block_normal ?_ | refine block_ret ?_) | ((with_reducible show blockQ _ _ _ _); first | refine block_exit ?_ | refine block_exit_ne rfl ?_) | ((with_reducible show AWP _ _ _ _ _); first | (refine AWP.letCur_rg (id := 2) 4 rfl rfl rfl rfl rfl rfl (fun _ h => h) ?_ ; intro b hbN ; simp only [upd, List.set_cons_zero, Nat.reduceEqDiff, ↓reduceIte, eq_self]) | (refine AWP.region_sx (id := 2) [.op, .op, .op, .op, .op, .op, .op, .op, .op, .op] ?_) | (with_reducible first | refine AWP.seq ?_ | refine AWP.block ?_ | refine AWP.region ?_ | refine AWP.ret ?_ | refine AWP.exit ?_ | refine AWP.skip ?_) | refine AWP.drawn rfl (by kernel_rfl) ?_ | refine AWP.cond rfl ?_ ?_) | with_reducible refine ev_nil ?_ | ((first | ((with_reducible show evNx _ _ _ _ _ _); refine nx_take rfl ?_; intro K hK) | ((with_reducible show Ax _ _ _ _ _); first | ((first | refine ax_callC (f := 85) ?_ | refine ax_callC (f := 86) ?_); refine callC_go (x := _) (xs := _) rfl rfl rfl (by first | exact .inl (by rw [hcx]; exact rfl) | exact .inr (by assumption)) (by (try simp only [okS, okSl, okH, eq_self, true_and, and_true, and_self]); repeat' (first | exact trivial | exact rfl | exact disj_cut | exact disj_lt (by assumption) | assumption | omega | refine And.intro ?_ ?_ | (intro i hi; first | exact trivial | (split <;> first | exact trivial | exact disj_lt (by assumption) | exact disj_cut) | (repeat' split) <;> exact trivial))) (by (try simp only [okS, okSl, okH, eq_self, true_and, and_true, and_self]); repeat' (first | exact trivial | exact rfl | exact disj_cut | exact disj_lt (by assumption) | assumption | omega | refine And.intro ?_ ?_ | (intro i hi; first | exact trivial | (split <;> first | exact trivial | exact disj_lt (by assumption) | exact disj_cut) | (repeat' split) <;> exact trivial))) (fun K1 hK1 => by simp only [argsC, opd, lookup, Nat.zero_add, Nat.reduceEqDiff, ↓reduceIte, List.getElem?_cons_zero, List.getElem?_cons_succ, List.reverse_cons, List.reverse_nil, List.nil_append, List.cons_append]; repeat' (first | exact hK1 | exact trivial | exact disj_cut | assumption | omega | refine And.intro ?_ ?_)) ?_; first | (refine ⟨_, _, picture_fn _ (by omega) hb, ?_⟩; rintro _ ⟨u, hu, rfl⟩ hnewZ; clear hnewZ) | (refine ⟨_, _, (by first | exact of4L_fn _ _ (by omega) hb rfl rfl rfl rfl | exact of5L_fn _ _ _ (by omega) hb rfl rfl rfl rfl rfl (by assumption)), ?_⟩; rintro _ ⟨y, hy, rfl⟩ hnewZ; clear hnewZ)) | (refine ax_op rfl ?_; intro K hK)) | ((with_reducible show evTake _ _ _ _ _); refine take_step rfl ?_; intro K hK) | ((with_reducible show evSy _ _ _ _ _ _ _); refine sy_take rfl ?_; intro K hK) | ((with_reducible show AxB _ _ _ _ _); first | (refine axb_op rfl rfl ?_; intro K hK)) | ((with_reducible show evOps _ _ _ _ _ _); (first | refine ev_step rfl ?_ | refine ev_undef rfl rfl rfl ?_); intro K hK) | ((with_reducible show EvOpen _ _ _ _ _ _ _); refine ev_open ?_; intro K hK) | ((with_reducible show SkOpen _ _ _ _ _ _ _); refine sk_open ?_; intro K hK) | ((with_reducible show callK _ _ _ _ _ _ _ _); first  | fail)); simp only [evOp, evQ, withS, opd, kput, putS, upd, lookup, bringIn, bring, Res.list, Res.slot, slotsOf, frz, newBlk, boxV, buildK, partsK, buildSliceK, plSlice, V.one, Value.oneCell', ei_strs, ea_strs, bstrs, swpS, swSl, z_cur, pl_cur, fc_0, List.nil_append, List.cons_append, List.length_cons, List.length_nil, Nat.reduceEqDiff, Nat.reduceAdd, Nat.reduceLT, Nat.reduceLeDiff, Nat.mul_one, Nat.zero_add, Nat.mod_one, List.getD_cons_zero, ↓reduceIte, eq_self, true_and, Bool.false_eq_true, Option.isSome_some]) | refine ev_guard rfl rfl rfl ?_ ?_ | ((with_reducible show retQ _ _ _ _); simp only [eq_self]) | (with_reducible refine hK _ ?_; clear hK K) | (with_reducible refine And.intro ?_ ?_) | (with_reducible intro hc; try simp only [eq_self] at hc) | omega)
  refine ⟨_, ⟨u, y, ⟨hu, hy⟩, rfl⟩, ⟨fun _ _ => trivial, trivial, trivial⟩, ?_⟩
  simp only [retOk, getL, lookup, Option.map_some, fitsL, fits, ND, srcs, Res.list, VE, List.getElem?_cons_zero, List.getElem?_cons_succ, Nat.reduceEqDiff, ↓reduceIte, and_true, true_and]
  exact ⟨⟨_, rfl, BE.rfl' _⟩, by simp⟩
set_option maxHeartbeats 4000000 in
theorem drawCutPicture_E (hb : BytOk m g) : FnE Try.prog 39 [bytV m g] someP4 := by
  refine FnE.of_body (fun N => [.old (fun b => b < N) (bytV m g)]) (fun _ us h => oldL_rd _ us h) Try.call39 Try.func39 rfl Try.ntmps39 (ts := [2, 3, 4, 5, 6]) rfl (fun _ => by simp) (someP4.shape) (fun N => ?_)
  repeat' (first | ((with_reducible show evNx _ _ _ _ _ _); first | (with_reducible refine nx_done ?_) | (refine nx_one rfl ?_) | (refine nx_alt rfl ?_ ?_) | (with_reducible refine nx_st ?_)) | ((with_reducible show evSx _ _ _ _ _ _); first | (with_reducible refine sx_done ?_) | (with_reducible refine sx_st ?_) | (with_reducible refine sx_op ?_)) | ((with_reducible show evTake _ _ _ _ _); with_reducible refine take_nil ?_) | ((with_reducible show evSy _ _ _ _ _ _ _); first | (with_reducible refine sy_done ?_) | (refine sy_last rfl ?_) | (refine sy_one (by decide) rfl ?_) | (refine sy_alt (by decide) rfl ?_ ?_) | (with_reducible refine sy_st ?_)) | ((with_reducible show StK _ _ _); first | fail) | (with_reducible first | refine then_normal ?_ | refine then_ret ?_ | refine then_exit ?_ | refine block_normal ?_ | refine block_ret ?_) | ((with_reducible show blockQ _ _ _ _); first | refine block_exit ?_ | refine block_exit_ne rfl ?_) | ((with_reducible show AWP _ _ _ _ _); first | (refine AWP.letCur_rg (id := 2) 7 rfl rfl rfl rfl rfl rfl (fun _ h => h) ?_ ; intro b hbN ; simp only [upd, List.set_cons_zero, Nat.reduceEqDiff, ↓reduceIte, eq_self]) | (refine AWP.region_sx (id := 2) [.op, .op, .op, .op, .op, .op, .op, .op, .op, .op, .op, .op, .op, .op, .op, .op, .op, .op, .op] ?_) | (with_reducible first | refine AWP.seq ?_ | refine AWP.block ?_ | refine AWP.region ?_ | refine AWP.ret ?_ | refine AWP.exit ?_ | refine AWP.skip ?_) | refine AWP.drawn rfl (by kernel_rfl) ?_ | refine AWP.cond rfl ?_ ?_) | with_reducible refine ev_nil ?_ | ((first | ((with_reducible show evNx _ _ _ _ _ _); refine nx_take rfl ?_; intro K hK) | ((with_reducible show Ax _ _ _ _ _); first | ((first | refine ax_callC (f := 85) ?_ | refine ax_callC (f := 88) ?_); refine callC_go (x := _) (xs := _) rfl rfl rfl (by first | exact .inl (by rw [hcx]; exact rfl) | exact .inr (by assumption)) (by (try simp only [okS, okSl, okH, eq_self, true_and, and_true, and_self]); repeat' (first | exact trivial | exact rfl | exact disj_cut | exact disj_lt (by assumption) | assumption | omega | refine And.intro ?_ ?_ | (intro i hi; first | exact trivial | (split <;> first | exact trivial | exact disj_lt (by assumption) | exact disj_cut) | (repeat' split) <;> exact trivial))) (by (try simp only [okS, okSl, okH, eq_self, true_and, and_true, and_self]); repeat' (first | exact trivial | exact rfl | exact disj_cut | exact disj_lt (by assumption) | assumption | omega | refine And.intro ?_ ?_ | (intro i hi; first | exact trivial | (split <;> first | exact trivial | exact disj_lt (by assumption) | exact disj_cut) | (repeat' split) <;> exact trivial))) (fun K1 hK1 => by simp only [argsC, opd, lookup, Nat.zero_add, Nat.reduceEqDiff, ↓reduceIte, List.getElem?_cons_zero, List.getElem?_cons_succ, List.reverse_cons, List.reverse_nil, List.nil_append, List.cons_append]; repeat' (first | exact hK1 | exact trivial | exact disj_cut | assumption | omega | refine And.intro ?_ ?_)) ?_; first | (refine ⟨_, _, picture_fn _ (by omega) hb, ?_⟩; rintro _ ⟨u, hu, rfl⟩ hnewZ; clear hnewZ) | (refine ⟨_, _, (by first | exact among5_fn _ _ _ _ _ _ _ (fun x => 0 ≤ x ∧ x ≤ 17) (by omega) hb rfl rfl rfl rfl rfl (by decide) | exact among5_fn _ _ _ _ _ _ _ (fun x => -101 ≤ x ∧ x ≤ 101) (by omega) hb rfl rfl rfl rfl rfl (by decide)), ?_⟩; rintro _ ⟨z, hz, rfl⟩ hnewZ; clear hnewZ)) | (refine ax_op rfl ?_; intro K hK)) | ((with_reducible show evTake _ _ _ _ _); refine take_step rfl ?_; intro K hK) | ((with_reducible show evSy _ _ _ _ _ _ _); refine sy_take rfl ?_; intro K hK) | ((with_reducible show AxB _ _ _ _ _); first | (refine axb_op rfl rfl ?_; intro K hK)) | ((with_reducible show evOps _ _ _ _ _ _); (first | refine ev_step rfl ?_ | refine ev_undef rfl rfl rfl ?_); intro K hK) | ((with_reducible show EvOpen _ _ _ _ _ _ _); refine ev_open ?_; intro K hK) | ((with_reducible show SkOpen _ _ _ _ _ _ _); refine sk_open ?_; intro K hK) | ((with_reducible show callK _ _ _ _ _ _ _ _); first  | fail)); simp only [evOp, evQ, withS, opd, kput, putS, upd, lookup, bringIn, bring, Res.list, Res.slot, slotsOf, frz, newBlk, boxV, buildK, partsK, buildSliceK, plSlice, V.one, Value.oneCell', ei_ints, ea_ints, bstrs, swpS, swSl, z_cur, pl_cur, fc_0, List.nil_append, List.cons_append, List.length_cons, List.length_nil, Nat.reduceEqDiff, Nat.reduceAdd, Nat.reduceLT, Nat.reduceLeDiff, Nat.mul_one, Nat.zero_add, Nat.mod_one, List.getD_cons_zero, ↓reduceIte, eq_self, true_and, Bool.false_eq_true, Option.isSome_some]) | refine ev_guard rfl rfl rfl ?_ ?_ | ((with_reducible show retQ _ _ _ _); simp only [eq_self]) | (with_reducible refine hK _ ?_; clear hK K) | (with_reducible refine And.intro ?_ ?_) | (with_reducible intro hc; try simp only [eq_self] at hc) | omega)
  rename_i x hx y hy w hw
  refine ⟨_, ⟨u, x, y, w, z, ⟨hu, by omega, by omega, hw, hz⟩, rfl⟩, ⟨fun _ _ => trivial, trivial, trivial, trivial, trivial, trivial⟩, ?_⟩
  simp only [retOk, getL, lookup, Option.map_some, fitsL, fits, ND, srcs, Res.list, VE, List.getElem?_cons_zero, List.getElem?_cons_succ, Nat.reduceEqDiff, ↓reduceIte, and_true, true_and]
  exact ⟨⟨_, rfl, BE.rfl' _⟩, by simp⟩
end
end Go.Proofs.Yteapdildbfimnaa
namespace Go.Proofs.Yteapdildbfimnaa
open Go.RowKit Go.Proofs
set_option linter.unusedSimpArgs false
set_option linter.unusedVariables false

/-- A contract out of a run that hands a scalar back. -/
theorem Fn.of_calls {P : Program} {f : FuncId} {vs : List V} {v : Value} (he : ∀ (args : Array Value) (w : World), (callFunc f args).run P w = .ok (.enter f args) w)
    (h : ∀ (w : World) (S0 : Nat → Prop) (us : List Value), RdL w S0 vs us → Calls P f us.toArray w fun e w' => e = .returned v ∧ Below w.heap.size w w') : Fn P f vs (.one (.pv (.val v))) := by
  refine ⟨he, fun w S0 us hus => (h w S0 us hus).mono ?_⟩
  rintro e w' ⟨rfl, hb⟩
  exact ⟨v, [], rfl, ⟨rfl, hb, fun id blk hi => by simp [bring, Res.list] at hi, fun i j bi bj b z z' hi => by simp [bring, Res.list] at hi⟩, rfl⟩

theorem join_fn (l : List ByteArray) (sep : ByteArray) (hl : l.length ≤ 1099511627776) (hlen : (Lib.join (l.map (·.data.toList)) sep.data.toList).length ≤ 140737488355328) :
    Fn Try.prog 47 [strs l, vs sep] (.one (.pv (vs (joinB l sep)))) := by
  refine Fn.of_calls Try.call47 fun w S0 us hus => ?_
  match us, hus with
  | [u0, u1], ⟨h0, h1, _⟩ =>
    obtain rfl : u1 = .string sep := h1
    obtain ⟨A, c, rfl, hc, hr⟩ := h0
    rcases Nat.eq_zero_or_pos l.length with h | h
    · obtain rfl : l = [] := List.length_eq_zero_iff.1 h
      refine (Try.strings_Join_none _ _ sep w).mono ?_
      rintro e w' ⟨rfl, rfl⟩
      exact ⟨rfl, Below.refl _ _⟩
    · obtain ⟨b, off, rfl, hS, hr⟩ := hr (by omega)
      obtain ⟨x0, hx0, _⟩ := hr 0 (by omega)
      refine (Try.strings_Join b off c l sep w (fun j x hj => ?_) (block_of_cell hx0) (by omega) hc hlen).mono ?_
      · obtain ⟨hlt, rfl⟩ := List.getElem?_eq_some_iff.1 hj
        obtain ⟨y, hy, e⟩ := hr j (by omega)
        have e' : y = .string (stAt l j) := e
        subst e'
        rw [hy]
        simp [stAt, List.getD, hlt]
      · rintro e w' ⟨rfl, hb⟩
        exact ⟨rfl, hb⟩

theorem count_fn (s : ByteArray) (c : UInt8) : Fn Try.prog 84 [vs s, vs ⟨#[c]⟩] (.one (.pv (vi (Lib.countByte s.data.toList c)))) := by
  refine Fn.of_calls Try.call84 fun w S0 us hus => ?_
  match us, hus with
  | [u0, u1], ⟨h0, h1, _⟩ =>
    obtain rfl : u1 = .string ⟨#[c]⟩ := h1
    obtain rfl : u0 = .string s := h0
    refine (Try.strings_Count_one s c w).mono ?_
    rintro e w' ⟨rfl, rfl⟩
    exact ⟨rfl, Below.refl _ _⟩

end Go.Proofs.Yteapdildbfimnaa
