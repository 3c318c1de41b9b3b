/- slices.CompactFunc on rows of terms, walked: what it leaves of the block. Conditions: rows of terms of small numbers, no more than 12 each. -/
import Derived.Test.YtpimjkhfookipaaDoorFnSor
import Derived.Lib.SliceRun
import Derived.Deep.LoopGhost
namespace Go.Proofs.YtpimjkhfookipaaDoor
open Go.RowKit Go.Proofs Go.Sort
set_option linter.unusedSimpArgs false
set_option linter.unusedVariables false

/-! ### Plainly: which places stay -/
def kp (M : List (List T3)) (j : Nat) : Bool := decide (j = 0 ∨ tsAt M (j - 1) ≠ tsAt M j)
def kL (M : List (List T3)) : Nat → List Nat
  | 0 => []
  | m + 1 => if kp M m then kL M m ++ [m] else kL M m
theorem kL_lt (M : List (List T3)) : ∀ m x, x ∈ kL M m → x < m
  | 0, x, h => by simp [kL] at h
  | m + 1, x, h => by
    unfold kL at h
    split at h
    · rw [List.mem_append, List.mem_singleton] at h
      rcases h with h | rfl
      · have := kL_lt M m x h; omega
      · omega
    · have := kL_lt M m x h; omega
theorem kL_len (M : List (List T3)) : ∀ m, (kL M m).length ≤ m
  | 0 => Nat.le_refl _
  | m + 1 => by
    have := kL_len M m
    unfold kL
    split
    · simp; omega
    · omega
theorem kL_cmp (M : List (List T3)) : ∀ m, (kL M m).map (tsAt M) = cmpX M m
  | 0 => rfl
  | m + 1 => by
    have ih := kL_cmp M m
    unfold kL cmpX
    by_cases h : m = 0 ∨ tsAt M (m - 1) ≠ tsAt M m
    · have hk : kp M m = true := decide_eq_true h
      rw [hk, if_pos rfl, if_pos h, List.map_append, ih]; rfl
    · have hk : kp M m = false := decide_eq_false h
      rw [hk, if_neg h]
      simpa using ih
theorem kL_all {M : List (List T3)} : ∀ {m : Nat}, (∀ j, j < m → kp M j = true) → kL M m = List.range m
  | 0, _ => rfl
  | m + 1, h => by
    unfold kL
    rw [h m (by omega), if_pos rfl, kL_all fun j hj => h j (by omega), List.range_succ]
/-- m places have been looked at; what stays of them, k, lies at the head; from place k on all is as it was. -/
structure CoInv (M : List (List T3)) (m k : Nat) (dk : Nat → Nat) : Prop where
  len : (kL M m).length = k
  lt : k < m
  low : ∀ j, j < k → (kL M m)[j]? = some (dk j)
  high : ∀ j, k ≤ j → dk j = j
theorem CoInv.start {M : List (List T3)} {k : Nat} (h : ∀ j, j < k → kp M j = true) (h2 : kp M k = false) : CoInv M (k + 1) k id := by
  have e : kL M (k + 1) = List.range k := by unfold kL; rw [h2]; simpa using kL_all h
  exact ⟨by rw [e]; simp, by omega, fun j hj => by rw [e]; simp [hj], fun j hj => rfl⟩
theorem CoInv.skip {M : List (List T3)} {m k : Nat} {dk : Nat → Nat} (h : CoInv M m k dk) (hk : kp M m = false) : CoInv M (m + 1) k dk := by
  have e : kL M (m + 1) = kL M m := by conv => lhs; unfold kL; rw [hk]
                                       simp
  exact ⟨by rw [e]; exact h.len, by have := h.lt; omega, fun j hj => by rw [e]; exact h.low j hj, h.high⟩
theorem CoInv.keep {M : List (List T3)} {m k : Nat} {dk : Nat → Nat} (h : CoInv M m k dk) (hk : kp M m = true) : CoInv M (m + 1) (k + 1) (fun j => if j = k then m else dk j) := by
  have e : kL M (m + 1) = kL M m ++ [m] := by conv => lhs; unfold kL; rw [hk]
                                              simp
  refine ⟨by rw [e]; simp [h.len], by have := h.lt; omega, fun j hj => ?_, fun j hj => ?_⟩
  · rw [e]
    by_cases e2 : j = k
    · subst e2
      rw [List.getElem?_append_right (by rw [h.len]; exact Nat.le_refl _), h.len, Nat.sub_self, if_pos rfl]; rfl
    · rw [List.getElem?_append_left (by rw [h.len]; omega), if_neg e2]; exact h.low j (by omega)
  · rw [if_neg (by omega)]; exact h.high j (by omega)

/-! ### The test -/
theorem cmp_zero : ∀ {a b : List UInt8}, Lib.compareBytes a b = 0 → a = b
  | [], [], _ => rfl
  | [], _ :: _, h => by simp [Lib.compareBytes] at h
  | _ :: _, [], h => by simp [Lib.compareBytes] at h
  | x :: a, y :: b, h => by
    unfold Lib.compareBytes at h
    split at h
    · cases h
    · split at h
      · cases h
      · rename_i h1 h2
        have n1 : ¬ x.toNat < y.toNat := h1
        have n2 : ¬ y.toNat < x.toNat := h2
        rw [UInt8.toNat_inj.1 (show x.toNat = y.toNat by omega), cmp_zero h]
theorem cmp_self : ∀ a : List UInt8, Lib.compareBytes a a = 0
  | [] => rfl
  | x :: a => by
    unfold Lib.compareBytes
    have n1 : ¬ x < x := fun h => by have h : x.toNat < x.toNat := h; omega
    rw [if_neg n1, if_neg n1, cmp_self a]
theorem cat1_eq (u v : Value) (r : Int) (W : World) (hc : Calls Tryd.prog 81 #[u, v] W fun e w' => e = .returned (.int .i64 r) ∧ ∃ q os, w' = grow (W.drewN q) os) :
    Calls Tryd.prog 89 #[u, v] W fun e w' => e = .returned (.bool (decide (r = 0))) ∧ ∃ q os, w' = grow (W.drewN q) os := by
  have C : Aside (Calls Tryd.prog 81 #[u, v] W fun e w' => e = .returned (.int .i64 r) ∧ ∃ q os, w' = grow (W.drewN q) os) := hc
  clear hc
  go_enter Tryd.func89, Tryd.ntmps89
  go_wp2_with (go_at_call 81; refine C.out.mono ?_; rintro e w' ⟨rfl, q1, os1, rfl⟩)
  go_ret
  exact ⟨rfl, _, _, rfl⟩
theorem cat1_walk {W : World} {u v : Value} {l m : List T3} (hu : TRow W u l) (hv : TRow W v m) (hs : Sml l) (hs' : Sml m) (hl : l.length ≤ 12) (hm : m.length ≤ 12) (hg : Gl W) :
    Calls Tryd.prog 89 #[u, v] W fun e w' => e = .returned (.bool (decide (l = m))) ∧ ∃ q os, w' = grow (W.drewN q) os := by
  have h := cat1_eq u v _ W (cmp_walk hu hv hs hs' hl hm hg)
  have e : decide (Lib.compareBytes (tx l).data.toList (tx m).data.toList = 0) = decide (l = m) := decide_eq_decide.2 ⟨fun h => tx_inj (bx_ext (cmp_zero h)), fun h => by rw [h]; exact cmp_self _⟩
  rw [e] at h
  exact h

/-! ### The walk -/
theorem AllBut.refl (b : Nat) (w : World) : AllBut b w w := ⟨rfl, rfl, rfl, Nat.le_refl _, fun _ _ _ => rfl⟩
theorem AllBut.grown {b : Nat} {w wr : World} (h : AllBut b w wr) (m : Nat) (os : Array Obj) : AllBut b w (grow (wr.drewN m) os) := by
  have hb := below_grow wr m os
  exact ⟨hb.os.trans h.os, hb.tape.trans h.tape, hb.output.trans h.output, Nat.le_trans h.size hb.size, fun k hk hne => by rw [hb.block k (by have := h.size; omega)]; exact h.oth k hk hne⟩
theorem AllBut.setCell {b : Nat} {w wr : World} (h : AllBut b w wr) (j : Nat) (v : Value) : AllBut b w (wr.setCell ⟨b, j, none⟩ v) :=
  ⟨h.os, h.tape, h.output, by rw [setCell_size]; exact h.size, fun k hk hne => (Below.heap_setCell _ _ _ _ hne).trans (h.oth k hk hne)⟩
theorem blk_grown {wr : World} {b : Nat} {o : Obj} (h : wr.heap[b]? = some o) (m : Nat) (os : Array Obj) : (grow (wr.drewN m) os).heap[b]? = some o := by
  rw [(below_grow wr m os).block b (block_lt h)]; exact h
/-- The block holds the first n of cur's cells in the order dk. -/
def Laid (wr : World) (b : Nat) (e : TypeId) (cur : Array Value) (n : Nat) (dk : Nat → Nat) : Prop := ∃ cur' : Array Value, wr.heap[b]? = some (.cells cur' e (0, 0)) ∧ cur'.size = cur.size ∧ ∀ j, j < n → cur'[j]? = some (cur[dk j]!)
theorem Laid.grown {wr : World} {b : Nat} {e : TypeId} {cur : Array Value} {n : Nat} {dk : Nat → Nat} (h : Laid wr b e cur n dk) (m : Nat) (os : Array Obj) : Laid (grow (wr.drewN m) os) b e cur n dk := by
  obtain ⟨cur', h1, h2⟩ := h
  exact ⟨cur', blk_grown h1 m os, h2⟩
theorem Laid.cell {wr : World} {b : Nat} {e : TypeId} {cur : Array Value} {n : Nat} {dk : Nat → Nat} (h : Laid wr b e cur n dk) {j : Nat} (hj : j < n) : wr.cell? ⟨b, j, none⟩ = some (cur[dk j]!) := by
  obtain ⟨cur', h1, h2, h3⟩ := h
  exact cell_of_blk h1 (h3 j hj)
theorem Laid.frozen {wr : World} {b : Nat} {e : TypeId} {cur : Array Value} {n : Nat} {dk : Nat → Nat} (h : Laid wr b e cur n dk) (j : Nat) : wr.frozen? ⟨b, j, none⟩ = false := by
  obtain ⟨cur', h1, h2, h3⟩ := h
  simp [World.frozen?, h1]
theorem Laid.set {wr : World} {b : Nat} {e : TypeId} {cur : Array Value} {n : Nat} {dk : Nat → Nat} (h : Laid wr b e cur n dk) (hn : n ≤ cur.size) {k m : Nat} (hk : k < n) : Laid (wr.setCell ⟨b, k, none⟩ (cur[m]!)) b e cur n (fun j => if j = k then m else dk j) := by
  obtain ⟨cur', h1, h2, h3⟩ := h
  refine ⟨_, setCell_at h1, by simpa using h2, fun j hj => ?_⟩
  by_cases e2 : j = k
  · subst e2; show _ = some (cur[if j = j then m else dk j]!); rw [if_pos rfl]; simp [show j < cur'.size by omega]
  · show _ = some (cur[if j = k then m else dk j]!)
    rw [if_neg e2, Array.getElem?_setIfInBounds_ne (fun h => e2 h.symm)]; exact h3 j hj

set_option maxHeartbeats 8000000 in
set_option maxRecDepth 1000000 in
theorem compact_walk (M : List (List T3)) (w : World) (b c : Nat) (cur : Array Value) (e : TypeId) (hcur : w.heap[b]? = some (.cells cur e (0, 0))) (hn : M.length ≤ cur.size) (hc : M.length ≤ c) (hM : M.length ≤ 1099511627776)
    (hcat : ∀ wr, AllBut b w wr → ∀ i j, i < M.length → j < M.length → Calls Tryd.prog 89 #[cur[i]!, cur[j]!] wr fun e w' => e = .returned (.bool (decide (tsAt M i = tsAt M j))) ∧ ∃ q os, w' = grow (wr.drewN q) os)
    (hone : ∀ j, j < M.length → ∃ A m c', cur[j]! = .slice A m c') :
    Calls Tryd.prog 88 #[.slice (some ⟨b, 0, none⟩) M.length c, .func (.func 89) #[] #[]] w fun e' w' =>
      e' = .returned (.slice (some ⟨b, 0, none⟩) (kL M M.length).length c) ∧ AllBut b w w' ∧ Laid w' b e cur (kL M M.length).length (fun j => (kL M M.length).getD j 0) := by
  have mixed : Tryd.prog.follows .mixedOrders = true := rfl
  have ci : ∀ args w, (callFunc 89 args).run Tryd.prog w = .ok (.enter 89 args) w := Tryd.call89
  have start : Laid w b e cur M.length id := ⟨cur, hcur, rfl, fun j hj => by
    show cur[j]? = some (cur[j]!)
    rw [getElem!_pos cur j (by omega), Array.getElem?_eq_getElem (by omega)]⟩
  have allK : (∀ j, j < M.length → kp M j = true) → ∀ wr, Laid wr b e cur M.length id → (kL M M.length).length = M.length ∧ Laid wr b e cur (kL M M.length).length (fun j => (kL M M.length).getD j 0) := fun h wr hl => by
    have e1 := kL_all h
    have e2 : (kL M M.length).length = M.length := by rw [e1]; simp
    refine ⟨e2, ?_⟩
    rw [e2]
    obtain ⟨cur', h1, h2, h3⟩ := hl
    refine ⟨cur', h1, h2, fun j hj => ?_⟩
    rw [h3 j hj, e1]
    simp [List.getD, hj]
  have F : Aside ((∀ wr, AllBut b w wr → ∀ i j, i < M.length → j < M.length → Calls Tryd.prog 89 #[cur[i]!, cur[j]!] wr fun e w' => e = .returned (.bool (decide (tsAt M i = tsAt M j))) ∧ ∃ q os, w' = grow (wr.drewN q) os) ∧ (∀ j, j < M.length → ∃ A m c', cur[j]! = .slice A m c') ∧ M.length ≤ cur.size ∧ Laid w b e cur M.length id ∧ ((∀ j, j < M.length → kp M j = true) → ∀ wr, Laid wr b e cur M.length id → (kL M M.length).length = M.length ∧ Laid wr b e cur (kL M M.length).length (fun j => (kL M M.length).getD j 0))) := ⟨hcat, hone, hn, start, allK⟩
  clear hcat hone start allK hcur hn
  by_cases h2 : M.length < 2
  · go_enter Tryd.func88, Tryd.ntmps88
    go_wp2
    go_ret
    obtain ⟨e1, e2⟩ := F.out.2.2.2.2 (fun j hj => decide_eq_true (.inl (by omega))) _ F.out.2.2.2.1
    exact ⟨by rw [e1]; rfl, AllBut.refl _ _, e2⟩
  · go_enter Tryd.func88, Tryd.ntmps88
    go_wp2
    go_loopg [5] M.length (fun g s5 wr => ∃ k : Nat, 1 ≤ k ∧ k ≤ M.length ∧ M.length - k ≤ g ∧ s5 = .int .i64 k ∧ AllBut b w wr ∧ Laid wr b e cur M.length id ∧ ∀ j, j < k → kp M j = true)
    case atStart => exact ⟨1, Nat.le_refl _, by omega, by omega, rfl, AllBut.refl _ _, F.out.2.2.2.1, fun j hj => decide_eq_true (.inl (by omega))⟩
    case round =>
      obtain ⟨k, hk1, hk, hg, rfl, hab, hla, hall⟩ := hrel
      by_cases hlt : k < M.length
      · have c1 := fun m os => (hla.grown m os).cell hlt
        have c0 := fun m os => (hla.grown m os).cell (show k - 1 < M.length by omega)
        have T := fun m os => F.out.1 (grow (wr.drewN m) os) (hab.grown m os) k (k - 1) hlt (by omega)
        have A : Aside (AllBut b w wr ∧ Laid wr b e cur M.length id ∧ ∀ j, j < k → kp M j = true) := ⟨hab, hla, hall⟩
        clear hab hla hall
        simp only [id] at c1 c0
        have hw : IntKind.i64.wrap ((k : Int) - 1) = ((k - 1 : Nat) : Int) := by
          have : IntKind.i64.wrap ((k : Int) - 1) = (k : Int) - 1 := by simp [IntKind.wrap, IntKind.bits, IntKind.signed]; omega
          omega
        have hkm : k - 1 < M.length := by omega
        by_cases hdup : tsAt M k = tsAt M (k - 1)
        · rw [decide_eq_true hdup] at T
          have B : Aside (kp M k = false) := decide_eq_false (fun h => by rcases h with h | h; omega; exact h hdup.symm)
          clear hdup
          generalize cur[k]! = x at *
          generalize cur[k - 1]! = y at *
          have T2 : Aside (∀ m os, Calls Tryd.prog 89 #[x, y] (grow (wr.drewN m) os) fun e w' => e = .returned (.bool true) ∧ ∃ q os', w' = grow ((grow (wr.drewN m) os).drewN q) os') := T
          clear T
          go_wp2_with fail
          go_quiet_grown (first | (go_at_call 89; refine Calls.grown_of (T2.out _ _)))
          go_wp2
          clear c1 c0 hw hkm
          go_loopg [5, 7] M.length (fun g s5 s7 wr => ∃ (kk k2 : Nat) (dk : Nat → Nat), s5 = .int .i64 kk ∧ s7 = .int .i64 k2 ∧ 1 ≤ k2 ∧ k + k2 ≤ M.length ∧ M.length - (k + k2) ≤ g ∧ AllBut b w wr ∧ Laid wr b e cur M.length dk ∧ CoInv M (k + k2) kk dk)
          case atStart => exact ⟨k, 1, id, rfl, rfl, Nat.le_refl _, by omega, by omega, A.out.1.grown _ _, A.out.2.1.grown _ _, CoInv.start A.out.2.2 B.out⟩
          case round =>
            obtain ⟨kk, k2, dk, rfl, rfl, h1, hle, hg2, hab, hla, hI⟩ := hrel
            have hkk := hI.lt
            by_cases hlt2 : k + k2 < M.length
            · have cm := fun m os => (hla.grown m os).cell hlt2
              have cp := fun m os => (hla.grown m os).cell (show k + (k2 - 1) < M.length by omega)
              have ck := fun m os => (hla.grown m os).cell (show kk < M.length by omega)
              have fk := fun m os => (hla.grown m os).frozen kk
              simp only [hI.high (k + k2) (by omega)] at cm
              simp only [hI.high (k + (k2 - 1)) (by omega)] at cp
              have ox := F.out.2.1 (k + k2) hlt2
              have T := fun m os => F.out.1 (grow (wr.drewN m) os) (hab.grown m os) (k + k2) (k + (k2 - 1)) hlt2 (by omega)
              have A2 : Aside (AllBut b w wr ∧ Laid wr b e cur M.length dk ∧ CoInv M (k + k2) kk dk) := ⟨hab, hla, hI⟩
              clear hab hla hI
              have hw : IntKind.i64.wrap ((k2 : Int) - 1) = ((k2 - 1 : Nat) : Int) := by
                have : IntKind.i64.wrap ((k2 : Int) - 1) = (k2 : Int) - 1 := by simp [IntKind.wrap, IntKind.bits, IntKind.signed]; omega
                omega
              have hb1 : k2 < M.length - k := by omega
              have hb2 : k2 - 1 < M.length - k := by omega
              have hb3 : kk < M.length := by omega
              generalize cur[dk kk]! = old at ck
              by_cases hdup2 : tsAt M (k + k2) = tsAt M (k + (k2 - 1))
              · rw [decide_eq_true hdup2] at T
                have B2 : Aside (kp M (k + k2) = false) := decide_eq_false (fun h => by
                  rcases h with h | h
                  · omega
                  · exact h (by rw [show k + k2 - 1 = k + (k2 - 1) by omega]; exact hdup2.symm))
                clear hdup2
                generalize cur[k + k2]! = x at *
                generalize cur[k + (k2 - 1)]! = y at *
                have T2 : Aside (∀ m os, Calls Tryd.prog 89 #[x, y] (grow (wr.drewN m) os) fun e w' => e = .returned (.bool true) ∧ ∃ q os', w' = grow ((grow (wr.drewN m) os).drewN q) os') := T
                clear T
                go_wp2_with fail
                go_quiet_grown (first | (go_at_call 89; refine Calls.grown_of (T2.out _ _)))
                go_wp2
                go_roundg (M.length - (k + (k2 + 1)))
                case measure => omega
                case rel => exact ⟨kk, k2 + 1, dk, rfl, by congr 1, by omega, by omega, Nat.le_refl _, A2.out.1.grown _ _, A2.out.2.1.grown _ _, A2.out.2.2.skip B2.out⟩
              · rw [decide_eq_false hdup2] at T
                have B2 : Aside (kp M (k + k2) = true) := decide_eq_true (.inr fun h => hdup2 (by rw [show k + (k2 - 1) = k + k2 - 1 by omega]; exact h.symm))
                clear hdup2
                obtain ⟨xa, xm, xc, hx⟩ := ox
                rw [hx] at T
                simp only [hx] at cm
                have X : Aside (cur[k + k2]! = .slice xa xm xc) := hx
                clear hx
                generalize cur[k + (k2 - 1)]! = y at *
                have T2 : Aside (∀ m os, Calls Tryd.prog 89 #[.slice xa xm xc, y] (grow (wr.drewN m) os) fun e w' => e = .returned (.bool false) ∧ ∃ q os', w' = grow ((grow (wr.drewN m) os).drewN q) os') := T
                clear T
                go_wp2_with fail
                go_quiet_grown (first | (go_at_call 89; refine Calls.grown_of (T2.out _ _)))
                go_wp2
                go_roundg (M.length - (k + (k2 + 1)))
                case measure => omega
                case rel =>
                  refine ⟨kk + 1, k2 + 1, fun j => if j = kk then k + k2 else dk j, by congr 1, by congr 1, by omega, by omega, Nat.le_refl _, (A2.out.1.grown _ _).setCell _ _, ?_, A2.out.2.2.keep B2.out⟩
                  rw [← X.out]
                  exact (A2.out.2.1.grown _ _).set F.out.2.2.1 (by omega)
            · have hend : k + k2 = M.length := by omega
              have hcl : ∀ ty, (Builtin.clear_ #[26] ty #[.slice (some ⟨b, kk, none⟩) (M.length - kk) (c - kk)]).run Tryd.prog wr = .ok (.tuple #[]) (wr.setCells b kk (List.replicate (M.length - kk) (.slice none 0 0))) :=
                fun ty => Lib.run_clear_slice wr _ _ ty _ Tryd.underlying26 Tryd.zeroValue37 rfl rfl b kk _ _ (by omega) (fun j hj => by rw [hla.cell (show kk + j < M.length by omega)]; rfl) (fun j hj => hla.frozen _)
              have A2 : Aside (AllBut b w wr ∧ Laid wr b e cur M.length dk ∧ CoInv M (k + k2) kk dk) := ⟨hab, hla, hI⟩
              clear hab hla hI
              have hb3 : kk ≤ M.length := by omega
              have hb4 : kk ≤ c := by omega
              go_wp2
              go_ret
              obtain ⟨hab, hla, hI⟩ := A2.out
              rw [hend] at hI
              obtain ⟨cur', q1, q2, q3⟩ := hla
              obtain ⟨cur2, r1, r2, r3, _, r5, r6, r7, r8, r9⟩ := setCells_at (List.replicate (M.length - kk) (.slice none 0 0)) wr b kk cur' e (0, 0) q1
              refine ⟨by rw [hI.len]; rfl, ⟨r5.trans hab.os, r6.trans hab.tape, r7.trans hab.output, by rw [r8]; exact hab.size, fun i hi hne => (r9 i hne).trans (hab.oth i hi hne)⟩, cur2, r1, by rw [r2, q2], fun j hj => ?_⟩
              rw [hI.len] at hj
              rw [r3 j (.inl hj), q3 j (by omega)]
              have := hI.low j hj
              simp [List.getD, this]
        · rw [decide_eq_false hdup] at T
          have B : Aside (kp M k = true) := decide_eq_true (.inr fun h => hdup h.symm)
          clear hdup
          generalize cur[k]! = x at *
          generalize cur[k - 1]! = y at *
          have T2 : Aside (∀ m os, Calls Tryd.prog 89 #[x, y] (grow (wr.drewN m) os) fun e w' => e = .returned (.bool false) ∧ ∃ q os', w' = grow ((grow (wr.drewN m) os).drewN q) os') := T
          clear T
          go_wp2_with fail
          go_quiet_grown (first | (go_at_call 89; refine Calls.grown_of (T2.out _ _)))
          go_wp2
          go_roundg (M.length - (k + 1))
          case measure => omega
          case rel =>
            refine ⟨k + 1, by omega, by omega, Nat.le_refl _, by congr 1, A.out.1.grown _ _, A.out.2.1.grown _ _, fun j hj => ?_⟩
            by_cases e2 : j = k
            · subst e2; exact B.out
            · exact A.out.2.2 j (by omega)
      · have e0 : k = M.length := by omega
        have A : Aside (AllBut b w wr ∧ Laid wr b e cur M.length id ∧ ∀ j, j < k → kp M j = true) := ⟨hab, hla, hall⟩
        clear hab hla hall
        go_wp2
        go_ret
        subst e0
        obtain ⟨e1, e2⟩ := F.out.2.2.2.2 A.out.2.2 _ A.out.2.1
        exact ⟨by rw [e1]; rfl, A.out.1, e2⟩
end Go.Proofs.YtpimjkhfookipaaDoor
