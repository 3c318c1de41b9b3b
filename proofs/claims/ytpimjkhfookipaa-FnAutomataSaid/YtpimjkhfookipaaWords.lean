/- The function that visits all words of a length in order. No conditions. -/
import Derived.Test.YtpimjkhfookipaaEngH
import Derived.Test.YtpimjkhfookipaaTy
import Derived.WalkKit
import Derived.Deep.LoopGhost
import Derived.Lib.Walk
import Derived.Laws.Runes
namespace Go.Proofs.Ytpimjkhfookipaa
open Go.RowKit Go.Proofs
set_option linter.unusedSimpArgs false
set_option linter.unusedVariables false

abbrev mkB (l : List UInt8) : ByteArray := ⟨l.toArray⟩
def letter (c : Nat) : UInt8 := UInt8.ofNat (97 + c)
/-- All words of a length over k letters, in order. -/
def wordsL (k : Nat) : Nat → List (List UInt8)
  | 0 => [[]]
  | r + 1 => ((List.range k).map fun c => (wordsL k r).map (letter c :: ·)).flatten
/-- Those that begin with one of the first i letters. -/
def wordsTo (k r i : Nat) : List (List UInt8) := ((List.range i).map fun c => (wordsL k r).map (letter c :: ·)).flatten
theorem wordsTo_zero (k r : Nat) : wordsTo k r 0 = [] := rfl
theorem wordsTo_succ (k r i : Nat) : wordsTo k r (i + 1) = wordsTo k r i ++ (wordsL k r).map (letter i :: ·) := by
  unfold wordsTo; rw [List.range_succ, List.map_append, List.flatten_append]; simp
theorem wordsTo_all (k r : Nat) : wordsTo k r k = wordsL k (r + 1) := rfl

def okL (k : Nat) (x : List UInt8) : Prop := ∀ c ∈ x, ∃ i, i < k ∧ c = letter i
theorem okL_snoc {k : Nat} {x : List UInt8} {i : Nat} (h : okL k x) (hi : i < k) : okL k (x ++ [letter i]) := fun c hc => by
  rcases List.mem_append.1 hc with h1 | h1
  · exact h c h1
  · exact ⟨i, hi, by simpa using h1⟩

abbrev ptB (b : Nat) : Value := .pointer (some ⟨b, 0, none⟩)

/-- What lies in memory while words are visited. -/
structure WFr (nf : FuncId) (b4 b5 b3 b6 : Nat) (len k : Nat) (vf : FuncId) (c1 c2 c3 : Value) (A : Option Addr) (c : Nat) (w : World) : Prop where
  h4 : w.cell? ⟨b4, 0, none⟩ = some (.int .i64 len)
  h5 : w.cell? ⟨b5, 0, none⟩ = some (.func (.func vf) #[] #[c1, c2, c3])
  h3 : w.cell? ⟨b3, 2, none⟩ = some (.slice A k c)
  h6 : w.cell? ⟨b6, 0, none⟩ = some (.func (.func nf) #[] #[ptB b4, ptB b5, ptB b3, ptB b6])

set_option maxHeartbeats 1000000 in
set_option maxRecDepth 100000 in
theorem words1_run (nf : FuncId) (hnf : nf = 198) (b4 b5 b3 b6 : Nat) (len k : Nat) (vf : FuncId) (c1 c2 c3 : Value) (A : Option Addr) (c : Nat) (hlen : len ≤ 6) (hk : k ≤ 3) (hcall : ∀ (args : Array Value) (w : World), (callFunc vf args).run Try.prog w = .ok (.enter vf args) w)
    (J : List (List UInt8) → World → Prop) (hF : ∀ l w, J l w → WFr nf b4 b5 b3 b6 len k vf c1 c2 c3 A c w)
    (hv : ∀ l x w, J l w → x.length = len → okL k x → Calls Try.prog vf #[.string (mkB x), c1, c2, c3] w fun e w' => e = .returned (.tuple #[]) ∧ J (l ++ [x]) w') :
    ∀ (r : Nat) (p : List UInt8) (l : List (List UInt8)) (w : World), p.length + r = len → okL k p → J l w →
      Calls Try.prog 198 #[.string (mkB p), ptB b4, ptB b5, ptB b3, ptB b6] w fun e w' => e = .returned (.tuple #[]) ∧ J (l ++ (wordsL k r).map (p ++ ·)) w' := by
  intro r
  induction r with
  | zero =>
    intro p l w hp hok hJ
    subst hnf
    obtain ⟨h4, h5, h3, h6⟩ := hF l w hJ
    have hlp : ((mkB p).data.toList.length : Int) = len := by show (p.length : Int) = len; omega
    have hsz : (mkB p).size = len := by show p.length = len; omega
    have B : Aside (J l w ∧ p.length = len ∧ okL k p) := ⟨hJ, by omega, hok⟩
    have hv' := hv l p w hJ (by omega) hok
    clear hJ hok hv hF hp
    go_enter Try.func198, Try.ntmps198
    go_wp2_with fail
    refine hv'.mono ?_
    rintro e w' ⟨rfl, hJ'⟩
    clear hv'
    go_wp2
    (try simp only [Exit.inBlock, Exit.then])
    refine bodyPost_ret (results_none rfl _ _ _) rfl ?_
    have e : (wordsL k 0).map (p ++ ·) = [p] := by simp [wordsL]
    rw [e]
    exact ⟨rfl, hJ'⟩
  | succ r ih =>
    intro p l w hp hok hJ
    obtain ⟨h4, h5, h3, h6⟩ := hF l w hJ
    have hlp : ¬ (p.length : Int) = len := by omega
    have hbq : ((p.length : Int) == (len : Int)) = false := by simpa using hlp
    have B : Aside (J l w ∧ p.length + (r + 1) = len ∧ okL k p ∧ (∀ l w, J l w → WFr nf b4 b5 b3 b6 len k vf c1 c2 c3 A c w) ∧ (∀ (p : List UInt8) (l : List (List UInt8)) (w : World), p.length + r = len → okL k p → J l w →
      Calls Try.prog 198 #[.string (mkB p), ptB b4, ptB b5, ptB b3, ptB b6] w fun e w' => e = .returned (.tuple #[]) ∧ J (l ++ (wordsL k r).map (p ++ ·)) w')) := ⟨hJ, hp, hok, hF, ih⟩
    clear hJ hok hv hF hp ih
    have hcn : ∀ (args : Array Value) (w : World), (callFunc nf args).run Try.prog w = .ok (.enter nf args) w := by rw [hnf]; exact Try.call198
    have H : Aside (nf = 198) := hnf
    clear hnf
    go_enter Try.func198, Try.ntmps198
    go_wp2
    go_loopg [17] k (fun g s17 wr => ∃ i : Nat, s17 = .int .i64 i ∧ g + i = k ∧ J (l ++ (wordsTo k r i).map (p ++ ·)) wr)
    case atStart => exact ⟨0, rfl, by omega, by rw [wordsTo_zero]; simpa using B.out.1⟩
    case round =>
      obtain ⟨i, rfl, hgi, hJ⟩ := hrel
      obtain ⟨hJ0, hp, hok, hF, ih⟩ := B.out
      by_cases hlt : (i : Int) < k
      · obtain ⟨g4, g5, g3, g6⟩ := hF _ _ hJ
        have hcon := ih (p ++ [letter i]) _ wr (by simp; omega) (okL_snoc hok (by omega)) hJ
        have henc : Utf8.encode (97 + (i : Int)) = mkB [letter i] := by
          rcases (show i = 0 ∨ i = 1 ∨ i = 2 by omega) with rfl | rfl | rfl <;> rfl
        have hw32 : IntKind.i32.wrap (97 + (i : Int)) = 97 + i := by
          rcases (show i = 0 ∨ i = 1 ∨ i = 2 by omega) with rfl | rfl | rfl <;> rfl
        have happ : mkB p ++ mkB [letter i] = mkB (p ++ [letter i]) := by
          apply ByteArray.ext; simp
        have C : Aside (gk + i = k ∧ (k : Int) ≤ 3 ∧ Utf8.encode (97 + (i : Int)) = mkB [letter i] ∧ IntKind.i32.wrap (97 + (i : Int)) = 97 + i ∧ mkB p ++ mkB [letter i] = mkB (p ++ [letter i])) := ⟨hgi, by omega, henc, hw32, happ⟩
        have hi3 : (i : Int) < 3 := by omega
        have hp6 : p.length ≤ 6 := by omega
        have hes : p.length + (Utf8.encode (97 + (i : Int))).size ≤ 9223372036854775807 := by rw [henc]; show p.length + 1 ≤ _; omega
        have hw64 : IntKind.i64.wrap (97 + (i : Int)) = 97 + i := by
          rcases (show i = 0 ∨ i = 1 ∨ i = 2 by omega) with rfl | rfl | rfl <;> rfl
        have C2 : Aside (Calls Try.prog nf #[.string (mkB (p ++ [letter i])), ptB b4, ptB b5, ptB b3, ptB b6] wr fun e w' => e = .returned (.tuple #[]) ∧ J (l ++ (wordsTo k r i).map (p ++ ·) ++ (wordsL k r).map ((p ++ [letter i]) ++ ·)) w') := by rw [H.out]; exact hcon
        clear hgi hJ hJ0 hp hok hF ih happ hlp henc hcon
        go_wp2_with fail
        obtain ⟨hgi, hk3, henc, hw32', happ⟩ := C.out
        rw [henc, happ]
        refine C2.out.mono ?_
        rintro e w' ⟨rfl, hJ'⟩
        have D : Aside (J (l ++ (wordsTo k r i).map (p ++ ·) ++ (wordsL k r).map ((p ++ [letter i]) ++ ·)) w') := hJ'
        clear hJ' hgi hk3 henc hw32' happ
        go_wp2
        go_roundg (k - (i + 1))
        case measure => obtain ⟨hgi, _⟩ := C.out; omega
        case rel =>
          obtain ⟨hgi, _⟩ := C.out
          refine ⟨i + 1, rfl, by omega, ?_⟩
          have e1 : (l ++ (wordsTo k r (i + 1)).map (p ++ ·)) = l ++ (wordsTo k r i).map (p ++ ·) ++ (wordsL k r).map ((p ++ [letter i]) ++ ·) := by
            rw [wordsTo_succ, List.map_append, List.map_map, ← List.append_assoc]
            congr 1
            apply List.map_congr_left
            intro x _
            simp
          rw [e1]; exact D.out
      · have E : Aside (gk + i = k ∧ J (l ++ (wordsTo k r i).map (p ++ ·)) wr) := ⟨hgi, hJ⟩
        clear hgi hJ hJ0 hp hok hF ih hlp
        go_wp2
        go_end0
        obtain ⟨hgi, hJ⟩ := E.out
        obtain rfl : i = k := by omega
        exact ⟨rfl, hJ⟩

/-- A store into the last new block of one cell. -/
theorem store_fresh {P : Program} (W : World) (v x : Value) (t : TypeId) (hv : v.oneCell' = true) : ∃ W4, (store ⟨W.heap.size, 0, none⟩ v).run P (W.alloc (.cells #[x] t)) = .ok () W4 ∧ Below W.heap.size W W4 ∧ W4.heap[W.heap.size]? = some (.cells #[v] t (0, 0)) ∧ W4.heap.size = W.heap.size + 1 := by
  have e : (W.alloc (.cells #[x] t)).heap[W.heap.size]? = some (.cells #[x] t (0, 0)) := by
    show (W.heap.push _)[W.heap.size]? = _
    simp
  have hc : (W.alloc (.cells #[x] t)).cell? ⟨W.heap.size, 0, none⟩ = some x := cell_of_blk e rfl
  have hf : (W.alloc (.cells #[x] t)).frozen? ⟨W.heap.size, 0, none⟩ = false := by unfold World.frozen?; rw [e]; rfl
  refine ⟨(W.alloc (.cells #[x] t)).setCell ⟨W.heap.size, 0, none⟩ v, ?_, ((Below.refl _ _).alloc (Nat.le_refl _) _).setCell (Nat.le_refl _) v, ?_, ?_⟩
  · rw [run_store P _ _ _ _ hv, hc]
    simp only [hf, Bool.false_eq_true, if_false]
  · rw [setCell_at e]; rfl
  · rw [setCell_size]; show (W.heap.push _).size = _; simp

/-- Four blocks from B on are as they were. -/
def Four (B : Nat) (W W' : World) : Prop := ∀ b, B ≤ b → b < B + 4 → W'.heap[b]? = W.heap[b]?

set_option maxHeartbeats 1000000 in
set_option maxRecDepth 100000 in
theorem words_run (len k : Nat) (vf : FuncId) (c1 c2 c3 x0 x1 : Value) (A : Option Addr) (c : Nat) (hlen : len ≤ 6) (hk : k ≤ 3) (hcall : ∀ (args : Array Value) (w : World), (callFunc vf args).run Try.prog w = .ok (.enter vf args) w)
    (w : World) (J : List (List UInt8) → World → Prop) (hJ0 : ∀ W, Below w.heap.size w W → w.heap.size + 4 ≤ W.heap.size → J [] W)
    (hv : ∀ l x W, J l W → x.length = len → okL k x → Calls Try.prog vf #[.string (mkB x), c1, c2, c3] W fun e w' => e = .returned (.tuple #[]) ∧ J (l ++ [x]) w' ∧ Four w.heap.size W w') :
    Calls Try.prog 112 #[.agg #[x0, x1, .slice A k c], .int .i64 len, .func (.func vf) #[] #[c1, c2, c3]] w fun e w' => e = .returned (.tuple #[]) ∧ J (wordsL k len) w' := by
  have H : Aside ((∀ (args : Array Value) (w : World), (callFunc vf args).run Try.prog w = .ok (.enter vf args) w) ∧ (∀ W, Below w.heap.size w W → w.heap.size + 4 ≤ W.heap.size → J [] W) ∧ (∀ l x W, J l W → x.length = len → okL k x → Calls Try.prog vf #[.string (mkB x), c1, c2, c3] W fun e w' => e = .returned (.tuple #[]) ∧ J (l ++ [x]) w' ∧ Four w.heap.size W w')) := ⟨hcall, hJ0, hv⟩
  clear hcall hJ0 hv
  go_enter Try.func112, Try.ntmps112
  go_wp2_with fail
  obtain ⟨W3, hW3⟩ : ∃ W3, W3 = (((w.alloc (Obj.cells #[x0, x1, Value.slice A k c] 37)).alloc (Obj.cells #[Value.int IntKind.i64 len] 3)).alloc (Obj.cells #[Value.func (Fn.func vf) #[] #[c1, c2, c3]] 127)) := ⟨_, rfl⟩
  have e3 : W3.heap.size = w.heap.size + 1 + 1 + 1 := by rw [hW3]; simp
  rw [← hW3, ← e3]
  have K : Aside (W3 = (((w.alloc (Obj.cells #[x0, x1, Value.slice A k c] 37)).alloc (Obj.cells #[Value.int IntKind.i64 len] 3)).alloc (Obj.cells #[Value.func (Fn.func vf) #[] #[c1, c2, c3]] 127)) ∧ W3.heap.size = w.heap.size + 1 + 1 + 1) := ⟨hW3, e3⟩
  clear hW3 e3
  obtain ⟨W4, hst, hb4, hc4, hs4⟩ := store_fresh (P := Try.prog) W3 (Value.func (Fn.func 198) #[] #[ptB (w.heap.size + 1), ptB (w.heap.size + 1 + 1), ptB w.heap.size, ptB W3.heap.size]) Value.nilFunc 127 rfl
  rw [hst]
  have L : Aside (Below W3.heap.size W3 W4 ∧ W4.heap.size = W3.heap.size + 1) := ⟨hb4, hs4⟩
  have hc6 : W4.cell? ⟨W3.heap.size, 0, none⟩ = some (Value.func (Fn.func 198) #[] #[ptB (w.heap.size + 1), ptB (w.heap.size + 1 + 1), ptB w.heap.size, ptB W3.heap.size]) := cell_of_blk hc4 rfl
  clear hst hb4 hs4 hc4
  go_wp2_with fail
  obtain ⟨hcall, hJ0, hv⟩ := H.out
  obtain ⟨hW3, e3⟩ := K.out
  obtain ⟨hb4, hs4⟩ := L.out
  have g0 : W3.heap[w.heap.size]? = some (.cells #[x0, x1, .slice A k c] 37 (0, 0)) := by
    rw [hW3]; show (((w.heap.push _).push _).push _)[w.heap.size]? = _
    rw [Array.getElem?_push, if_neg (by simp; omega), Array.getElem?_push, if_neg (by simp), Array.getElem?_push, if_pos rfl]
  have g1 : W3.heap[w.heap.size + 1]? = some (.cells #[.int .i64 len] 3 (0, 0)) := by
    rw [hW3]; show (((w.heap.push _).push _).push _)[w.heap.size + 1]? = _
    rw [Array.getElem?_push, if_neg (by simp), Array.getElem?_push, if_pos (by simp)]
  have g2 : W3.heap[w.heap.size + 1 + 1]? = some (.cells #[.func (.func vf) #[] #[c1, c2, c3]] 127 (0, 0)) := by
    rw [hW3]; show (((w.heap.push _).push _).push _)[w.heap.size + 1 + 1]? = _
    rw [Array.getElem?_push, if_pos (by simp)]
  have hbel : Below w.heap.size w W3 := by
    rw [hW3]; exact (((Below.refl _ w).alloc (Nat.le_refl _) _).alloc (by simp) _).alloc (by simp; omega) _
  have q0 := hb4.block w.heap.size (by omega)
  have q1 := hb4.block (w.heap.size + 1) (by omega)
  have q2 := hb4.block (w.heap.size + 1 + 1) (by omega)
  have hF : WFr 198 (w.heap.size + 1) (w.heap.size + 1 + 1) w.heap.size W3.heap.size len k vf c1 c2 c3 A c W4 :=
    ⟨cell_of_blk (q1.trans g1) rfl, cell_of_blk (q2.trans g2) rfl, cell_of_blk (q0.trans g0) rfl, hc6⟩
  have hrun := words1_run 198 rfl (w.heap.size + 1) (w.heap.size + 1 + 1) w.heap.size W3.heap.size len k vf c1 c2 c3 A c hlen hk hcall
    (fun l W => J l W ∧ WFr 198 (w.heap.size + 1) (w.heap.size + 1 + 1) w.heap.size W3.heap.size len k vf c1 c2 c3 A c W) (fun l W h => h.2)
    (fun l x W h hx hok => (hv l x W h.1 hx hok).mono fun e w' ⟨h1, h2, h3⟩ => ⟨h1, h2, by
      have cc : ∀ b i, w.heap.size ≤ b → b < w.heap.size + 4 → w'.cell? ⟨b, i, none⟩ = W.cell? ⟨b, i, none⟩ := fun b i hb1 hb2 => World.cell?_of_block (w := W) (a := ⟨b, i, none⟩) (h3 b hb1 hb2)
      exact ⟨by rw [cc _ _ (by omega) (by omega)]; exact h.2.h4, by rw [cc _ _ (by omega) (by omega)]; exact h.2.h5, by rw [cc _ _ (by omega) (by omega)]; exact h.2.h3, by rw [cc _ _ (by omega) (by omega)]; exact h.2.h6⟩⟩)
    len [] [] W4 (by simp) (fun c hc => by simp at hc) ⟨hJ0 W4 (hbel.trans (hb4.mono (by omega))) (by omega), hF⟩
  refine hrun.mono ?_
  rintro e w' ⟨rfl, hJ, _⟩
  have D : Aside (J ([] ++ (wordsL k len).map ([] ++ ·)) w') := hJ
  clear hrun hF hJ hbel q0 q1 q2 g0 g1 g2 hb4 hs4 hW3 e3 hcall hJ0 hv
  go_wp2
  go_end0
  have := D.out
  simp only [List.nil_append, List.map_id'] at this
  exact ⟨rfl, this⟩

end Go.Proofs.Ytpimjkhfookipaa
