/- slices.Reverse over bytes; a string's bytes in a slice of their own, in the opposite order. No conditions. -/
import Derived.Test.YtjcoklapbpbheaaEngI
import Derived.Test.YtjcoklapbpbheaaTy
import Derived.Shelf.SlicesE.Kit
import Derived.Shelf.RegionOpenPlain
import Derived.WalkKit
import Derived.Deep.LoopGhost
import Derived.Lib.Walk
import Derived.Lib.ConvBytes
import Derived.Sort.WalkB12
import Derived.Lib.SlicesMore
import Derived.Laws.AppendOwn
import Derived.Lib.AtoiErrMem
import Derived.Laws.BytesString
namespace Go.Proofs.Ytjcoklapbpbheaa
open Go.RowKit Go.Proofs Go.Lib Go.Sort
set_option linter.unusedSimpArgs false

set_option maxHeartbeats 1600000 in
set_option maxRecDepth 1000000 in
theorem revBytes_arr {α : Type} [Inhabited α] (enc : α → Value) (h1 : OneCell enc) (blk off cap : Nat) (d : Array α) (w : World) (hH : Holds enc w blk off d) (hsz : d.size ≤ 9223372036854775807) :
    Calls Try.prog 87 #[.slice (some ⟨blk, off, none⟩) d.size cap] w fun e w' => e = .returned (.tuple #[]) ∧ ∃ n, w' = putRow enc (Sort.ahead w n) blk off d.reverse := by
  have hcl := h1.cells
  simp only [Value.cells] at hcl
  have hst := h1.store Try.prog
  go_enter Try.func87, Try.ntmps87
  go_wp2
  go_loopg [2, 3] d.size (fun k s2 s3 wr => ∃ (i jn : Nat) (jz : Int) (dk : Array α) (n : Nat), s2 = .int .i64 i ∧ s3 = .int .i64 jz ∧ ((i : Int) < jz → jz = jn ∧ jn < d.size) ∧ (¬ (i : Int) < jz → ¬ i < jn) ∧ jn - i ≤ k ∧
    dk.size = d.size ∧ wr = putRow enc (Sort.ahead w n) blk off dk ∧ reverseLoop i jn dk = reverseLoop 0 (d.size - 1) d)
  case atStart => exact ⟨0, d.size - 1, (d.size : Int) - 1, d, 0, rfl, rfl, fun h => ⟨by omega, by omega⟩, fun h => by omega, by omega, rfl, (putRow_self enc w blk off d hH).symm, rfl⟩
  case round =>
    obtain ⟨i, jn, jz, dk, n, rfl, rfl, h1, h2, hk, hds, hwr, heq⟩ := hrel
    by_cases hlt : (i : Int) < jz
    · obtain ⟨rfl, hjn⟩ := h1 hlt
      have hij : i < jn := by omega
      have hHk : Holds enc wr blk off dk := by rw [hwr]; exact holds_putRow enc _ blk off d dk (holds_ahead enc w n blk off d hH) hds
      obtain ⟨ci, fi⟩ := hHk i (by omega)
      obtain ⟨cj, fj⟩ := hHk jn (by omega)
      have A : Aside (wr = putRow enc (Sort.ahead w n) blk off dk) := hwr
      clear hwr hHk hH h1 h2
      go_wp2_with fail
      go_region
      go_wp2
      go_roundg (jn - 1 - (i + 1))
      case measure => omega
      case rel =>
        rw [reverseLoop, if_pos hij] at heq
        exact ⟨i + 1, jn - 1, (jn : Int) - 1, swp dk i jn, n + 1, by simp, rfl, fun h => ⟨by omega, by omega⟩, fun h => by omega, Nat.le_refl _, by rw [size_swp]; exact hds,
          swap_world enc (by omega) (by omega) A.out (by first | rfl | simp [getElem!_pos, show jn < dk.size by omega]) (by first | rfl | simp [getElem!_pos, show i < dk.size by omega]), heq⟩
    · have hnot := h2 hlt
      go_wp2
      go_end0
      refine ⟨rfl, n, ?_⟩
      rw [reverseLoop, if_neg hnot] at heq
      rw [← Lib.reverseLoop_reverse, ← heq]

theorem mapBlock_heap (w : World) (blk k : Nat) (f : Array Value → Array Value) (h : k ≠ blk) : (mapBlock w blk f).heap[k]? = w.heap[k]? := by
  simp only [mapBlock]
  rw [Array.getElem?_modify, if_neg (fun e => h e.symm)]

theorem eval_put_self {a : Act} {t : Nat} {v : Value} (h : t < a.tmps.size) : (a.put (some t) v).eval (.tmp t) = v := by simp [Act.eval, Act.put, h]
theorem eval_put_ne {a : Act} {t d : Nat} {v : Value} (h : d ≠ t) : (a.put (some d) v).eval (.tmp t) = a.eval (.tmp t) := by
  simp only [Act.eval, Act.put]; simp [Array.getElem?_setIfInBounds_ne h]
theorem tmps_put_self {a : Act} {t : Nat} {v : Value} (h : t < a.tmps.size) : (a.put (some t) v).tmps[t]? = some v := by simp [Act.put, h]
theorem tmps_put_ne {a : Act} {t d : Nat} {v : Value} (h : d ≠ t) : (a.put (some d) v).tmps[t]? = a.tmps[t]? := by simp only [Act.put]; exact Array.getElem?_setIfInBounds_ne h
theorem size_put (a : Act) (d : Nat) (v : Value) : (a.put (some d) v).tmps.size = a.tmps.size := by simp [Act.put]

theorem wp_value {P : Program} {o : Oper} {a : Act} {w w' : World} {v : Value} {next : Act → World → Prop} {Q : Exit → Act → World → Prop} (h : (execOp a.eval o).run P w = .ok (.value v) w') (hn : next (a.put o.dst v) w') : o.wp P a w next Q := by
  unfold Oper.wp; rw [h, Oper.upon_value]; exact hn

theorem SimAt.know {w0 : World} {S0 : Nat → Prop} {s : ASt} {φ : List (Option (Nat × Nat))} {a : Act} {w : World} (h : SimAt w0 S0 s φ a w) {t : Nat} {v : Slot} {u : Value} (hu : a.tmps[t]? = some u) (hr : RdSlot w (Stab w0 S0 s.h φ) φ v u) :
    SimAt w0 S0 { s with σ := upd s.σ t v } φ a w := by
  refine ⟨h.heap, fun t' v' ht => ?_, h.defers, h.size⟩
  rw [lookup_upd] at ht
  by_cases e : t' = t
  · subst e; rw [if_pos rfl] at ht; injection ht with ht; subst ht; exact ⟨u, hu, hr⟩
  · rw [if_neg e] at ht; exact h.slots t' v' ht

abbrev encB (x : UInt8) : Value := .int .u8 (x.toNat : Int)

set_option maxRecDepth 100000 in
/-- A string's bytes in a slice of their own, turned round: from then on nobody writes them. -/
theorem AWP.mirror {i1 i2 t6 t18 t19 t7 t20 t21 y1 y2 y3 y4 y5 : Nat} {p1 p2 p3 p4 p5 : String} {e1 e2 e3 e4 e5 : Array Edge} {ts : Array TypeId} {Y : Code} {Q : Exit → ASt → Prop} {s : ASt} {b : ByteArray}
    (hx : lookup s.σ t6 = some (.one (.pv (vs b)))) (hb : b.size ≤ 9223372036854775807) (h18 : t18 < s.nt) (h19 : t19 < s.nt) (h7 : t7 < s.nt) (h20 : t20 < s.nt) (n1 : t7 ≠ t20) (n2 : t7 ≠ t21)
    (h' : AWP Try.prog Y Q ⟨upd (del (del (del (del (del s.σ t18) t19) t7) t20) t21) t7 (.one (.pv (.seq 1 (lenB b) fun i => vu (byteI b (lenB b - 1 - i))))), s.h, s.nt⟩) :
    AWP Try.prog (.seq (.region i1 #[⟨some t18, .move (.tmp t6), y1, p1, e1, none⟩, ⟨some t19, .convert 9 86 (.tmp t18), y2, p2, e2, none⟩, ⟨some t7, .assign (.tmp t19), y3, p3, e3, none⟩] false)
      (.seq (.region i2 #[⟨some t20, .move (.tmp t7), y4, p4, e4, none⟩, ⟨some t21, .call ⟨.value (.func 87), #[.tmp t20], ts⟩, y5, p5, e5, none⟩] false) Y)) Q s := by
  rintro w0 S0 a w ⟨φ, sim⟩
  obtain ⟨u, hu, hr⟩ := sim.slots t6 _ hx
  obtain rfl : u = .string b := hr
  have ev6 : a.eval (.tmp t6) = .string b := by simp [Act.eval, hu]
  have hsz := sim.size
  have hcv := Lib.run_convert_string_bytes (P := Try.prog) w 9 86 5 b Try.underlying9 Try.underlying86 Try.underlying5
  have hge : b.size ≤ grownCap w b.size 0 5 := grownCap_ge _ _ _ _
  obtain ⟨cap, hcap⟩ : ∃ c, c = grownCap w b.size 0 5 := ⟨_, rfl⟩
  rw [← hcap] at hcv hge
  obtain ⟨sl, hsl⟩ : ∃ sl : Value, sl = .slice (some ⟨w.heap.size, 0, none⟩) b.size cap := ⟨_, rfl⟩
  rw [← hsl] at hcv
  obtain ⟨w1, hw1⟩ : ∃ x, x = Lib.bytesWorld w 5 b := ⟨_, rfl⟩
  rw [← hw1] at hcv
  refine wp_seq (wp_region_lit ?_)
  refine wpList_plain rfl fun K1 hK1 => wp_value (v := .string b) (w' := w) (by simp [execOp, ev6]) (hK1 _ _ ?_)
  have ev18 : (a.put (some t18) (.string b)).eval (.tmp t18) = .string b := eval_put_self (by omega)
  refine wpList_plain rfl fun K2 hK2 => wp_value (v := sl) (w' := w1) (by simp only [execOp, ev18, Sem.run_bind, hcv, Result.andThen_ok]; rfl) (hK2 _ _ ?_)
  have ev19 : ((a.put (some t18) (.string b)).put (some t19) sl).eval (.tmp t19) = sl := eval_put_self (by rw [size_put]; omega)
  refine wpList_plain rfl fun K3 hK3 => wp_value (v := sl) (w' := w1) (by simp [execOp, ev19]) (hK3 _ _ ?_)
  refine wpList_nil ?_
  refine wp_seq (wp_region_lit ?_)
  have ev7 : (((a.put (some t18) (.string b)).put (some t19) sl).put (some t7) sl).eval (.tmp t7) = sl := eval_put_self (by rw [size_put, size_put]; omega)
  refine wpList_plain rfl fun K4 hK4 => wp_value (v := sl) (w' := w1) (by simp [execOp, ev7]) (hK4 _ _ ?_)
  have ev20 : ((((a.put (some t18) (.string b)).put (some t19) sl).put (some t7) sl).put (some t20) sl).eval (.tmp t20) = sl := eval_put_self (by rw [size_put, size_put, size_put]; omega)
  refine wpList_plain rfl fun K5 hK5 => ?_
  generalize hA : ((((a.put (some t18) (.string b)).put (some t19) sl).put (some t7) sl).put (some t20) sl) = a' at ev20 ⊢
  have hrun : (execOp a'.eval ⟨some t21, .call ⟨.value (.func 87), #[.tmp t20], ts⟩, y5, p5, e5, none⟩).run Try.prog (w1) = .ok (.enter 87 #[sl]) (w1) := by
    have e : execOp a'.eval ⟨some t21, .call ⟨.value (.func 87), #[.tmp t20], ts⟩, y5, p5, e5, none⟩ = callFunc 87 (#[] ++ #[Operand.tmp t20].map a'.eval ++ #[]) := rfl
    rw [e, Try.call87]
    congr 2
    rw [← Array.toList_inj]
    simp [ev20]
  unfold Oper.wp
  rw [hrun, Oper.upon_enter, hsl, ← hA]
  clear hcv hrun
  subst hw1
  have hsd : b.data.size = b.size := rfl
  have hH : Holds encB (Lib.bytesWorld w 5 b) w.heap.size 0 b.data := fun j hj => by
    refine ⟨?_, ?_⟩
    · rw [Nat.zero_add, Lib.bytesWorld_cell w 5 b j (by omega)]
      have e1 : b.data[j]! = b.data[j] := getElem!_pos b.data j hj
      have e2 : b.data[j]? = some b.data[j] := Array.getElem?_eq_getElem hj
      simp [encB, List.getD, e1, e2]
    · have hle : b.size ≤ (Lib.bytesCells w 5 b).size := by simp [Lib.bytesCells]
      simp [World.frozen?, Lib.bytesWorld_at_new]; try omega
  have hrev := revBytes_arr encB (fun _ => rfl) w.heap.size 0 cap b.data (Lib.bytesWorld w 5 b) hH (by omega)
  rw [hsd] at hrev
  refine hrev.mono ?_
  rintro e w' ⟨rfl, q, rfl⟩
  refine hK5 _ _ (wpList_nil (h' w0 S0 _ _ ⟨φ, ?_⟩))
  have hB : Below w.heap.size w (putRow encB (Sort.ahead (Lib.bytesWorld w 5 b) q) w.heap.size 0 b.data.reverse) := by
    have h1 := Lib.bytesWorld_below w 5 b
    refine ⟨h1.os, h1.tape, h1.output, ?_, fun k hk => ?_⟩
    · rw [size_putRow]; exact h1.size
    · unfold putRow
      rw [mapBlock_heap _ _ _ _ (by omega)]; exact h1.block k hk
  have sF := (((((sim.drop t18 (.string b)).drop t19 sl).drop t7 sl).drop t20 sl).drop t21 (.tuple #[])).after hB
  refine sF.know (u := sl) ?_ ⟨_, cap, hsl, by rw [lenB_size]; exact hge, fun hp => ⟨w.heap.size, 0, rfl, ⟨.inr sim.heap.below.size, fun hl => ?_⟩, fun i hi => ?_⟩⟩
  · rw [tmps_put_ne (fun e => n2 e.symm), tmps_put_ne (fun e => n1 e.symm)]
    exact tmps_put_self (by rw [size_put, size_put]; omega)
  · have := (sim.heap.live_ge hl).2; omega
  · rw [lenB_size] at hi ⊢
    have hc := (holds_putRow encB (Sort.ahead (Lib.bytesWorld w 5 b) q) w.heap.size 0 b.data b.data.reverse (holds_ahead encB _ q _ _ _ hH) (by simp)) i (by simp; omega)
    refine ⟨_, hc.1, ?_⟩
    show _ = Value.int .u8 (byteI b (b.size - 1 - i))
    have hi' : i < b.data.size := by omega
    have hj' : b.size - 1 - i < b.data.size := by omega
    have e1 : b.data.reverse[i]! = b.data.reverse[i]'(by simp; omega) := getElem!_pos _ _ (by simp; omega)
    have e2 : b.data.reverse[i]'(by simp; omega) = b.data[b.size - 1 - i] := by rw [Array.getElem_reverse]; rfl
    have e3 : b.data[b.size - 1 - i]? = some b.data[b.size - 1 - i] := Array.getElem?_eq_getElem hj'
    simp [encB, byteI, bytesOf, List.getD, e1, e2, e3]

/-- A string out of bytes that nobody writes. -/
def seqStrK (P : Program) (s : ASt) (src t : TypeId) (x : Operand) (d : Nat) (K : ASt → Prop) : Prop :=
  ∃ (n : Nat) (f : Nat → V), opd s x = some (.one (.pv (.seq 1 n f))) ∧ d < s.nt ∧ byteSrc P src = true ∧ P.underlying t = some .string ∧ (∀ i, i < n → f i = .val (.int .u8 (vInt (f i)))) ∧
    K (putS s d (sc (.string (strOfNums ((List.range n).map fun i => vInt (f i))))))

theorem seqStr_rule {P : Program} {src t : TypeId} {x : Operand} {d ty : Nat} {pos : String} {after : Array Edge} :
    OpRule P ⟨some d, .convert src t x, ty, pos, after, none⟩ (fun s K => seqStrK P s src t x d K) := by
  refine ⟨rfl, fun w0 S0 s φ a w K next Q sim h hn => ?_⟩
  obtain ⟨n, f, hx, hd, hsrc, hu, hall, hK⟩ := h
  obtain ⟨e, he1, he2⟩ := byteSrc_some hsrc
  obtain ⟨A, c, ex, hc, hp⟩ := sim.opd hx
  refine wp_value (v := .string (strOfNums ((List.range n).map fun i => vInt (f i)))) (w' := w) ?_ (hn _ _ _ hK ⟨φ, sim.put hd rfl⟩)
  rcases Nat.eq_zero_or_pos n with h0 | h0
  · subst h0
    cases A with
    | none =>
      simp only [execOp, ex, Sem.run_bind, run_convert_bytes_nil w src e he1 he2 0 c t hu, Result.andThen_ok]; rfl
    | some A =>
      obtain ⟨blk, off, path⟩ := A
      have hz : (convert src t (.slice (some ⟨blk, off, path⟩) 0 c)).run P w = .ok (.string ByteArray.empty) w := by
        rw [run_convert_bytes_string w src t e _ 0 c he1 he2 hu]
        simp [Conv.bytesToString, loadCells]
        rfl
      simp only [execOp, ex, Sem.run_bind, hz, Result.andThen_ok]; rfl
  · obtain ⟨b', off, rfl, _, hcs⟩ := hp (by omega)
    have hcell : ∀ i, i < n → w.cell? ⟨b', off + i, none⟩ = some (.int .u8 (((List.range n).map fun i => vInt (f i)).getD i 0)) := fun i hi => by
      obtain ⟨y, hy1, hy2⟩ := hcs i (by omega)
      rw [hall i hi] at hy2
      have hy3 : y = .int .u8 (vInt (f i)) := hy2
      rw [hy1, hy3]
      simp [List.getD, hi]
    simp only [execOp, ex, Sem.run_bind, run_convert_bytes_arg w src e he1 he2 b' off n c _ (by simp) hcell t hu, Result.andThen_ok]
    rfl

theorem AWP.region_seqStr {P : Program} {id : Nat} {o1 o2 o4 o5 o6 : Oper} {src t : TypeId} {x : Operand} {d ty : Nat} {pos : String} {after : Array Edge} {Q : Exit → ASt → Prop} {s : ASt}
    (h : evOps P false [o1, o2, ⟨some d, .convert src t x, ty, pos, after, none⟩, o4, o5, o6] [o1, o2] (fun s' => seqStrK P s' src t x d (evOps P false [o1, o2, ⟨some d, .convert src t x, ty, pos, after, none⟩, o4, o5, o6] [o4, o5, o6] (Q .normal))) s) :
    AWP P (.region id #[o1, o2, ⟨some d, .convert src t x, ty, pos, after, none⟩, o4, o5, o6] false) Q s :=
  AWP.region_rule (os1 := [o1, o2]) (os2 := [o4, o5, o6]) seqStr_rule h

theorem seqStr_go {P : Program} {src t : TypeId} {x : Operand} {d : Nat} {s : ASt} {K : ASt → Prop} {n : Nat} {f : Nat → V} (hx : opd s x = some (.one (.pv (.seq 1 n f)))) (hd : d < s.nt) (hs : byteSrc P src = true) (ht : P.underlying t = some .string)
    (hf : ∀ i, i < n → f i = .val (.int .u8 (vInt (f i)))) (h : K (putS s d (sc (.string (strOfNums ((List.range n).map fun i => vInt (f i))))))) : seqStrK P s src t x d K := ⟨n, f, hx, hd, hs, ht, hf, h⟩

end Go.Proofs.Ytjcoklapbpbheaa
