/- slices.Reverse over a list of the call's own. No conditions. -/
import Derived.Test.YtpimjkhfookipaaEngH
import Derived.Test.YtpimjkhfookipaaTy
import Derived.Shelf.SlicesE.Kit
import Derived.Shelf.RegionOpenPlain
import Derived.WalkKit
import Derived.Deep.LoopGhost
import Derived.Lib.Walk
import Derived.Sort.WalkB12
import Derived.Lib.SlicesMore
namespace Go.Proofs.Ytpimjkhfookipaa
open Go.RowKit Go.Proofs Go.Lib Go.Sort
set_option linter.unusedSimpArgs false
set_option linter.unusedVariables false

set_option maxHeartbeats 1600000 in
set_option maxRecDepth 1000000 in
theorem revRows_arr {α : Type} [Inhabited α] (enc : α → Value) (h1 : OneCell enc) (blk off cap : Nat) (d : Array α) (w : World) (hH : Holds enc w blk off d) (hsz : d.size ≤ 9223372036854775807) :
    Calls Try.prog 197 #[.slice (some ⟨blk, off, none⟩) d.size cap] w fun e w' => e = .returned (.tuple #[]) ∧ ∃ n, w' = putRow enc (Sort.ahead w n) blk off d.reverse := by
  have hcl := h1.cells
  simp only [Value.cells] at hcl
  have hst := h1.store Try.prog
  go_enter Try.func197, Try.ntmps197
  go_wp2
  go_loopg [2, 3] d.size (fun k s2 s3 wr => ∃ (i jn : Nat) (jz : Int) (dk : Array α) (n : Nat), s2 = .int .i64 i ∧ s3 = .int .i64 jz ∧ ((i : Int) < jz → jz = jn ∧ jn < d.size) ∧ (¬ (i : Int) < jz → ¬ i < jn) ∧ jn - i ≤ k ∧
    dk.size = d.size ∧ wr = putRow enc (Sort.ahead w n) blk off dk ∧ reverseLoop i jn dk = reverseLoop 0 (d.size - 1) d)
  case atStart => exact ⟨0, d.size - 1, (d.size : Int) - 1, d, 0, rfl, rfl, fun h => ⟨by omega, by omega⟩, fun h => by omega, by omega, rfl, (putRow_self enc w blk off d hH).symm, rfl⟩
  case round =>
    obtain ⟨i, jn, jz, dk, n, rfl, rfl, h1, h2, hk, hds, hwr, heq⟩ := hrel
    by_cases hlt : (i : Int) < jz
    · obtain ⟨rfl, hjn⟩ := h1 hlt
      have hij : i < jn := by omega
      have hHk : Holds enc wr blk off dk := by rw [hwr]; exact holds_putRow enc _ blk off d dk (holds_ahead enc w n blk off d hH) hds
      obtain ⟨ci, fi⟩ := hHk i (by omega)
      obtain ⟨cj, fj⟩ := hHk jn (by omega)
      have A : Aside (wr = putRow enc (Sort.ahead w n) blk off dk) := hwr
      clear hwr hHk hH h1 h2
      go_wp2_with fail
      go_region
      go_wp2
      go_roundg (jn - 1 - (i + 1))
      case measure => omega
      case rel =>
        rw [reverseLoop, if_pos hij] at heq
        exact ⟨i + 1, jn - 1, (jn : Int) - 1, swp dk i jn, n + 1, by simp, rfl, fun h => ⟨by omega, by omega⟩, fun h => by omega, Nat.le_refl _, by rw [size_swp]; exact hds,
          swap_world enc (by omega) (by omega) A.out (by first | rfl | simp [getElem!_pos, show jn < dk.size by omega]) (by first | rfl | simp [getElem!_pos, show i < dk.size by omega]), heq⟩
    · have hnot := h2 hlt
      go_wp2
      go_end0
      refine ⟨rfl, n, ?_⟩
      rw [reverseLoop, if_neg hnot] at heq
      rw [← Lib.reverseLoop_reverse, ← heq]

/-- A value of one cell is what it is; of others: false. -/
def encOne (v : Value) : Value := if v.oneCell' = true then v else .bool false
theorem encOne_one : OneCell encOne := fun v => by
  unfold encOne
  split
  · assumption
  · rfl
theorem encOne_is {v : Value} (h : v.oneCell' = true) : encOne v = v := if_pos h

theorem mapBlock_heap (w : World) (blk k : Nat) (f : Array Value → Array Value) (h : k ≠ blk) : (mapBlock w blk f).heap[k]? = w.heap[k]? := by
  simp only [mapBlock]
  rw [Array.getElem?_modify, if_neg (fun e => h e.symm)]

theorem revRows_at (w : World) (b c n : Nat) (cur : Array Value) (e : TypeId) (hb : w.heap[b]? = some (.cells cur e (0, 0))) (hn : n ≤ cur.size) (hn2 : n ≤ 9223372036854775807) (hone : ∀ i x, i < n → cur[i]? = some x → x.oneCell' = true) :
    Calls Try.prog 197 #[.slice (some ⟨b, 0, none⟩) n c] w fun e' w' => e' = .returned (.tuple #[]) ∧ AllBut b w w' ∧
      ∃ cur' : Array Value, w'.heap[b]? = some (.cells cur' e (0, 0)) ∧ cur'.size = cur.size ∧ ∀ i, i < n → cur'[i]? = cur[n - 1 - i]? := by
  obtain ⟨d, hd⟩ : ∃ d : Array Value, d = cur.extract 0 n := ⟨_, rfl⟩
  have hds : d.size = n := by rw [hd]; simp; omega
  have hdi : ∀ i, i < n → d[i]! = cur.getD i undef ∧ cur[i]? = some (cur.getD i undef) ∧ encOne (d[i]!) = cur.getD i undef := fun i hi => by
    have e1 : cur[i]? = some (cur.getD i undef) := by simp [show i < cur.size by omega]
    have e2 : d[i]! = cur.getD i undef := by
      rw [getElem!_pos d i (by omega)]
      simp [hd, show i < cur.size by omega]
    exact ⟨e2, e1, by rw [e2]; exact encOne_is (hone i _ hi e1)⟩
  have hH : Holds encOne w b 0 d := fun j hj => by
    obtain ⟨e1, e2, e3⟩ := hdi j (by omega)
    refine ⟨?_, by simp [World.frozen?, hb]⟩
    rw [e3, Nat.zero_add]; exact cell_of_blk hb e2
  have h := revRows_arr encOne encOne_one b 0 c d w hH (by omega)
  rw [hds] at h
  refine h.mono ?_
  rintro e' w' ⟨rfl, q, rfl⟩
  have hH2 := holds_putRow encOne (Sort.ahead w q) b 0 d d.reverse (holds_ahead encOne w q b 0 d hH) (by simp)
  have hb' : ∃ cur' : Array Value, (putRow encOne (Sort.ahead w q) b 0 d.reverse).heap[b]? = some (.cells cur' e (0, 0)) ∧ cur'.size = cur.size := by
    refine ⟨putCells encOne 0 d.reverse cur, ?_, ?_⟩
    · unfold putRow
      simp only [mapBlock]
      rw [Array.getElem?_modify, if_pos rfl]
      show Option.map _ w.heap[b]? = _
      rw [hb]; rfl
    · simp [putCells]
  obtain ⟨cur', h1, h2⟩ := hb'
  refine ⟨rfl, ⟨rfl, rfl, rfl, by rw [size_putRow]; exact Nat.le_refl _, fun k hk hne => ?_⟩, cur', h1, h2, fun i hi => ?_⟩
  · unfold putRow; rw [mapBlock_heap _ _ _ _ hne]; rfl
  · have hc := (hH2 i (by simp; omega)).1
    obtain ⟨e1, e2, e3⟩ := hdi (n - 1 - i) (by omega)
    have er : d.reverse[i]! = d[n - 1 - i]! := by
      rw [getElem!_pos d.reverse i (by simp; omega), getElem!_pos d (n - 1 - i) (by omega), Array.getElem_reverse]
      congr 1; omega
    rw [er, e3, Nat.zero_add] at hc
    rw [e2]
    have : (putRow encOne (Sort.ahead w q) b 0 d.reverse).cell? ⟨b, i, none⟩ = cur'[i]? := by simp [World.cell?, h1]
    rw [← this]; exact hc

/-- What stands behind a call that turns a list of the call's own round. -/
def revK' (s : ASt) (x : Operand) (d : Nat) (K : ASt → Prop) : Prop :=
  ∃ (id n : Nat) (blk : Blk), opd s x = some (.one (.own id 1 0 n)) ∧ s.h[id]? = some (some blk) ∧ d < s.nt ∧ 0 < n ∧ n ≤ blk.n ∧ n ≤ 9223372036854775807 ∧ (∀ i, i < n → (blk.f i).one = true) ∧
    K ⟨upd s.σ d (sc (.tuple #[])), s.h.set id (some ⟨blk.elem, n, fun i => blk.f (n - 1 - i)⟩), s.nt⟩

set_option maxRecDepth 100000 in
theorem rev_rule {N : Nat} {x : Operand} {d ty : Nat} {ts : Array TypeId} {pos : String} {after : Array Edge} :
    OpRule N Try.prog ⟨some d, .call ⟨.value (.func 197), #[x], ts⟩, ty, pos, after, none⟩ (fun s K => revK' s x d K) := by
  refine ⟨rfl, fun w0 S0 s φ a w K next Q hN sim h hn => ?_⟩
  obtain ⟨id, n, blk, hx, hb, hd, h0, hle, hn2, hone, hK⟩ := h
  have hrun : (execOp a.eval ⟨some d, .call ⟨.value (.func 197), #[x], ts⟩, ty, pos, after, none⟩).run Try.prog w = .ok (.enter 197 #[a.eval x]) w := by
    have e : execOp a.eval ⟨some d, .call ⟨.value (.func 197), #[x], ts⟩, ty, pos, after, none⟩ = callFunc 197 (#[] ++ #[x].map a.eval ++ #[]) := rfl
    rw [e, Try.call197]
    congr 2
    rw [← Array.toList_inj]
    simp
  unfold Oper.wp
  rw [hrun, Oper.upon_enter]
  rcases sim.opd hx with ⟨_, _, hl, _⟩ | ⟨b, c, z, hφ, ev, hc, _, _⟩
  · omega
  · rw [ev]
    obtain ⟨cur, hz, hB, hcur, hbn, hcells⟩ := sim.blkAt hb hφ
    refine (revRows_at w b c n cur blk.elem hcur (by omega) hn2 fun i y hi hy => ?_).mono ?_
    · obtain ⟨y', h1, h2⟩ := hcells i (by omega)
      rw [hy] at h1; injection h1 with h1; subst h1
      exact Rd.one (hone i hi) h2
    rintro e w' ⟨rfl, hall, cur', hcur', hsz, hper⟩
    refine hn _ _ _ hK ⟨φ, ?_⟩
    refine (sim.write hb hφ (blk' := ⟨blk.elem, n, fun i => blk.f (n - 1 - i)⟩) hcur' (by omega) hall.os hall.tape hall.output hall.size hall.oth rfl (by show n ≤ cur'.size; omega) fun i hi => ?_).put hd rfl
    obtain ⟨y, h1, h2⟩ := hcells (n - 1 - i) (by have : i < n := hi; omega)
    exact ⟨y, by rw [hper i hi]; exact h1, h2⟩

theorem AWP.region_rev {N : Nat} {id : Nat} {o1 : Oper} {x : Operand} {d ty : Nat} {ts : Array TypeId} {pos : String} {after : Array Edge} {Q : Exit → ASt → Prop} {s : ASt}
    (h : evOps Try.prog false [o1, ⟨some d, .call ⟨.value (.func 197), #[x], ts⟩, ty, pos, after, none⟩] [o1] (fun s' => revK' s' x d (evOps Try.prog false [o1, ⟨some d, .call ⟨.value (.func 197), #[x], ts⟩, ty, pos, after, none⟩] [] (Q .normal))) s) :
    AWP N Try.prog (.region id #[o1, ⟨some d, .call ⟨.value (.func 197), #[x], ts⟩, ty, pos, after, none⟩] false) Q s :=
  AWP.region_rule (os1 := [o1]) (os2 := []) rev_rule h

theorem rev_go {x : Operand} {d : Nat} {s : ASt} {K : ASt → Prop} {id n : Nat} {blk : Blk} (hx : opd s x = some (.one (.own id 1 0 n))) (hb : s.h[id]? = some (some blk)) (hd : d < s.nt) (h0 : 0 < n) (hle : n ≤ blk.n) (hn2 : n ≤ 9223372036854775807)
    (hone : ∀ i, i < n → (blk.f i).one = true) (h : K ⟨upd s.σ d (sc (.tuple #[])), s.h.set id (some ⟨blk.elem, n, fun i => blk.f (n - 1 - i)⟩), s.nt⟩) : revK' s x d K := ⟨id, n, blk, hx, hb, hd, h0, hle, hn2, hone, h⟩

end Go.Proofs.Ytpimjkhfookipaa
