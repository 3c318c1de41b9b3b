/- Callees that write the block of an own slice, knowing what it holds; callees that hand an own slice back as it came. No conditions. -/
import Derived.Test.YtpimjkhfookipaaEngN
import Derived.Test.YtpimjkhfookipaaEngZ
namespace Go.Proofs.Ytpimjkhfookipaa
set_option linter.unusedSimpArgs false
set_option linter.unusedVariables false
open Go.RowKit

/-- A function that writes the block of its first argument, a slice of n elements from the block's head, whose cells hold known values, and hands a scalar back. -/
structure FnMv (P : Program) (f : FuncId) (n : Nat) (blk blk' : Blk) (u v : Value) : Prop where
  entry : ∀ (args : Array Value) (w : World), (callFunc f args).run P w = .ok (.enter f args) w
  elem : blk'.elem = blk.elem
  le : blk'.n ≤ blk.n
  runsNil : n = 0 → ∀ w, Gl w → Calls P f #[.slice none 0 0, u] w fun e w' => e = .returned v ∧ Below w.heap.size w w'
  vals : ∀ i, i < blk.n → ∃ x, blk.f i = .val x
  runsAt : ∀ (w : World) (b c : Nat) (cur : Array Value), Gl w → w.heap[b]? = some (.cells cur blk.elem (0, 0)) → blk.n ≤ cur.size → (∀ i, i < blk.n → ∃ x, cur[i]? = some x ∧ blk.f i = .val x) → n ≤ c → Calls P f #[.slice (some ⟨b, 0, none⟩) n c, u] w fun e w' =>
    e = .returned v ∧ AllBut b w w' ∧ ∃ cur' : Array Value, w'.heap[b]? = some (.cells cur' blk.elem (0, 0)) ∧ cur'.size = cur.size ∧ ∀ i, i < blk'.n → ∃ x, cur'[i]? = some x ∧ blk'.f i = .val x

/-- A function that hands its first argument, a slice, back as it came. -/
structure FnSame (P : Program) (f : FuncId) (sz n : Nat) (g : Nat → V) (y : Value) : Prop where
  entry : ∀ (args : Array Value) (w : World), (callFunc f args).run P w = .ok (.enter f args) w
  runs : ∀ (w : World) (u : Value) (Z : Nat → Prop), Gl w → Rd w (fun _ => True) (.row u Z sz n g) u → Calls P f #[u, y] w fun e w' => e = .returned u ∧ Below w.heap.size w w'

section
variable {P : Program} {N : Nat}

theorem FnSame.of_fn {f : FuncId} {sz n : Nat} {g : Nat → V} {y : Value} (h : ∀ u Z, Fn P f [.row u Z sz n g, .val y] (.one (.pv (.row u Z sz n g)))) : FnSame P f sz n g y := by
  refine ⟨(h undef fun _ => False).entry, fun w u Z hg hr => ((h u Z).runs w (fun _ => True) [u, y] ⟨hr, rfl, hg⟩).mono ?_⟩
  rintro e w' ⟨u', φ, rfl, hh, hs⟩
  have e1 : u' = u := hs.1
  exact ⟨by rw [e1], hh.below⟩

def markVK (P : Program) (f : FuncId) (x y : Operand) (d : Nat) (s : ASt) (K : ASt → Prop) : Prop :=
  ∃ (id sz n : Nat) (blk blk' : Blk) (u v : Value), opd s x = some (.one (.own id sz 0 n)) ∧ s.h[id]? = some (some blk) ∧ opd s y = some (sc u) ∧ d < s.nt ∧ FnMv P f n blk blk' u v ∧
    K ⟨upd s.σ d (sc v), s.h.set id (some blk'), s.nt⟩

theorem markV_rule {f : FuncId} {x y : Operand} {d ty : Nat} {ts : Array TypeId} {pos : String} {after : Array Edge} :
    OpRule N P ⟨some d, .call ⟨.value (.func f), #[x, y], ts⟩, ty, pos, after, none⟩ (fun s K => markVK P f x y d s K) := by
  refine ⟨rfl, fun w0 S0 s φ a w K next Q hN sim h hn => ?_⟩
  obtain ⟨id, sz, n, blk, blk', u, v, hx, hb, hy, hd, hf, hK⟩ := h
  have ey : a.eval y = u := sim.opd hy
  have hrun : (execOp a.eval ⟨some d, .call ⟨.value (.func f), #[x, y], ts⟩, ty, pos, after, none⟩).run P w = .ok (.enter f #[a.eval x, u]) w := by
    have e : execOp a.eval ⟨some d, .call ⟨.value (.func f), #[x, y], ts⟩, ty, pos, after, none⟩ = callFunc f (#[] ++ #[x, y].map a.eval ++ #[]) := rfl
    rw [e, hf.entry]
    congr 2
    rw [← Array.toList_inj]
    simp [ey]
  unfold Oper.wp
  rw [hrun, Oper.upon_enter]
  rcases sim.opd hx with ⟨hφ, _, hl, ev⟩ | ⟨b, c, z, hφ, ev, hc, _, _⟩
  · rw [ev]
    subst hl
    have hbn : blk.n = 0 := by
      rcases sim.heap.blk id blk hb with ⟨_, h0⟩ | ⟨b, cur, h0, _⟩
      · exact h0
      · rw [hφ] at h0; cases h0
    refine (hf.runsNil rfl w sim.gl).mono ?_
    rintro e w' ⟨rfl, hbel⟩
    refine hn _ _ _ hK ⟨φ, ?_⟩
    exact ((sim.after hbel).unsaid hb hφ (by have := hf.le; omega)).put hd rfl
  · rw [ev]
    obtain ⟨cur, hz, hB, hcur, hbn, hcs⟩ := sim.blkAt hb hφ
    have hcs' : ∀ i, i < blk.n → ∃ x, cur[i]? = some x ∧ blk.f i = .val x := fun i hi => by
      obtain ⟨x, h1, h2⟩ := hcs i hi
      obtain ⟨y, hy⟩ := hf.vals i hi
      rw [hy] at h2
      have h2 : x = y := h2
      exact ⟨x, h1, by rw [hy, h2]⟩
    refine (hf.runsAt w b c cur sim.gl hcur hbn hcs' hc).mono ?_
    rintro e w' ⟨rfl, hall, cur', hcur', hsz, hcells⟩
    refine hn _ _ _ hK ⟨φ, ?_⟩
    refine (sim.write hb hφ (blk' := blk') hcur' (by omega) hall.os hall.tape hall.output hall.size hall.oth hf.elem (by have := hf.le; omega) fun i hi => ?_).put hd rfl
    obtain ⟨x, h1, h2⟩ := hcells i hi
    exact ⟨x, h1, by rw [h2]; rfl⟩

theorem ax_markV [Cx] {K : ASt → Prop} {f : FuncId} {x y : Operand} {d ty : Nat} {ts : Array TypeId} {pos : String} {after : Array Edge} {s : ASt} {id sz n : Nat} {blk blk' : Blk} {u v : Value} (hx : opd s x = some (.one (.own id sz 0 n))) (hb : s.h[id]? = some (some blk)) (hy : opd s y = some (sc u)) (hd : d < s.nt)
    (hf : FnMv P f n blk blk' u v) (h : K ⟨upd s.σ d (sc v), s.h.set id (some blk'), s.nt⟩) : Ax N P K ⟨some d, .call ⟨.value (.func f), #[x, y], ts⟩, ty, pos, after, none⟩ s :=
  ax_rule markV_rule ⟨id, sz, n, blk, blk', u, v, hx, hb, hy, hd, hf, h⟩

def sameK (P : Program) (f : FuncId) (x y : Operand) (d : Nat) (s : ASt) (K : ASt → Prop) : Prop :=
  ∃ (id sz n : Nat) (blk : Blk) (u : Value), opd s x = some (.one (.own id sz 0 n)) ∧ s.h[id]? = some (some blk) ∧ n * sz ≤ blk.n ∧ opd s y = some (sc u) ∧ d < s.nt ∧ FnSame P f sz n (fun i => blk.f i) u ∧ K (putS s d (.one (.own id sz 0 n)))

theorem same_rule {f : FuncId} {x y : Operand} {d ty : Nat} {ts : Array TypeId} {pos : String} {after : Array Edge} :
    OpRule N P ⟨some d, .call ⟨.value (.func f), #[x, y], ts⟩, ty, pos, after, none⟩ (fun s K => sameK P f x y d s K) := by
  refine ⟨rfl, fun w0 S0 s φ a w K next Q hN sim h hn => ?_⟩
  obtain ⟨id, sz, n, blk, u, hx, hb, hle, hy, hd, hf, hK⟩ := h
  have ey : a.eval y = u := sim.opd hy
  have hrun : (execOp a.eval ⟨some d, .call ⟨.value (.func f), #[x, y], ts⟩, ty, pos, after, none⟩).run P w = .ok (.enter f #[a.eval x, u]) w := by
    have e : execOp a.eval ⟨some d, .call ⟨.value (.func f), #[x, y], ts⟩, ty, pos, after, none⟩ = callFunc f (#[] ++ #[x, y].map a.eval ++ #[]) := rfl
    rw [e, hf.entry]
    congr 2
    rw [← Array.toList_inj]
    simp [ey]
  have hrd : ∃ Z, Rd w (fun _ => True) (.row (a.eval x) Z sz n fun i => blk.f i) (a.eval x) := by
    have hseq := sim.own_seq (off := 0) (len := n) (sz := sz) hb (by omega) (sim.opd hx)
    obtain ⟨A, c, ea, hc, hr⟩ := hseq
    rcases sim.opd hx with ⟨hφ, _, hl, ev⟩ | ⟨b, c', z, hφ, ev, hc', _, _⟩
    · exact ⟨fun _ => False, rfl, fun b hb => hb.elim, none, 0, by rw [ev, hl], by omega, fun hp => by subst hl; omega⟩
    · obtain ⟨cur, hz, hB, hcur, hbn, hcs⟩ := sim.blkAt hb hφ
      refine ⟨fun k => k = b, rfl, fun k hk => ⟨trivial, by subst hk; exact ⟨cur, blk.elem, hcur⟩⟩, _, c', ev, hc', fun hp => ⟨b, 0, rfl, rfl, fun i hi => ?_⟩⟩
      obtain ⟨x, h1, h2⟩ := hcs i (by omega)
      exact ⟨x, by rw [Nat.zero_add]; exact cell_of_blk hcur h1, Rd.mono (fun b _ _ => ⟨trivial, rfl⟩) _ _ h2⟩
  obtain ⟨Z, hrd⟩ := hrd
  unfold Oper.wp
  rw [hrun, Oper.upon_enter]
  refine (hf.runs w _ Z sim.gl hrd).mono ?_
  rintro e w' ⟨rfl, hbel⟩
  have sim' := sim.after hbel
  exact hn _ _ _ hK ⟨φ, sim'.put hd (sim'.opd hx)⟩

theorem ax_same [Cx] {K : ASt → Prop} {f : FuncId} {x y : Operand} {d ty : Nat} {ts : Array TypeId} {pos : String} {after : Array Edge} {s : ASt} {id sz n : Nat} {blk : Blk} {u : Value} (hx : opd s x = some (.one (.own id sz 0 n))) (hb : s.h[id]? = some (some blk)) (hle : n * sz ≤ blk.n) (hy : opd s y = some (sc u)) (hd : d < s.nt)
    (hf : FnSame P f sz n (fun i => blk.f i) u) (h : K (putS s d (.one (.own id sz 0 n)))) : Ax N P K ⟨some d, .call ⟨.value (.func f), #[x, y], ts⟩, ty, pos, after, none⟩ s :=
  ax_rule same_rule ⟨id, sz, n, blk, u, hx, hb, hle, hy, hd, hf, h⟩
end
end Go.Proofs.Ytpimjkhfookipaa
