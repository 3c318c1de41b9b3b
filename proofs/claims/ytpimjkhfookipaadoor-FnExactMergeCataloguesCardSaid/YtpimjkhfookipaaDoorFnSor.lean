/- The sort of rows of terms by their texts (slices.SortFunc out of the library's shelf) as a callee that permutes its argument's block. Conditions: rows of terms of small numbers, no more than 12 each. -/
import Derived.Test.YtpimjkhfookipaaDoorFnCmp
import Derived.Test.YtpimjkhfookipaaDoorEngM
import Derived.Test.YtpimjkhfookipaaDoorPureCg
import Derived.Test.YtpimjkhfookipaaDoorFnCt
import Derived.Shelf.SlSortCmp.NoneTotal
namespace Go.Proofs
open Go.Shelf
def Tryd.sortRow_ren : Go.Shelf.Ren := ⟨fun | 6 => 87 | 15 => 121 | 14 => 120 | 28 => 143 | 29 => 144 | 20 => 135 | 21 => 136 | 22 => 137 | 23 => 138 | 24 => 139 | 25 => 140 | 26 => 141 | 27 => 142 | 46 => 157 | 47 => 158 | 48 => 159 | 49 => 160 | 50 => 161 | 57 => 171 | n => n, fun | 22 => 26 | 24 => 37 | 25 => 102 | 3 => 3 | 39 => 133 | 0 => 0 | 53 => 149 | 55 => 73 | 4 => 4 | 46 => 143 | 45 => 142 | 50 => 24 | 5 => 5 | 9 => 9 | 66 => 162 | 70 => 166 | 76 => 171 | 77 => 172 | n => n, fun | n => n⟩
set_option maxRecDepth 100000 in
theorem Tryd.sortRow : SlLaysF.n6 Tryd.prog Tryd.sortRow_ren := {
  mixed := by kernel_rfl
  f6 := ⟨Tryd.f87.name, by decide, Tryd.func87.trans (congrArg some (by kernel_rfl))⟩
  f14 := ⟨Tryd.f120.name, by decide, Tryd.func120.trans (congrArg some (by kernel_rfl))⟩
  f15 := Tryd.func121.trans (congrArg some (by kernel_rfl))
  f20 := ⟨Tryd.f135.name, by decide, Tryd.func135.trans (congrArg some (by kernel_rfl))⟩
  f21 := ⟨Tryd.f136.name, by decide, Tryd.func136.trans (congrArg some (by kernel_rfl))⟩
  f22 := ⟨Tryd.f137.name, by decide, Tryd.func137.trans (congrArg some (by kernel_rfl))⟩
  f23 := ⟨Tryd.f138.name, by decide, Tryd.func138.trans (congrArg some (by kernel_rfl))⟩
  f24 := ⟨Tryd.f139.name, by decide, Tryd.func139.trans (congrArg some (by kernel_rfl))⟩
  f25 := ⟨Tryd.f140.name, by decide, Tryd.func140.trans (congrArg some (by kernel_rfl))⟩
  f26 := ⟨Tryd.f141.name, by decide, Tryd.func141.trans (congrArg some (by kernel_rfl))⟩
  f27 := ⟨Tryd.f142.name, by decide, Tryd.func142.trans (congrArg some (by kernel_rfl))⟩
  f28 := Tryd.func143.trans (congrArg some (by kernel_rfl))
  f29 := Tryd.func144.trans (congrArg some (by kernel_rfl))
  f46 := ⟨Tryd.f157.name, by decide, Tryd.func157.trans (congrArg some (by kernel_rfl))⟩
  f47 := Tryd.func158.trans (congrArg some (by kernel_rfl))
  f48 := Tryd.func159.trans (congrArg some (by kernel_rfl))
  f49 := ⟨Tryd.f160.name, by decide, Tryd.func160.trans (congrArg some (by kernel_rfl))⟩
  f50 := ⟨Tryd.f161.name, by decide, Tryd.func161.trans (congrArg some (by kernel_rfl))⟩
  f57 := ⟨Tryd.f171.name, by decide, Tryd.func171.trans (congrArg some (by kernel_rfl))⟩
  t0 := Tryd.underlying0
  a0 := Tryd.isAgg0
  z0 := Tryd.sizeOf0
  v0 := Tryd.zeroValue0
  t3 := Tryd.underlying3
  a3 := Tryd.isAgg3
  z3 := Tryd.sizeOf3
  v3 := Tryd.zeroValue3
  t4 := Tryd.underlying4
  a4 := Tryd.isAgg4
  z4 := Tryd.sizeOf4
  v4 := Tryd.zeroValue4
  t5 := Tryd.underlying5
  a5 := Tryd.isAgg5
  z5 := Tryd.sizeOf5
  v5 := Tryd.zeroValue5
  t9 := Tryd.underlying9
  a9 := Tryd.isAgg9
  z9 := Tryd.sizeOf9
  v9 := Tryd.zeroValue9
  t22 := Tryd.underlying26
  a22 := Tryd.isAgg26
  z22 := Tryd.sizeOf26
  v22 := Tryd.zeroValue26
  a24 := Tryd.isAgg37
  z24 := Tryd.sizeOf37
  t25 := Tryd.underlying102
  a25 := Tryd.isAgg102
  z25 := Tryd.sizeOf102
  v25 := Tryd.zeroValue102
  t39 := Tryd.underlying133
  a39 := Tryd.isAgg133
  z39 := Tryd.sizeOf133
  v39 := Tryd.zeroValue133
  t45 := Tryd.underlying142
  a45 := Tryd.isAgg142
  z45 := Tryd.sizeOf142
  v45 := Tryd.zeroValue142
  t46 := Tryd.underlying143
  a46 := Tryd.isAgg143
  z46 := Tryd.sizeOf143
  v46 := Tryd.zeroValue143
  t50 := Tryd.underlying24
  a50 := Tryd.isAgg24
  z50 := Tryd.sizeOf24
  v50 := Tryd.zeroValue24
  t53 := Tryd.underlying149
  a53 := Tryd.isAgg149
  z53 := Tryd.sizeOf149
  v53 := Tryd.zeroValue149
  t55 := Tryd.underlying73
  a55 := Tryd.isAgg73
  z55 := Tryd.sizeOf73
  v55 := Tryd.zeroValue73
  t66 := Tryd.underlying162
  a66 := Tryd.isAgg162
  z66 := Tryd.sizeOf162
  v66 := Tryd.zeroValue162
  t70 := Tryd.underlying166
  a70 := Tryd.isAgg166
  z70 := Tryd.sizeOf166
  v70 := Tryd.zeroValue166
  t76 := Tryd.underlying171
  a76 := Tryd.isAgg171
  z76 := Tryd.sizeOf171
  v76 := Tryd.zeroValue171
  t77 := Tryd.underlying172
  a77 := Tryd.isAgg172
  z77 := Tryd.sizeOf172
  v77 := Tryd.zeroValue172 }

end Go.Proofs
namespace Go.Proofs.YtpimjkhfookipaaDoor
open Go.RowKit Go.Proofs Go.Sort
set_option linter.unusedSimpArgs false
set_option linter.unusedVariables false

/-- A function that puts the cells of its first argument, a slice of n elements from the block's head, into another order. -/
structure FnPm (P : Program) (f : FuncId) (n : Nat) (F : Nat → V) (u : Value) (good : (Nat → Nat) → Prop) : Prop where
  entry : ∀ (args : Array Value) (w : World), (callFunc f args).run P w = .ok (.enter f args) w
  nil : n = 0 → good id ∧ ∀ w, Gl w → Calls P f #[.slice none 0 0, u] w fun e w' => e = .returned (.tuple #[]) ∧ RowKit.Below w.heap.size w w'
  runs : ∀ (w0 w : World) (b c : Nat) (cur : Array Value) (e : TypeId), Gl w0 → RowKit.Below w0.heap.size w0 w → w0.heap.size ≤ b → w.heap[b]? = some (.cells cur e (0, 0)) → n ≤ cur.size → n ≤ c → (∀ i, i < n → ∃ x, cur[i]? = some x ∧ Rd w (fun j => j ≠ b) (F i) x) →
    Calls P f #[.slice (some ⟨b, 0, none⟩) n c, u] w fun e' w' => e' = .returned (.tuple #[]) ∧ AllBut b w w' ∧ ∃ (cur' : Array Value) (π : Nat → Nat), good π ∧ (∀ i, i < n → π i < n) ∧ w'.heap[b]? = some (.cells cur' e (0, 0)) ∧ cur'.size = cur.size ∧ ∀ i, i < n → cur'[i]? = cur[π i]?

section
variable {P : Program} {N : Nat}
def permK (P : Program) (f : FuncId) (x y : Operand) (d : Nat) (s : ASt) (K : ASt → Prop) : Prop :=
  ∃ (id n : Nat) (blk : Blk) (u : Value) (good : (Nat → Nat) → Prop), opd s x = some (.one (.own id 1 0 n)) ∧ s.h[id]? = some (some blk) ∧ n ≤ blk.n ∧ opd s y = some (sc u) ∧ d < s.nt ∧ FnPm P f n (fun i => blk.f i) u good ∧
    ∀ π, good π → (∀ i, i < n → π i < n) → K ⟨upd s.σ d (sc (.tuple #[])), s.h.set id (some ⟨blk.elem, n, fun i => blk.f (π i)⟩), s.nt⟩

theorem perm_rule {f : FuncId} {x y : Operand} {d ty : Nat} {ts : Array TypeId} {pos : String} {after : Array Edge} :
    OpRule N P ⟨some d, .call ⟨.value (.func f), #[x, y], ts⟩, ty, pos, after, none⟩ (fun s K => permK P f x y d s K) := by
  refine ⟨rfl, fun w0 S0 s φ a w K next Q hN sim h hn => ?_⟩
  obtain ⟨id, n, blk, u, good, hx, hb, hle, hy, hd, hf, hK⟩ := h
  have ey : a.eval y = u := sim.opd hy
  have hrun : (execOp a.eval ⟨some d, .call ⟨.value (.func f), #[x, y], ts⟩, ty, pos, after, none⟩).run P w = .ok (.enter f #[a.eval x, u]) w := by
    have e : execOp a.eval ⟨some d, .call ⟨.value (.func f), #[x, y], ts⟩, ty, pos, after, none⟩ = callFunc f (#[] ++ #[x, y].map a.eval ++ #[]) := rfl
    rw [e, hf.entry]
    congr 2
    rw [← Array.toList_inj]
    simp [ey]
  unfold Oper.wp
  rw [hrun, Oper.upon_enter]
  rcases sim.opd hx with ⟨hφ, _, hl, ev⟩ | ⟨b, c, z, hφ, ev, hc, _, _⟩
  · rw [ev]
    subst hl
    obtain ⟨hg, hr⟩ := hf.nil rfl
    refine (hr w sim.gl).mono ?_
    rintro e w' ⟨rfl, hbel⟩
    refine hn _ _ _ (hK _root_.id hg fun i hi => hi) ⟨φ, ?_⟩
    exact ((sim.after hbel).unsaid hb hφ rfl).put hd rfl
  · rw [ev]
    obtain ⟨cur, hz, hB, hcur, hbn, hcs⟩ := sim.blkAt hb hφ
    have hcs' : ∀ i, i < n → ∃ x, cur[i]? = some x ∧ Rd w (fun j => j ≠ b) (blk.f i) x := fun i hi => by
      obtain ⟨x, h1, h2⟩ := hcs i (by omega)
      exact ⟨x, h1, Rd.mono (fun j hj _ => ⟨fun e => hj.2 ⟨id, blk, z, hb, e ▸ hφ⟩, rfl⟩) _ _ h2⟩
    refine (hf.runs w0 w b c cur blk.elem sim.defers.2 sim.heap.below hB hcur (by omega) hc hcs').mono ?_
    rintro e w' ⟨rfl, hall, cur', π, hg, hπ, hcur', hsz, hcells⟩
    refine hn _ _ _ (hK π hg hπ) ⟨φ, ?_⟩
    refine (sim.write hb hφ (blk' := ⟨blk.elem, n, fun i => blk.f (π i)⟩) hcur' (by omega) hall.os hall.tape hall.output hall.size hall.oth rfl (by show n ≤ _; omega) fun i hi => ?_).put hd rfl
    have hi : i < n := hi
    obtain ⟨x, h1, h2⟩ := hcs (π i) (by have := hπ i hi; omega)
    exact ⟨x, by rw [hcells i hi]; exact h1, h2⟩

theorem ax_perm [Cx] {K : ASt → Prop} {f : FuncId} {x y : Operand} {d ty : Nat} {ts : Array TypeId} {pos : String} {after : Array Edge} {s : ASt} {id n : Nat} {blk : Blk} {u : Value} {good : (Nat → Nat) → Prop} (hx : opd s x = some (.one (.own id 1 0 n))) (hb : s.h[id]? = some (some blk)) (hle : n ≤ blk.n) (hy : opd s y = some (sc u)) (hd : d < s.nt)
    (hf : FnPm P f n (fun i => blk.f i) u good) (h : ∀ π, good π → (∀ i, i < n → π i < n) → K ⟨upd s.σ d (sc (.tuple #[])), s.h.set id (some ⟨blk.elem, n, fun i => blk.f (π i)⟩), s.nt⟩) : Ax N P K ⟨some d, .call ⟨.value (.func f), #[x, y], ts⟩, ty, pos, after, none⟩ s :=
  ax_rule perm_rule ⟨id, n, blk, u, good, hx, hb, hle, hy, hd, hf, h⟩
end

/-! ### The sort -/
def prm (L : List (List T3)) (π : Nat → Nat) : List (List T3) := (List.range L.length).map fun i => tsAt L (π i)
@[simp] theorem prm_len (L : List (List T3)) (π : Nat → Nat) : (prm L π).length = L.length := by simp [prm]
theorem prm_at {L : List (List T3)} {π : Nat → Nat} {i : Nat} (h : i < L.length) : tsAt (prm L π) i = tsAt L (π i) := by simp [tsAt, prm, List.getD, h]

theorem cf_lt (a b : List T3) : decide (Lib.compareBytes (tx a).data.toList (tx b).data.toList < 0) = ltX a b := by
  have h := cmp_ge (a := tx a) (b := tx b)
  show _ = ltB (tx a) (tx b)
  cases e : ltB (tx a) (tx b) with
  | true => rw [e] at h; simp at h ⊢; omega
  | false => rw [e] at h; simp at h ⊢; omega

/-- How the rows compare. -/
def cfR (L : List (List T3)) (x y : Fin L.length) : Int := Lib.compareBytes (tx (tsAt L x)).data.toList (tx (tsAt L y)).data.toList
theorem cfR_lt (L : List (List T3)) (x y : Fin L.length) : ltOf (cfR L) x y = ltX (tsAt L x) (tsAt L y) := cf_lt _ _
theorem swoR (L : List (List T3)) : SWO (ltOf (cfR L)) where
  irrefl x := by rw [cfR_lt]; exact ltX_irr _
  trans x y z h1 h2 := by rw [cfR_lt] at *; exact ltX_trans h1 h2
  ntrans x y z h1 h2 := by
    rw [cfR_lt] at *
    cases e : ltX (tsAt L x) (tsAt L z) with
    | false => rfl
    | true =>
      cases e2 : ltX (tsAt L y) (tsAt L x) with
      | true => rw [ltX_trans e2 e] at h2; cases h2
      | false => rw [ltX_tot h1 e2] at e; rw [e] at h2; cases h2

theorem trow_of {w W : World} {b : Nat} {F : V} {l : List T3} {x : Value} (hF : isT l F) (hl : 1 ≤ l.length) (hr : Rd w (fun j => j ≠ b) F x) (hW : ∀ k, k ≠ b → k < w.heap.size → W.heap[k]? = w.heap[k]?) (hs : w.heap.size ≤ W.heap.size) : TRow W x l ∧ x.oneCell' = true := by
  obtain ⟨u, Z, rfl⟩ := hF
  obtain ⟨rfl, hZ, A, c, rfl, hc, h⟩ := hr
  obtain ⟨b', off, rfl, hb', hcell⟩ := h (by omega)
  have hne := (hZ b' hb').1
  obtain ⟨cu, e, hcu⟩ := (hZ b' hb').2
  have hlt := block_lt hcu
  refine ⟨⟨b', off, c, rfl, by omega, fun i hi => ?_⟩, rfl⟩
  obtain ⟨y, h1, h2⟩ := hcell i hi
  have h2 : y = .int .i64 (tf l i) := h2
  subst h2
  rw [World.cell?_of_block (w := w) (a := ⟨b', off + i, none⟩) (hW b' hne hlt)]
  exact h1

theorem extract_all {α : Type} (d : Array α) {n : Nat} (h : d.size = n) : d.extract 0 n = d := by subst h; exact Array.extract_size
theorem sortRow_pm (L : List (List T3)) (F : Nat → V) (hF : ∀ i, i < L.length → isT (tsAt L i) (F i)) (hL : ∀ i, i < L.length → 1 ≤ (tsAt L i).length ∧ (tsAt L i).length ≤ 12 ∧ Sml (tsAt L i)) (hl : L.length ≤ 1099511627776) :
    FnPm Tryd.prog 87 L.length F (.func (.func 81) #[] #[]) (fun π => SrtX (prm L π) ∧ (∀ t, t ∈ prm L π ↔ t ∈ L) ∧ ∀ i j, i < L.length → j < L.length → π i = π j → i = j) := by
  have eg : ∀ args w, (callFunc 81 args).run Tryd.prog w = .ok (.enter 81 args) w := Tryd.call81
  have nilc : ∀ (p : Option Addr) (cap : Nat) (w : World), L.length = 0 → Calls Tryd.prog 87 #[.slice p L.length cap, .func (.func 81) #[] #[]] w fun e w' => e = .returned (.tuple #[]) ∧ w' = w := fun p cap w h0 => by
    rw [h0]
    exact AnyF.slices_SortFunc_none { Tryd.sortRow with } p cap (.func (.func 81) #[] #[]) w
  have nilg : L.length = 0 → SrtX (prm L id) ∧ (∀ t, t ∈ prm L id ↔ t ∈ L) ∧ ∀ i j, i < L.length → j < L.length → id i = id j → i = j := fun h0 => by
    have : L = [] := List.length_eq_zero_iff.1 h0
    subst this
    exact ⟨fun i j _ hj => by simp at hj, fun t => by simp [prm], fun i j hi => by simp at hi⟩
  refine ⟨Tryd.call87, fun h0 => ⟨nilg h0, fun w hg => ?_⟩, fun w0 w b c cur e hg hbel hB hcur hn hc hcs => ?_⟩
  · have := nilc none 0 w h0
    rw [h0] at this
    refine this.mono ?_
    rintro e w' ⟨rfl, rfl⟩
    exact ⟨rfl, RowKit.Below.refl _ _⟩
  · rcases Nat.eq_zero_or_pos L.length with h0 | hpos
    · refine (nilc _ c w h0).mono ?_
      rintro e' w' ⟨rfl, rfl⟩
      exact ⟨rfl, ⟨rfl, rfl, rfl, Nat.le_refl _, fun _ _ _ => rfl⟩, cur, id, nilg h0, fun i hi => hi, hcur, rfl, fun i hi => rfl⟩
    have hblk : b < w.heap.size := block_lt hcur
    let inh : Inhabited (Fin L.length) := ⟨⟨0, hpos⟩⟩
    let enc : Fin L.length → Value := fun j => cur[j.val]!
    let d : Array (Fin L.length) := Array.ofFn fun j : Fin L.length => j
    have hd : d.size = L.length := Array.size_ofFn
    have hdj : ∀ j (hj : j < L.length), d[j]! = ⟨j, hj⟩ := fun j hj => by
      rw [getElem!_pos d j (by rw [hd]; exact hj)]; simp [d]
    have hcj : ∀ j, j < L.length → cur[j]? = some (cur[j]!) := fun j hj => by
      rw [getElem!_pos cur j (by omega), Array.getElem?_eq_getElem (by omega)]
    have hrow : ∀ (x : Fin L.length) (W : World), (∀ k, k ≠ b → k < w.heap.size → W.heap[k]? = w.heap[k]?) → w.heap.size ≤ W.heap.size → TRow W (enc x) (tsAt L x) ∧ (enc x).oneCell' = true := fun x W hW hs => by
      obtain ⟨v, h1, h2⟩ := hcs x x.2
      rw [hcj x x.2] at h1
      injection h1 with h1
      have := trow_of (hF x x.2) (hL x x.2).1 h2 hW hs
      rw [← h1] at this
      exact this
    have hone : OneCell enc := fun x => (hrow x w (fun _ _ _ => rfl) (Nat.le_refl _)).2
    have hH : Holds enc w b 0 d := fun j hj => by
      rw [hd] at hj
      refine ⟨?_, by simp [World.frozen?, hcur]⟩
      rw [Nat.zero_add, hdj j hj]
      exact cell_of_blk hcur (hcj j hj)
    have hput : ∀ (m : Nat) (dk : Array (Fin L.length)), (putRow enc (Sort.ahead w m) b 0 dk).heap = w.heap.modify b (onCells (putCells enc 0 dk)) := fun m dk => rfl
    have hps : ∀ (m : Nat) (dk : Array (Fin L.length)), (putRow enc (Sort.ahead w m) b 0 dk).heap.size = w.heap.size := fun m dk => by rw [hput]; simp
    have hat : ∀ (m : Nat) (dk : Array (Fin L.length)) (os : Array Obj) k, k < w.heap.size → (sortWorld enc w b 0 m dk os).heap[k]? = (w.heap.modify b (onCells (putCells enc 0 dk)))[k]? := fun m dk os k hk => by
      show ((putRow enc (Sort.ahead w m) b 0 dk).heap ++ os)[k]? = _
      rw [Array.getElem?_append_left (by rw [hps]; exact hk)]; rfl
    have hsz : ∀ (m : Nat) (dk : Array (Fin L.length)) (os : Array Obj), w.heap.size ≤ (sortWorld enc w b 0 m dk os).heap.size := fun m dk os => by
      show w.heap.size ≤ ((putRow enc (Sort.ahead w m) b 0 dk).heap ++ os).size
      rw [Array.size_append, hps]; omega
    have hoth : ∀ (m : Nat) (dk : Array (Fin L.length)) (os : Array Obj) k, k ≠ b → k < w.heap.size → (sortWorld enc w b 0 m dk os).heap[k]? = w.heap[k]? := fun m dk os k hne hk => by
      rw [hat m dk os k hk, Array.getElem?_modify, if_neg (fun e => hne e.symm)]
    have hcmp : CmpLays1 Tryd.prog 81 #[] enc (cfR L) b 0 d.size w := fun m os dk hs x y => by
      have hg' : Gl (sortWorld enc w b 0 m dk os) := hg.keep ⟨hbel.os, hbel.tape, hbel.output, Nat.le_trans hbel.size (hsz m dk os), fun k hk => by rw [hoth m dk os k (by omega) (by have := hbel.size; omega)]; exact hbel.block k hk⟩
      have := cmp_walk (hrow x _ (hoth m dk os) (hsz m dk os)).1 (hrow y _ (hoth m dk os) (hsz m dk os)).1 (hL x x.2).2.2 (hL y y.2).2.2 (hL x x.2).2.1 (hL y y.2).2.1 hg'
      have e0 : (#[enc x, enc y] ++ #[] : Array Value) = #[enc x, enc y] := by simp
      rw [e0]
      exact this
    have hcon := Any.slices_SortFunc Tryd.sortRow enc hone (cfR L) (swoR L) 81 #[] b 0 c d w eg hcmp hH hblk (by rw [hd]; omega)
    change Calls Tryd.prog 87 _ _ _ at hcon
    rw [hd] at hcon
    refine hcon.mono ?_
    rintro e' w' ⟨rfl, d', m, os, ⟨p1, _, p3⟩, hsrt, rfl⟩
    rw [hd] at p1
    have hl1 : d'.extract 0 L.length = d' := extract_all d' p1
    have hl2 : d.extract 0 L.length = d := extract_all d hd
    rw [hl1, hl2] at p3
    have hget : ∀ i (hi : i < L.length), d'[i]! = d'[i]'(by omega) := fun i hi => getElem!_pos d' i (by omega)
    refine ⟨rfl, ⟨rfl, rfl, rfl, hsz m d' os, fun k hk hne => hoth m d' os k hne hk⟩, putCells enc 0 d' cur, fun i => (d'[i]!).val, ⟨fun i j hij hj => ?_, fun t => ?_, fun i j hi hj e => ?_⟩, fun i hi => (d'[i]!).2, ?_, by simp [putCells], fun i hi => ?_⟩
    · rw [prm_len] at hj
      rw [prm_at hj, prm_at (by omega), ← cfR_lt]
      exact hsrt i j (Nat.zero_le _) hij hj
    · constructor
      · intro ht
        obtain ⟨k, hk, rfl⟩ := mem_ts ht
        rw [prm_len] at hk
        rw [prm_at hk]; exact ts_mem (d'[k]!).2
      · intro ht
        obtain ⟨k, hk, rfl⟩ := mem_ts ht
        have hm : (⟨k, hk⟩ : Fin L.length) ∈ d'.toList := by
          rw [p3.mem_iff]
          simp [d]
        obtain ⟨i, hi, he⟩ := List.getElem_of_mem hm
        have hi : i < d'.size := by simpa using hi
        have e2 : d'[i]! = ⟨k, hk⟩ := by rw [hget i (by omega)]; simpa using he
        have : tsAt L k = tsAt (prm L fun i => (d'[i]!).val) i := by rw [prm_at (by omega), e2]
        rw [this]; exact ts_mem (by rw [prm_len]; omega)
    · have hnd : d'.toList.Nodup := by
        rw [p3.nodup_iff, List.nodup_iff_pairwise_ne, List.pairwise_iff_getElem]
        intro i j hi hj hij
        simp [d]
        omega
      have e3 : d'[i]'(by omega) = d'[j]'(by omega) := by rw [← hget i hi, ← hget j hj]; exact Fin.ext e
      rw [List.nodup_iff_pairwise_ne, List.pairwise_iff_getElem] at hnd
      have hs2 : d'.toList.length = L.length := by simpa using p1
      rcases Nat.lt_trichotomy i j with h | h | h
      · exact absurd ((Array.getElem_toList (by omega)).trans (e3.trans (Array.getElem_toList (by omega)).symm)) (hnd i j (by omega) (by omega) h)
      · exact h
      · exact absurd ((Array.getElem_toList (by omega)).trans (e3.symm.trans (Array.getElem_toList (by omega)).symm)) (hnd j i (by omega) (by omega) h)
    · rw [hat m d' os b hblk, Array.getElem?_modify, if_pos rfl, hcur]; rfl
    · unfold putCells
      rw [Array.getElem?_mapIdx, Array.getElem?_eq_getElem (by omega)]
      simp only [Option.map_some, Nat.zero_le, true_and, Nat.zero_add, Nat.sub_zero]
      rw [if_pos (by omega)]
      exact (hcj _ (d'[i]!).2).symm
end Go.Proofs.YtpimjkhfookipaaDoor
