/- A function's contract out of its body. No conditions. -/
import Derived.Test.YtpolbgenoicckaaEngE
namespace Go.Proofs.Ytpolbgenoicckaa
set_option linter.unusedSimpArgs false
set_option linter.unusedVariables false
open Go.RowKit

/-- Two values that read alike. -/
def VE : V → V → Prop
  | .val a, .val b => a = b
  | .seq sz n f, .seq sz' n' g => sz = sz' ∧ n = n' ∧ ∀ i, i < n * sz → VE (f i) (g i)
  | .agg n f, .agg n' g => n = n' ∧ ∀ i, i < n → VE (f i) (g i)
  | .pin n f, .pin n' g => n = n' ∧ ∀ i, i < n → VE (f i) (g i)
  | .clo f0 n f, .clo f1 n' g => f0 = f1 ∧ n = n' ∧ ∀ i, i < n → VE (f i) (g i)
  | .old n v, .old n' v' => n = n' ∧ VE v v'
  | .row u Z sz n f, .row u' Z' sz' n' g => u = u' ∧ Z = Z' ∧ sz = sz' ∧ n = n' ∧ ∀ i, i < n * sz → VE (f i) (g i)
  | _, _ => False

theorem VE.rfl' : ∀ v : V, VE v v
  | .val _ => rfl
  | .seq _ _ f => ⟨rfl, rfl, fun i _ => VE.rfl' (f i)⟩
  | .agg _ f => ⟨rfl, fun i _ => VE.rfl' (f i)⟩
  | .pin _ f => ⟨rfl, fun i _ => VE.rfl' (f i)⟩
  | .clo _ _ f => ⟨rfl, rfl, fun i _ => VE.rfl' (f i)⟩
  | .old _ v => ⟨rfl, VE.rfl' v⟩
  | .row _ _ _ _ f => ⟨rfl, rfl, rfl, rfl, fun i _ => VE.rfl' (f i)⟩

theorem VE.of_eq {v v' : V} (h : v = v') : VE v v' := h ▸ VE.rfl' v

theorem VE.rd {w : World} {S : Nat → Prop} : ∀ (v v' : V) (u : Value), VE v v' → Rd w S v u → Rd w S v' u
  | .val _, .val _, _, h, hr => by cases h; exact hr
  | .seq sz n f, .seq sz' n' g, u, h, hr => by
    obtain ⟨rfl, rfl, h⟩ := h
    obtain ⟨A, c, rfl, hc, hr⟩ := hr
    refine ⟨A, c, rfl, hc, fun hp => ?_⟩
    obtain ⟨b, off, rfl, hS, hr⟩ := hr hp
    refine ⟨b, off, rfl, hS, fun i hi => ?_⟩
    obtain ⟨x, hx, hr⟩ := hr i hi
    exact ⟨x, hx, VE.rd (f i) (g i) x (h i hi) hr⟩
  | .agg n f, .agg n' g, u, h, hr => by
    obtain ⟨rfl, h⟩ := h
    obtain ⟨cs, rfl, hn, hr⟩ := hr
    refine ⟨cs, rfl, hn, fun i hi => ?_⟩
    obtain ⟨x, hx, hr⟩ := hr i hi
    exact ⟨x, hx, VE.rd (f i) (g i) x (h i hi) hr⟩
  | .pin n f, .pin n' g, u, h, hr => by
    obtain ⟨rfl, h⟩ := h
    obtain ⟨b, off, rfl, hr⟩ := hr
    refine ⟨b, off, rfl, fun i hi => ?_⟩
    obtain ⟨hS, x, hx, hr⟩ := hr i hi
    exact ⟨hS, x, hx, VE.rd (f i) (g i) x (h i hi) hr⟩
  | .clo f0 n f, .clo f1 n' g, u, h, hr => by
    obtain ⟨rfl, rfl, h⟩ := h
    obtain ⟨cs, rfl, hn, hr⟩ := hr
    refine ⟨cs, rfl, hn, fun i hi => ?_⟩
    obtain ⟨x, hx, hr⟩ := hr i hi
    exact ⟨x, hx, VE.rd (f i) (g i) x (h i hi) hr⟩
  | .old n v, .old n' v', u, h, hr => by
    obtain ⟨rfl, h⟩ := h
    exact ⟨hr.1, VE.rd (S := n) v v' u h hr.2⟩
  | .row u0 Z sz n f, .row u0' Z' sz' n' g, u, h, hr => by
    obtain ⟨rfl, rfl, rfl, rfl, h⟩ := h
    obtain ⟨e, hz, A, c, hu, hc, hr⟩ := hr
    refine ⟨e, hz, A, c, hu, hc, fun hp => ?_⟩
    obtain ⟨b, off, hA, hS, hr⟩ := hr hp
    refine ⟨b, off, hA, hS, fun i hi => ?_⟩
    obtain ⟨x, hx, hr⟩ := hr i hi
    exact ⟨x, hx, VE.rd (f i) (g i) x (h i hi) hr⟩
  | .val _, .seq _ _ _, _, h, _ => h.elim
  | .val _, .agg _ _, _, h, _ => h.elim
  | .val _, .pin _ _, _, h, _ => h.elim
  | .val _, .clo _ _ _, _, h, _ => h.elim
  | .seq _ _ _, .val _, _, h, _ => h.elim
  | .seq _ _ _, .agg _ _, _, h, _ => h.elim
  | .seq _ _ _, .pin _ _, _, h, _ => h.elim
  | .seq _ _ _, .clo _ _ _, _, h, _ => h.elim
  | .agg _ _, .val _, _, h, _ => h.elim
  | .agg _ _, .seq _ _ _, _, h, _ => h.elim
  | .agg _ _, .pin _ _, _, h, _ => h.elim
  | .agg _ _, .clo _ _ _, _, h, _ => h.elim
  | .pin _ _, .val _, _, h, _ => h.elim
  | .pin _ _, .seq _ _ _, _, h, _ => h.elim
  | .pin _ _, .agg _ _, _, h, _ => h.elim
  | .pin _ _, .clo _ _ _, _, h, _ => h.elim
  | .clo _ _ _, .val _, _, h, _ => h.elim
  | .clo _ _ _, .seq _ _ _, _, h, _ => h.elim
  | .clo _ _ _, .agg _ _, _, h, _ => h.elim
  | .clo _ _ _, .pin _ _, _, h, _ => h.elim
  | .val _, .old _ _, _, h, _ => h.elim
  | .val _, .row _ _ _ _ _, _, h, _ => h.elim
  | .seq _ _ _, .old _ _, _, h, _ => h.elim
  | .seq _ _ _, .row _ _ _ _ _, _, h, _ => h.elim
  | .agg _ _, .old _ _, _, h, _ => h.elim
  | .agg _ _, .row _ _ _ _ _, _, h, _ => h.elim
  | .pin _ _, .old _ _, _, h, _ => h.elim
  | .pin _ _, .row _ _ _ _ _, _, h, _ => h.elim
  | .clo _ _ _, .old _ _, _, h, _ => h.elim
  | .clo _ _ _, .row _ _ _ _ _, _, h, _ => h.elim
  | .old _ _, .val _, _, h, _ => h.elim
  | .old _ _, .seq _ _ _, _, h, _ => h.elim
  | .old _ _, .agg _ _, _, h, _ => h.elim
  | .old _ _, .pin _ _, _, h, _ => h.elim
  | .old _ _, .clo _ _ _, _, h, _ => h.elim
  | .old _ _, .row _ _ _ _ _, _, h, _ => h.elim
  | .row _ _ _ _ _, .val _, _, h, _ => h.elim
  | .row _ _ _ _ _, .seq _ _ _, _, h, _ => h.elim
  | .row _ _ _ _ _, .agg _ _, _, h, _ => h.elim
  | .row _ _ _ _ _, .pin _ _, _, h, _ => h.elim
  | .row _ _ _ _ _, .clo _ _ _, _, h, _ => h.elim
  | .row _ _ _ _ _, .old _ _, _, h, _ => h.elim

/-- Two blocks that read alike. -/
def BE (b b' : Blk) : Prop := b.elem = b'.elem ∧ b'.n ≤ b.n ∧ ∀ i, i < b'.n → VE (b.f i) (b'.f i)

theorem BE.rfl' (b : Blk) : BE b b := ⟨rfl, Nat.le_refl _, fun _ _ => VE.rfl' _⟩

/-- A slot's value is a result. -/
def fits (h : List (Option Blk)) : SV → RV → Prop
  | .pv v, .pv v' => VE v v'
  | .own id sz off len, .fr sz' len' b' => off = 0 ∧ sz = sz' ∧ len = len' ∧ ∃ b, h[id]? = some (some b) ∧ BE b b'
  | .pv (.val (.slice none 0 0)), .fr _ len' b' => len' = 0 ∧ b'.n = 0
  | _, _ => False

def fitsL (h : List (Option Blk)) : List SV → List RV → Prop
  | [], [] => True
  | v :: vs, r :: rs => fits h v r ∧ fitsL h vs rs
  | _, _ => False

def blksOf : List RV → List Blk
  | [] => []
  | .pv _ :: r => blksOf r
  | .fr _ _ b :: r => b :: blksOf r

/-- Where the own results come from. -/
def srcs : List SV → List RV → List (Option Nat)
  | .own id _ _ _ :: vs, .fr _ _ _ :: rs => some id :: srcs vs rs
  | _ :: vs, .fr _ _ _ :: rs => none :: srcs vs rs
  | _ :: vs, .pv _ :: rs => srcs vs rs
  | _, _ => []

def ND : List (Option Nat) → Prop
  | [] => True
  | none :: r => ND r
  | some a :: r => some a ∉ r ∧ ND r

theorem ND.inj : ∀ {l : List (Option Nat)}, ND l → ∀ (i j a : Nat), l[i]? = some (some a) → l[j]? = some (some a) → i = j
  | [], _, i, _, _, h, _ => by simp at h
  | none :: r, h, i, j, a, hi, hj => by
    cases i <;> cases j <;> simp at hi hj
    rw [ND.inj (l := r) h _ _ a hi hj]
  | some b :: r, h, i, j, a, hi, hj => by
    cases i <;> cases j <;> simp at hi hj
    · rfl
    · subst hi; exact absurd (List.mem_of_getElem? hj) h.1
    · subst hj; exact absurd (List.mem_of_getElem? hi) h.1
    · rw [ND.inj (l := r) h.2 _ _ a hi hj]

theorem bring_blks (rs : List RV) : ∀ g : List (Option Blk), (bring rs g).2 = g ++ (blksOf rs).map some := by
  induction rs with
  | nil => intro g; simp [bring, blksOf]
  | cons r rs ih => intro g; cases r with
    | pv v => exact ih g
    | fr sz len b => simp only [bring, blksOf]; rw [ih]; simp

theorem fits_nil {h : List (Option Blk)} {v : V} {sz len : Nat} {b : Blk} (hf : fits h (.pv v) (.fr sz len b)) : v = .val (.slice none 0 0) ∧ len = 0 ∧ b.n = 0 := by
  unfold fits at hf
  split at hf <;> simp_all

theorem fitsL_src {h : List (Option Blk)} : ∀ (vs : List SV) (rs : List RV), fitsL h vs rs → (srcs vs rs).length = (blksOf rs).length ∧
    ∀ (k : Nat) (b' : Blk), (blksOf rs)[k]? = some b' → ((srcs vs rs)[k]? = some none ∧ b'.n = 0) ∨ ∃ id b, (srcs vs rs)[k]? = some (some id) ∧ h[id]? = some (some b) ∧ BE b b'
  | [], [], _ => ⟨rfl, fun k b' hk => by simp [blksOf] at hk⟩
  | [], _ :: _, hf => hf.elim
  | _ :: _, [], hf => hf.elim
  | v :: vs, r :: rs, hf => by
    obtain ⟨h1, h2⟩ := hf
    obtain ⟨ih1, ih2⟩ := fitsL_src vs rs h2
    cases r with
    | pv v' => cases v <;> exact ⟨ih1, ih2⟩
    | fr sz' len' b'' =>
      cases v with
      | own id sz off len =>
        obtain ⟨_, _, _, b, hb, he⟩ := h1
        refine ⟨by simp [srcs, blksOf, ih1], fun k b' hk => ?_⟩
        cases k with
        | zero => simp [blksOf] at hk; subst hk; exact .inr ⟨id, b, rfl, hb, he⟩
        | succ k => simp [blksOf] at hk; simpa [srcs] using ih2 k b' hk
      | pv v =>
        refine ⟨by simp [srcs, blksOf, ih1], fun k b' hk => ?_⟩
        cases k with
        | zero =>
          simp [blksOf] at hk; subst hk
          refine .inl ⟨rfl, ?_⟩
          exact (fits_nil h1).2.2
        | succ k => simp [blksOf] at hk; simpa [srcs] using ih2 k b' hk
      | ptr id off => exact h1.elim
      | pin n f => exact h1.elim

section
variable {w0 : World} {S0 : Nat → Prop} {s : ASt} {φ : List (Option (Nat × Nat))} {a : Act} {w : World}

/-- Where the results' own blocks lie. -/
def places (φ : List (Option (Nat × Nat))) (l : List (Option Nat)) : List (Option (Nat × Nat)) := l.map fun x => x.bind fun id => (φ[id]?).join

theorem SimAt.results_heap (sim : SimAt w0 S0 s φ a w) {vs : List SV} {rs : List RV} (hf : fitsL s.h vs rs) (hnd : ND (srcs vs rs)) :
    Heap w0 S0 ((blksOf rs).map some) (places φ (srcs vs rs)) w ∧ ∀ b, Stab w0 S0 s.h φ b → Stab w0 S0 ((blksOf rs).map some) (places φ (srcs vs rs)) b := by
  obtain ⟨h1, h2⟩ := fitsL_src vs rs hf
  have src : ∀ (k : Nat) (b' : Blk), ((blksOf rs).map some)[k]? = some (some b') → ((places φ (srcs vs rs))[k]? = some none ∧ b'.n = 0) ∨
      ∃ id b, (srcs vs rs)[k]? = some (some id) ∧ s.h[id]? = some (some b) ∧ BE b b' ∧ (places φ (srcs vs rs))[k]? = some ((φ[id]?).join) := fun k b' hk => by
    have hk' : (blksOf rs)[k]? = some b' := by simpa [List.getElem?_map, Option.map_eq_some_iff] using hk
    rcases h2 k b' hk' with ⟨h3, h4⟩ | ⟨id, b, h3, h4, h5⟩
    · exact .inl ⟨by simp [places, h3], h4⟩
    · exact .inr ⟨id, b, h3, h4, h5, by simp [places, h3]⟩
  have hst : ∀ b, Stab w0 S0 s.h φ b → Stab w0 S0 ((blksOf rs).map some) (places φ (srcs vs rs)) b := fun b hb => ⟨hb.1, fun ⟨k, b', z, hk, hp⟩ => by
    rcases src k b' hk with ⟨h3, _⟩ | ⟨id, b0, _, h4, _, h5⟩
    · rw [hp] at h3; cases h3
    · rw [hp] at h5
      injection h5 with h5
      refine hb.2 ⟨id, b0, z, h4, ?_⟩
      cases hφ : φ[id]? with
      | none => rw [hφ] at h5; cases h5
      | some x => rw [hφ] at h5; simp at h5; rw [h5]⟩
  refine ⟨⟨by simp [places, h1], sim.heap.below, fun k b' hk => ?_, fun i j bi bj b z z' hi hj hi' hj' => ?_⟩, hst⟩
  · rcases src k b' hk with h3 | ⟨id, b, _, h4, h5, h6⟩
    · exact .inl h3
    · rcases sim.heap.blk id b h4 with ⟨h7, h8⟩ | ⟨bb, cur, h7, h8, h9, h10, h11⟩
      · exact .inl ⟨by rw [h6, h7]; rfl, by have := h5.2.1; omega⟩
      · refine .inr ⟨bb, cur, by rw [h6, h7]; rfl, h8, by rw [← h5.1]; exact h9, by have := h5.2.1; omega, fun i hi => ?_⟩
        obtain ⟨x, hx, hr⟩ := h11 i (by have := h5.2.1; omega)
        exact ⟨x, hx, VE.rd _ _ _ (h5.2.2 i hi) (Rd.mono (fun b hb _ => ⟨hst b hb, rfl⟩) _ _ hr)⟩
  · rcases src i bi hi with ⟨h3, _⟩ | ⟨id, b0, h3, h4, _, h5⟩
    · rw [hi'] at h3; cases h3
    · rcases src j bj hj with ⟨h6, _⟩ | ⟨id', b0', h6, h7, _, h8⟩
      · rw [hj'] at h6; cases h6
      · rw [hi'] at h5; rw [hj'] at h8
        injection h5 with h5; injection h8 with h8
        have e1 : φ[id]? = some (some (b, z)) := by
          cases hφ : φ[id]? with
          | none => rw [hφ] at h5; cases h5
          | some x => rw [hφ] at h5; simp at h5; rw [h5]
        have e2 : φ[id']? = some (some (b, z')) := by
          cases hφ : φ[id']? with
          | none => rw [hφ] at h8; cases h8
          | some x => rw [hφ] at h8; simp at h8; rw [h8]
        have := sim.heap.inj id id' b0 b0' b z z' h4 h7 e1 e2
        subst this
        exact hnd.inj i j id h3 h6

theorem results_slots {S S' : Nat → Prop} {h : List (Option Blk)} (hS : ∀ b, S b → S' b) : ∀ (vs : List SV) (rs : List RV) (us : List Value) (g : List (Option Blk)) (ψ : List (Option (Nat × Nat))), ψ.length = g.length →
    fitsL h vs rs → RdSs w S φ vs us → RdSs w S' (ψ ++ places φ (srcs vs rs)) (bring rs g).1 us
  | [], [], us, _, _, _, _, hr => by cases us with | nil => trivial | cons _ _ => exact hr.elim
  | [], _ :: _, _, _, _, _, hf, _ => hf.elim
  | _ :: _, [], _, _, _, _, hf, _ => hf.elim
  | _ :: _, _ :: _, [], _, _, _, _, hr => hr.elim
  | v :: vs, r :: rs, u :: us, g, ψ, hl, hf, hr => by
    have hs : ∀ b, S b → b < w.heap.size → S' b ∧ w.heap[b]? = w.heap[b]? := fun b h _ => ⟨hS b h, rfl⟩
    obtain ⟨f1, f2⟩ := hf
    obtain ⟨r1, r2⟩ := hr
    cases r with
    | pv v' =>
      cases v with
      | pv v0 => exact ⟨VE.rd v0 v' u f1 (Rd.mono hs _ _ r1), results_slots hS vs rs us g ψ hl f2 r2⟩
      | own _ _ _ _ => exact f1.elim
      | ptr _ _ => exact f1.elim
      | pin _ _ => exact f1.elim
    | fr sz' len' b' =>
      have key : ∀ x : Option (Nat × Nat), RdS w S' (ψ ++ (x :: places φ (srcs vs rs))) (.own g.length sz' 0 len') u → RdSs w S' (ψ ++ (x :: places φ (srcs vs rs))) (bring (.fr sz' len' b' :: rs) g).1 (u :: us) := fun x hx => by
        refine ⟨hx, ?_⟩
        have := results_slots hS vs rs us (g ++ [some b']) (ψ ++ [x]) (by simp [hl]) f2 r2
        rw [List.append_assoc] at this
        exact this
      cases v with
      | own id sz off len =>
        obtain ⟨rfl, rfl, rfl, b, hb, he⟩ := f1
        refine key _ ?_
        have e : (ψ ++ (((some id).bind fun id => (φ[id]?).join) :: places φ (srcs vs rs)))[g.length]? = some (φ[id]?).join := by
          rw [← hl, List.getElem?_append_right (Nat.le_refl _)]; simp
        rcases r1 with ⟨h1, h2⟩ | ⟨b1, c, z, h1, h2⟩
        · exact .inl ⟨by rw [e, h1]; rfl, h2⟩
        · exact .inr ⟨b1, c, z, by rw [e, h1]; rfl, h2⟩
      | pv v0 =>
        refine key none ?_
        have e : (ψ ++ (none :: places φ (srcs vs rs)))[g.length]? = some none := by
          rw [← hl, List.getElem?_append_right (Nat.le_refl _)]; simp
        obtain ⟨rfl, rfl, _⟩ := fits_nil f1
        exact .inl ⟨e, rfl, rfl, r1⟩
      | ptr _ _ => exact f1.elim
      | pin _ _ => exact f1.elim

end
end Go.Proofs.Ytpolbgenoicckaa
