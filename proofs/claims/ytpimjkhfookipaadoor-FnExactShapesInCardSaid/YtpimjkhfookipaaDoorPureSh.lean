/- Shapes of plane polynomials as texts, plainly: both texts tell the same shapes apart. No conditions. -/
import Derived.Test.YtpimjkhfookipaaDoorPureTx
namespace Go.Proofs.YtpimjkhfookipaaDoor
set_option linter.unusedSimpArgs false
set_option linter.unusedVariables false
open Go.Proofs

/-- The exponents of a term, with a byte between them. -/
def itx (c : UInt8) (t : T3) : ByteArray := itoaB t.1 ++ ⟨#[c]⟩ ++ itoaB t.2.1 ++ ⟨#[59]⟩
def shK (c : UInt8) (l : List T3) : Nat → ByteArray
  | 0 => ⟨#[]⟩
  | k + 1 => shK c l k ++ itx c (tAt l k)
def shp (c : UInt8) (l : List T3) : ByteArray := shK c l l.length

theorem ofNat_ne {v : Nat} (h : v < 10) {c : UInt8} (hc : c = 44 ∨ c = 32) : UInt8.ofNat (48 + v) ≠ c := by
  rcases (show v = 0 ∨ v = 1 ∨ v = 2 ∨ v = 3 ∨ v = 4 ∨ v = 5 ∨ v = 6 ∨ v = 7 ∨ v = 8 ∨ v = 9 by omega) with rfl | rfl | rfl | rfl | rfl | rfl | rfl | rfl | rfl | rfl <;> rcases hc with rfl | rfl <;> decide
theorem dec_ne (u : Nat) {c : UInt8} (hc : c = 44 ∨ c = 32) : ∀ x ∈ Lib.decDigits u, x ≠ c := by
  induction u using Nat.strongRecOn with
  | _ u ih =>
    rw [Lib.decDigits]
    split
    · intro x hx
      rw [List.mem_singleton] at hx
      subst hx
      exact ofNat_ne (by omega) hc
    · intro x hx
      rw [List.mem_append, List.mem_singleton] at hx
      rcases hx with hx | rfl
      · exact ih (u / 10) (by omega) x hx
      · exact ofNat_ne (by omega) hc

/-- Each byte c turned into d. -/
def swB (c d : UInt8) (b : ByteArray) : ByteArray := ⟨((bytesOf b).map fun x => if x = c then d else x).toArray⟩
theorem swB_app (c d : UInt8) (a b : ByteArray) : swB c d (a ++ b) = swB c d a ++ swB c d b := by
  apply bx_ext
  rw [bx_app]
  unfold swB
  rw [bx_app, List.map_append]
  rfl
theorem swB_itoa {c d : UInt8} (hc : c = 44 ∨ c = 32) {n : Int} (h : 0 ≤ n) : swB c d (itoaB n) = itoaB n := by
  apply bx_ext
  rw [itoaB_nonneg h]
  show (Lib.decDigits n.toNat).map _ = Lib.decDigits n.toNat
  have := dec_ne n.toNat hc
  generalize Lib.decDigits n.toNat = l at *
  induction l with
  | nil => rfl
  | cons x l ih =>
    rw [List.map_cons, if_neg (this x (by simp)), ih fun y hy => this y (by simp [hy])]
theorem swB_itx {c d : UInt8} (hc : c = 44 ∨ c = 32) {t : T3} (h1 : 0 ≤ t.1) (h2 : 0 ≤ t.2.1) : swB c d (itx c t) = itx d t := by
  unfold itx
  rw [swB_app, swB_app, swB_app, swB_itoa hc h1, swB_itoa hc h2]
  have e1 : swB c d ⟨#[c]⟩ = ⟨#[d]⟩ := by
    apply bx_ext; show (if c = c then d else c) :: [] = [d]; rw [if_pos rfl]
  have e2 : swB c d ⟨#[59]⟩ = ⟨#[59]⟩ := by
    apply bx_ext; show (if (59 : UInt8) = c then d else 59) :: [] = [59]; rw [if_neg (by rcases hc with rfl | rfl <;> decide)]
  rw [e1, e2]
theorem swB_shK {c d : UInt8} (hc : c = 44 ∨ c = 32) {l : List T3} (h : Sml l) : ∀ k, k ≤ l.length → swB c d (shK c l k) = shK d l k
  | 0, _ => rfl
  | k + 1, hk => by
    show swB c d (shK c l k ++ itx c (tAt l k)) = shK d l k ++ itx d (tAt l k)
    rw [swB_app, swB_shK hc h k (by omega), swB_itx hc (h k (by omega)).1 (h k (by omega)).2.2.1]
theorem shp_sw {c d : UInt8} (hc : c = 44 ∨ c = 32) {l : List T3} (h : Sml l) : swB c d (shp c l) = shp d l := swB_shK hc h _ (Nat.le_refl _)
/-- Both texts tell the same shapes apart. -/
theorem shp_iff {l m : List T3} (hl : Sml l) (hm : Sml m) : shp 44 l = shp 44 m ↔ shp 32 l = shp 32 m := by
  constructor
  · intro h; rw [← shp_sw (c := 44) (.inl rfl) hl, ← shp_sw (c := 44) (.inl rfl) hm, h]
  · intro h; rw [← shp_sw (c := 32) (.inr rfl) hl, ← shp_sw (c := 32) (.inr rfl) hm, h]
theorem itx_size {c : UInt8} {t : T3} (h : 0 ≤ t.1 ∧ t.1 ≤ 1000000 ∧ 0 ≤ t.2.1 ∧ t.2.1 ≤ 1000000) : (itx c t).size ≤ 4000000 := by
  unfold itx
  simp only [ByteArray.size_append]
  have h1 := itoaB_size t.1
  have h2 := itoaB_size t.2.1
  have e1 : (⟨#[c]⟩ : ByteArray).size = 1 := rfl
  have e2 : (⟨#[59]⟩ : ByteArray).size = 1 := rfl
  omega
theorem shK_size {c : UInt8} {l : List T3} (h : Sml l) : ∀ k, k ≤ l.length → (shK c l k).size ≤ 4000000 * k
  | 0, _ => by show 0 ≤ _; omega
  | k + 1, hk => by
    show (shK c l k ++ itx c (tAt l k)).size ≤ _
    rw [ByteArray.size_append]
    have h1 := shK_size (c := c) h k (by omega)
    have h2 := h k (by omega)
    have := itx_size (c := c) (t := tAt l k) ⟨h2.1, h2.2.1, h2.2.2.1, h2.2.2.2.1⟩
    omega

def hasB (x : ByteArray) : List ByteArray → Bool
  | [] => false
  | y :: l => if y = x then true else hasB x l
theorem hasB_iff (x : ByteArray) : ∀ l : List ByteArray, hasB x l = true ↔ x ∈ l
  | [] => ⟨fun h => (nomatch h), fun h => (nomatch h)⟩
  | y :: l => by
    show (if y = x then true else hasB x l) = true ↔ _
    split
    · rename_i h; exact ⟨fun _ => by rw [h]; exact List.mem_cons_self, fun _ => rfl⟩
    · rename_i h
      rw [hasB_iff x l, List.mem_cons]
      exact ⟨.inr, fun h2 => h2.resolve_left fun h3 => h h3.symm⟩
/-- The texts met so far, each once. -/
def metL (f : Nat → ByteArray) : Nat → List ByteArray
  | 0 => []
  | k + 1 => if hasB (f k) (metL f k) = true then metL f k else metL f k ++ [f k]
theorem metL_le (f : Nat → ByteArray) : ∀ k, (metL f k).length ≤ k
  | 0 => Nat.le_refl _
  | k + 1 => by
    show (if hasB (f k) (metL f k) = true then metL f k else metL f k ++ [f k]).length ≤ _
    have := metL_le f k
    split
    · omega
    · rw [List.length_append, List.length_singleton]; omega
theorem metL_mem (f : Nat → ByteArray) : ∀ k x, x ∈ metL f k ↔ ∃ i, i < k ∧ x = f i
  | 0, x => ⟨fun h => (nomatch h), fun ⟨i, hi, _⟩ => by omega⟩
  | k + 1, x => by
    show x ∈ (if hasB (f k) (metL f k) = true then metL f k else metL f k ++ [f k]) ↔ _
    have ih := metL_mem f k
    split
    · rename_i h
      rw [ih x]
      constructor
      · rintro ⟨i, hi, e⟩; exact ⟨i, by omega, e⟩
      · rintro ⟨i, hi, e⟩
        by_cases e2 : i = k
        · subst e2; exact (ih x).1 (by rw [e]; exact (hasB_iff _ _).1 h)
        · exact ⟨i, by omega, e⟩
    · rw [List.mem_append, ih x, List.mem_singleton]
      constructor
      · rintro (⟨i, hi, e⟩ | e)
        · exact ⟨i, by omega, e⟩
        · exact ⟨k, by omega, e⟩
      · rintro ⟨i, hi, e⟩
        by_cases e2 : i = k
        · subst e2; exact .inr e
        · exact .inl ⟨i, by omega, e⟩
theorem metL_same {f g : Nat → ByteArray} {n : Nat} (h : ∀ i j, i < n → j < n → (f i = f j ↔ g i = g j)) : ∀ k, k ≤ n → (metL f k).length = (metL g k).length
  | 0, _ => rfl
  | k + 1, hk => by
    have ih := metL_same h k (by omega)
    have e : hasB (f k) (metL f k) = true ↔ hasB (g k) (metL g k) = true := by
      rw [hasB_iff, hasB_iff, metL_mem, metL_mem]
      constructor
      · rintro ⟨i, hi, e⟩; exact ⟨i, hi, (h k i (by omega) (by omega)).1 e⟩
      · rintro ⟨i, hi, e⟩; exact ⟨i, hi, (h k i (by omega) (by omega)).2 e⟩
    show (if hasB (f k) (metL f k) = true then metL f k else metL f k ++ [f k]).length = (if hasB (g k) (metL g k) = true then metL g k else metL g k ++ [g k]).length
    by_cases h2 : hasB (f k) (metL f k) = true
    · rw [if_pos h2, if_pos (e.1 h2), ih]
    · rw [if_neg h2, if_neg (fun h => h2 (e.2 h)), List.length_append, List.length_append, ih]; rfl

/-- What ShapesIn returns. -/
def shpN (L : List (List T3)) : Nat := (metL (fun i => shp 44 (tsAt L i)) L.length).length
def shpR (L : List (List T3)) : Int × Bool := if ctB L then (((shpN L : Nat) : Int), true) else (0, false)
theorem shp_no {L : List (List T3)} (h : ctB L = false) : shpR L = (0, false) := by unfold shpR; rw [h]; rfl
theorem shp_yes {L : List (List T3)} (h : ctB L = true) : shpR L = (((shpN L : Nat) : Int), true) := by unfold shpR; rw [h]; rfl
theorem shp_32 {L : List (List T3)} (h : ctB L = true) : shpN L = (metL (fun i => shp 32 (tsAt L i)) L.length).length := by
  obtain ⟨h10, hall⟩ := ctB_is h
  exact metL_same (n := L.length) (fun i j hi hj => shp_iff (ctk_sml (hall i hi)).1 (ctk_sml (hall j hj)).1) _ (Nat.le_refl _)
end Go.Proofs.YtpimjkhfookipaaDoor
