/- States that nothing needs, plainly: the marks of matrices turned round, and the list. Conditions: square matrices. -/
import Derived.Test.YtpimjkhfookipaaFnNd
import Derived.Test.YtpimjkhfookipaaTurnH
namespace Go.Proofs.Ytpimjkhfookipaa
open Go.RowKit Go.Proofs
set_option linter.unusedSimpArgs false
set_option linter.unusedVariables false

theorem inT_congr {E E' : Nat → Nat → Bool} {n s : Nat} (hs : s < n) (h : ∀ s t, s < n → t < n → E s t = E' s t) : ∀ (T : Nat) (mk : Nat → Bool), T ≤ n → inT E s T mk = inT E' s T mk
  | 0, _, _ => rfl
  | T + 1, mk, hT => by
    show (fun q => if q = s then (inT E s T mk s || (E s T && inT E s T mk T)) else inT E s T mk q) = fun q => if q = s then (inT E' s T mk s || (E' s T && inT E' s T mk T)) else inT E' s T mk q
    rw [inT_congr hs h T mk (by omega), h s T hs (by omega)]
theorem inS_congr {E E' : Nat → Nat → Bool} {n : Nat} (h : ∀ s t, s < n → t < n → E s t = E' s t) : ∀ (S : Nat) (mk : Nat → Bool), S ≤ n → inS E n S mk = inS E' n S mk
  | 0, _, _ => rfl
  | S + 1, mk, hS => by
    show inT E S n (inS E n S mk) = inT E' S n (inS E' n S mk)
    rw [inS_congr h S mk (by omega), inT_congr (show S < n by omega) h n _ (Nat.le_refl _)]
theorem inM_congr {E E' : Nat → Nat → Nat → Bool} {n L : Nat} (h : ∀ m s t, m < L → s < n → t < n → E m s t = E' m s t) : ∀ (M : Nat) (mk : Nat → Bool), M ≤ L → inM E n M mk = inM E' n M mk
  | 0, _, _ => rfl
  | M + 1, mk, hM => by
    show inS (E M) n n (inM E n M mk) = inS (E' M) n n (inM E' n M mk)
    rw [inM_congr h M mk (by omega), inS_congr (fun s t => h M s t (by omega)) n _ (Nat.le_refl _)]
theorem rnd_congr {E E' : Nat → Nat → Nat → Bool} {n L : Nat} (h : ∀ m s t, m < L → s < n → t < n → E m s t = E' m s t) : ∀ (r : Nat) (mk : Nat → Bool), rnd E n L r mk = rnd E' n L r mk
  | 0, _ => rfl
  | r + 1, mk => by
    show inM E n L (rnd E n L r mk) = inM E' n L (rnd E' n L r mk)
    rw [rnd_congr h r mk, inM_congr h L _ (Nat.le_refl _)]

theorem entA_turn {n : Nat} {s : List (List (List Int))} (hq : SqA n s) {m i j : Nat} (hm : m < s.length) (hi : i < n) (hj : j < n) : entA (s.map turnM) m i j = entA s m j i := by
  obtain ⟨h1, h2⟩ := hq.2.2 m hm
  unfold entA
  rw [matAt_map hm, turnM_at (by rw [h2 0 (by omega)]; omega), colP_get (by omega)]
theorem SqA.turn {n : Nat} {s : List (List (List Int))} (hn : 0 < n) (hq : SqA n s) : SqA n (s.map turnM) := by
  refine ⟨by rw [List.length_map]; exact hq.1, hq.2.1, fun m hm => ?_⟩
  rw [List.length_map] at hm
  obtain ⟨h1, h2⟩ := hq.2.2 m hm
  rw [matAt_map hm, turnM_len]
  have h0 := h2 0 hn
  exact ⟨h0, fun i hi => by rw [turnM_at (by omega), colP_len]; exact h1⟩
theorem rnd_turnB {n : Nat} {s : List (List (List Int))} (hq : SqA n s) (r : Nat) (mk : Nat → Bool) : rnd (edB (s.map turnM)) n (s.map turnM).length r mk = rnd (edF s) n s.length r mk := by
  rw [List.length_map]
  exact rnd_congr (fun m i j hm hi hj => by unfold edB edF; rw [entA_turn hq hm hi hj]) r mk
theorem rnd_turnF {n : Nat} {s : List (List (List Int))} (hq : SqA n s) (r : Nat) (mk : Nat → Bool) : rnd (edF (s.map turnM)) n (s.map turnM).length r mk = rnd (edB s) n s.length r mk := by
  rw [List.length_map]
  exact rnd_congr (fun m i j hm hi hj => by unfold edB edF; rw [entA_turn hq hm hj hi]) r mk
theorem autB_sq {a e : List Int} {s : List (List (List Int))} (h : autB a e s = true) : SqA a.length s := by
  have hg := autB_get h
  exact ⟨by omega, by omega, fun m hm => ⟨(hg.2.2.2.2.2 m hm).1, fun i hi => ((hg.2.2.2.2.2 m hm).2 i hi).1⟩⟩

/-- The states below k that one of two marks lacks. -/
def ndL (f g : Nat → Bool) : Nat → List Int
  | 0 => []
  | k + 1 => if (!f k || !g k) = true then ndL f g k ++ [(k : Int)] else ndL f g k
theorem ndL_yes {f g : Nat → Bool} {k : Nat} (h : (!f k || !g k) = true) : ndL f g (k + 1) = ndL f g k ++ [(k : Int)] := by show (if _ then _ else _) = _; rw [if_pos h]
theorem ndL_no {f g : Nat → Bool} {k : Nat} (h : ¬ (!f k || !g k) = true) : ndL f g (k + 1) = ndL f g k := by show (if _ then _ else _) = _; rw [if_neg h]
theorem ndL_le (f g : Nat → Bool) : ∀ k, (ndL f g k).length ≤ k
  | 0 => Nat.le_refl _
  | k + 1 => by
    have := ndL_le f g k
    unfold ndL; split
    · simp; omega
    · omega
/-- What NeedlessStates returns. -/
def ndR (a e : List Int) (s : List (List (List Int))) : List Int × Bool :=
  if autB a e s then (ndL (rnd (edB s) a.length s.length a.length (mkE e)) (rnd (edF s) a.length s.length a.length (mkE a)) a.length, true) else ([], false)
theorem ndR_yes {a e : List Int} {s : List (List (List Int))} (h : autB a e s = true) : ndR a e s = (ndL (rnd (edB s) a.length s.length a.length (mkE e)) (rnd (edF s) a.length s.length a.length (mkE a)) a.length, true) := by unfold ndR; rw [if_pos h]
theorem ndR_no {a e : List Int} {s : List (List (List Int))} (h : autB a e s = false) : ndR a e s = ([], false) := by unfold ndR; rw [h]; rfl
theorem ndR_len (a e : List Int) (s : List (List (List Int))) : (ndR a e s).1.length ≤ a.length := by
  cases h : autB a e s with
  | true => rw [ndR_yes h]; exact ndL_le _ _ _
  | false => rw [ndR_no h]; exact Nat.zero_le _
end Go.Proofs.Ytpimjkhfookipaa
