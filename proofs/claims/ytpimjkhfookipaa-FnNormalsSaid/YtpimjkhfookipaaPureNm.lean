/- Normal forms are their own normal forms; classes hold all indices. No conditions. -/
import Derived.Test.YtpimjkhfookipaaPureCl
namespace Go.Proofs.Ytpimjkhfookipaa
set_option linter.unusedSimpArgs false
set_option linter.unusedVariables false

theorem lowN_hit (g : Nat → Int) (b : Int) : ∀ k, 1 ≤ k → (∀ j, j < k → g j ≤ b) → ∃ j, j < k ∧ g j = lowN g b k
  | 0, h, _ => absurd h (by omega)
  | k + 1, _, hb => by
    show ∃ j, j < k + 1 ∧ g j = min (lowN g b k) (g k)
    by_cases h : g k ≤ lowN g b k
    · exact ⟨k, by omega, (Int.min_eq_right h).symm⟩
    · rcases Nat.eq_zero_or_pos k with h0 | h0
      · subst h0; exact absurd (hb 0 (by omega)) h
      · obtain ⟨j, hj, e⟩ := lowN_hit g b k h0 fun j hj => hb j (by omega)
        exact ⟨j, by omega, by rw [Int.min_eq_left (by omega)]; exact e⟩
theorem lowN_zero {g : Nat → Int} {b : Int} {k : Nat} (hb : 0 ≤ b) (h : ∀ j, j < k → 0 ≤ g j) (hx : ∃ j, j < k ∧ g j = 0) : lowN g b k = 0 := by
  obtain ⟨j, hj, e⟩ := hx
  have h1 := lowN_ge g b 0 hb k h
  have h2 := lowN_get g b k j hj
  omega

theorem normL_idem {l : List T3} (h : planeB l = true) : normL (normL l) = normL l := by
  have hp := planeB_parts h
  have ht := fun k hk => termB_iff.1 (hp.2 k hk)
  have hI : lowI (normL l) 6 (normL l).length = 0 := by
    rw [normL_len]
    refine lowN_zero (by omega) (fun j hj => ?_) ?_
    · rw [normL_get hj]
      have := lowN_get (fun j => (tAt l j).1) 6 l.length j hj
      show 0 ≤ (tAt l j).1 - lowI l 6 l.length
      unfold lowI
      omega
    · obtain ⟨j, hj, e⟩ := lowN_hit (fun j => (tAt l j).1) 6 l.length hp.1.1 fun j hj => by have := ht j hj; omega
      refine ⟨j, hj, ?_⟩
      rw [normL_get hj]
      show (tAt l j).1 - lowI l 6 l.length = 0
      unfold lowI
      omega
  have hJ : lowJ (normL l) 6 (normL l).length = 0 := by
    rw [normL_len]
    refine lowN_zero (by omega) (fun j hj => ?_) ?_
    · rw [normL_get hj]
      have := lowN_get (fun j => (tAt l j).2.1) 6 l.length j hj
      show 0 ≤ (tAt l j).2.1 - lowJ l 6 l.length
      unfold lowJ
      omega
    · obtain ⟨j, hj, e⟩ := lowN_hit (fun j => (tAt l j).2.1) 6 l.length hp.1.1 fun j hj => by have := ht j hj; omega
      refine ⟨j, hj, ?_⟩
      rw [normL_get hj]
      show (tAt l j).2.1 - lowJ l 6 l.length = 0
      unfold lowJ
      omega
  have h0 : (tAt (normL l) 0).2.2 = 0 := by
    rw [normL_get hp.1.1]
    show (tAt l 0).2.2 - (tAt l 0).2.2 = 0
    omega
  have e : normT (normL l) (lowI (normL l) 6 (normL l).length) (lowJ (normL l) 6 (normL l).length) = id := by
    funext t
    rw [hI, hJ]
    unfold normT
    rw [h0]
    simp
  show (normL l).map (normT (normL l) (lowI (normL l) 6 (normL l).length) (lowJ (normL l) 6 (normL l).length)) = normL l
  rw [e, List.map_id]
theorem normR_get {l : List T3} (h : (normR l).2 = true) : planeB l = true ∧ planeB (normL l) = true ∧ normR l = (normL l, true) := by
  cases h1 : planeB l with
  | false => rw [normR_no h1] at h; cases h
  | true =>
    cases h2 : planeB (normL l) with
    | false => rw [normR_no2 h2] at h; cases h
    | true => exact ⟨rfl, rfl, normR_yes h1 h2⟩
theorem normR_idem {l : List T3} (h : (normR l).2 = true) : normR (normR l).1 = normR l := by
  obtain ⟨h1, h2, e⟩ := normR_get h
  rw [e]
  show normR (normL l) = _
  rw [normR_yes h2 (by rw [normL_idem h1]; exact h2), normL_idem h1]
theorem normR_len {l : List T3} (h : (normR l).2 = true) : (normR l).1.length = l.length := by
  rw [(normR_get h).2.2]; exact normL_len l

/-- All members of the classes. -/
structure ClsMem (L : List (List T3)) (i : Nat) (out : List (List Int)) : Prop where
  sum : sumM out out.length = i
  mem : ∀ k, k < out.length → ∀ j, j < (rowAt out k).length → ∃ y : Nat, (rowAt out k).getD j 0 = y ∧ y < i ∧ nfAt L y = nfAt L (repI out k)
theorem sumM_congr {a b : List (List Int)} {k : Nat} (h : ∀ j, j < k → (rowAt a j).length = (rowAt b j).length) : sumM a k = sumM b k := by
  induction k with
  | zero => rfl
  | succ k ih => show sumM a k + _ = sumM b k + _; rw [ih fun j hj => h j (by omega), h k (by omega)]
theorem sumM_set {out : List (List Int)} {k : Nat} {x : Int} : ∀ n, k < out.length → sumM (out.set k (rowAt out k ++ [x])) n = sumM out n + if k < n then 1 else 0
  | 0, _ => rfl
  | n + 1, hk => by
    show sumM (out.set k _) n + _ = sumM out n + _ + _
    rw [sumM_set n hk]
    by_cases e : n = k
    · subst e
      rw [row_set_eq hk, List.length_append, List.length_singleton, if_neg (Nat.lt_irrefl _), if_pos (by omega)]
      omega
    · rw [row_set_ne e]
      by_cases h : k < n
      · rw [if_pos h, if_pos (by omega)]; omega
      · rw [if_neg h, if_neg (by omega)]; omega
theorem getD_app_lt {r : List Int} {x : Int} {j : Nat} (h : j < r.length) : (r ++ [x]).getD j 0 = r.getD j 0 := by rw [List.getD, List.getElem?_append_left h]; rfl
theorem getD_app_eq {r : List Int} {x : Int} : (r ++ [x]).getD r.length 0 = x := by simp [List.getD]
theorem ClsMem.hit {L : List (List T3)} {i k : Nat} {out : List (List Int)} (h : ClsMem L i out) (hok : ClsOk L i out) (hk : k < out.length) (hp : nfAt L (repI out k) = nfAt L i) : ClsMem L (i + 1) (out.set k (rowAt out k ++ [(i : Int)])) := by
  have hrep : ∀ j, repI (out.set k (rowAt out k ++ [(i : Int)])) j = repI out j := fun j => by
    unfold repI
    by_cases e : j = k
    · subst e; rw [row_set_eq hk, head_app (hok.row j hk).1]
    · rw [row_set_ne e]
  refine ⟨?_, fun q hq j hj => ?_⟩
  · rw [List.length_set, sumM_set _ hk, h.sum, if_pos hk]
  · rw [List.length_set] at hq
    rw [hrep]
    by_cases e : q = k
    · subst e
      rw [row_set_eq hk] at hj ⊢
      rw [List.length_append, List.length_singleton] at hj
      by_cases e2 : j < (rowAt out q).length
      · obtain ⟨y, h1, h2, h3⟩ := h.mem q hk j e2
        exact ⟨y, by rw [getD_app_lt e2]; exact h1, by omega, h3⟩
      · obtain rfl : j = (rowAt out q).length := by omega
        exact ⟨i, getD_app_eq, by omega, hp.symm⟩
    · rw [row_set_ne e] at hj ⊢
      obtain ⟨y, h1, h2, h3⟩ := h.mem q hq j hj
      exact ⟨y, h1, by omega, h3⟩
theorem ClsMem.miss {L : List (List T3)} {i : Nat} {out : List (List Int)} (h : ClsMem L i out) : ClsMem L (i + 1) (out ++ [[(i : Int)]]) := by
  have hlt : ∀ j, j < out.length → repI (out ++ [[(i : Int)]]) j = repI out j := fun j hj => by unfold repI; rw [row_app_lt hj]
  have heq : repI (out ++ [[(i : Int)]]) out.length = i := by unfold repI; rw [row_app_eq]; simp
  refine ⟨?_, fun q hq j hj => ?_⟩
  · rw [List.length_append, List.length_singleton]
    show sumM (out ++ [[(i : Int)]]) out.length + (rowAt (out ++ [[(i : Int)]]) out.length).length = i + 1
    rw [row_app_eq, sumM_congr (b := out) fun j hj => by rw [row_app_lt hj], h.sum]; rfl
  · rw [List.length_append, List.length_singleton] at hq
    by_cases e : q < out.length
    · rw [row_app_lt e] at hj ⊢
      obtain ⟨y, h1, h2, h3⟩ := h.mem q e j hj
      exact ⟨y, h1, by omega, by rw [hlt q e]; exact h3⟩
    · obtain rfl : q = out.length := by omega
      rw [row_app_eq] at hj ⊢
      have hj : j < 1 := hj
      obtain rfl : j = 0 := by omega
      exact ⟨i, rfl, by omega, by rw [heq]⟩
theorem clsK_mem (L : List (List T3)) : ∀ i, ClsMem L i (clsK L i)
  | 0 => ⟨rfl, fun k hk => by simp [clsK] at hk⟩
  | i + 1 => by
    have h := clsK_mem L i
    have hok := clsK_ok L i
    show ClsMem L (i + 1) (clsStep L (clsK L i) i)
    by_cases hx : ∃ k, k < (clsK L i).length ∧ clsP L (clsK L i) i k = true
    · obtain ⟨k, hk, hp⟩ := hx
      rw [clsStep_hit hk hp fun j hj => hok.one hk (by omega) hp (by omega)]
      exact h.hit hok hk (clsP_iff.1 hp)
    · have hn : ∀ k, k < (clsK L i).length → clsP L (clsK L i) i k = false := fun k hk => by
        cases e : clsP L (clsK L i) i k with
        | false => rfl
        | true => exact absurd ⟨k, hk, e⟩ hx
      rw [clsStep_miss hn]
      exact h.miss
theorem nfB_get {L : List (List T3)} (h : nfB L = true) : L.length ≤ 10 ∧ ∀ i, i < L.length → okAt L i = true := by
  unfold nfB at h
  simp only [Bool.and_eq_true, decide_eq_true_eq] at h
  exact ⟨h.1, allN_iff.1 h.2⟩
end Go.Proofs.Ytpimjkhfookipaa
