/- Sure ways: plain laws. No conditions. -/
import Derived.Test.YtfgpmjboplollaaFnWb
namespace Go.Proofs.Ytfgpmjboplollaa
set_option linter.unusedSimpArgs false
set_option linter.unusedVariables false

theorem nat_pp (k : Nat) : ((k : Int) + 1 - 1).toNat = k := by omega
theorem nat_m1 (k : Nat) : ((k : Int) - 1).toNat = k - 1 := by omega
theorem nat_p1 (k : Nat) : ((k : Int) + 1).toNat = k + 1 := by omega
def vtx (way : List Int) (i : Nat) : Nat := (way.getD i 0).toNat
/-- The cost of the first k steps. -/
def costK (m : List (List Int)) (way : List Int) : Nat → Int
  | 0 => 0
  | k + 1 => plusI (costK m way k) (ent m (vtx way k) (vtx way (k + 1)))
def sumK (m : List (List Int)) (way : List Int) : Nat → Int
  | 0 => 0
  | k + 1 => sumK m way k + ent m (vtx way k) (vtx way (k + 1))
/-- low with the first k steps of high. -/
def mixX (low high : List (List Int)) (way : List Int) (k : Nat) : Mx := foldM (fun Y i => updM Y (vtx way i) (vtx way (i + 1)) (ent high (vtx way i) (vtx way (i + 1)))) (ent low) k
theorem mixX_succ (low high : List (List Int)) (way : List Int) (k : Nat) : mixX low high way (k + 1) = updM (mixX low high way k) (vtx way k) (vtx way (k + 1)) (ent high (vtx way k) (vtx way (k + 1))) := rfl

theorem mixX_or {low high : List (List Int)} {way : List Int} (p q : Nat) : ∀ k, mixX low high way k p q = ent low p q ∨ mixX low high way k p q = ent high p q
  | 0 => .inl rfl
  | k + 1 => by
    rw [mixX_succ]
    unfold updM
    by_cases e : p = vtx way k ∧ q = vtx way (k + 1)
    · rw [if_pos e, e.1, e.2]; exact .inr rfl
    · rw [if_neg e]; exact mixX_or p q k
theorem mixX_at {low high : List (List Int)} {way : List Int} {i : Nat} : ∀ {k}, i < k → mixX low high way k (vtx way i) (vtx way (i + 1)) = ent high (vtx way i) (vtx way (i + 1))
  | 0, h => by omega
  | k + 1, h => by
    rw [mixX_succ]
    unfold updM
    by_cases e : vtx way i = vtx way k ∧ vtx way (i + 1) = vtx way (k + 1)
    · rw [if_pos e, e.1, e.2]
    · rw [if_neg e]
      have : i ≠ k := fun h => e (by rw [h]; exact ⟨rfl, rfl⟩)
      exact mixX_at (by omega)

/-- All of a way are vertices. -/
theorem vtx_lt {n : Nat} {way : List Int} (h : vertB n (fun i => way.getD i 0) way.length = true) {i : Nat} (hi : i < way.length) : (0 ≤ way.getD i 0 ∧ way.getD i 0 < n) ∧ vtx way i < n := by
  have h1 : 0 ≤ way.getD i 0 ∧ way.getD i 0 ≤ (n : Int) - 1 := inB_true.1 (allN_iff.1 h i hi)
  unfold vtx
  omega

def stepsB (m : List (List Int)) (way : List Int) (k : Nat) : Bool := allN k fun i => ent m (vtx way i) (vtx way (i + 1)) != 1000000000
theorem costK_fin {m : List (List Int)} {way : List Int} (hm : numM m) (hv : vertB m.length (fun i => way.getD i 0) way.length = true) : ∀ k, k + 1 ≤ way.length → (stepsB m way k = true → -1000000 * (k : Int) ≤ costK m way k ∧ costK m way k ≤ 1000000 * (k : Int)) ∧ (stepsB m way k = false → costK m way k = 1000000000)
  | 0, _ => ⟨fun _ => by show _ ≤ (0 : Int) ∧ (0 : Int) ≤ _; omega, fun h => by simp [stepsB, allN] at h⟩
  | k + 1, hk => by
    have ih := costK_fin hm hv k (by omega)
    have hn := hm (vtx way k) (vtx way (k + 1)) (vtx_lt hv (by omega)).2 (vtx_lt hv (by omega)).2
    show (_ → _ ≤ plusI (costK m way k) (ent m (vtx way k) (vtx way (k + 1))) ∧ plusI (costK m way k) (ent m (vtx way k) (vtx way (k + 1))) ≤ _) ∧ (_ → plusI (costK m way k) (ent m (vtx way k) (vtx way (k + 1))) = _)
    refine ⟨fun h => ?_, fun h => ?_⟩
    · have h1 : stepsB m way k = true := allN_true fun i hi => allN_iff.1 h i (by omega)
      have h2 := allN_iff.1 h k (by omega)
      simp only [bne_iff_ne] at h2
      have b := ih.1 h1
      by_cases e : costK m way k = 1000000000
      · rw [plusI_a e]; omega
      · rw [plusI_ab e h2]; omega
    · by_cases e : ent m (vtx way k) (vtx way (k + 1)) = 1000000000
      · exact plusI_b e
      · cases h1 : stepsB m way k with
        | false => exact plusI_a (ih.2 h1)
        | true =>
          have : stepsB m way (k + 1) = true := allN_true fun i hi => by
            rcases Nat.lt_or_ge i k with h2 | h2
            · exact allN_iff.1 h1 i h2
            · rw [show i = k by omega]; simpa using e
          rw [this] at h; cases h
theorem costK_sum {m h : List (List Int)} {way : List Int} : ∀ k, (∀ i, i < k → ent m (vtx way i) (vtx way (i + 1)) = ent h (vtx way i) (vtx way (i + 1)) ∧ ent h (vtx way i) (vtx way (i + 1)) ≠ 1000000000) → (∀ i, i ≤ k → costK m way i ≠ 1000000000) → costK m way k = sumK h way k
  | 0, _, _ => rfl
  | k + 1, h1, h2 => by
    show plusI (costK m way k) (ent m (vtx way k) (vtx way (k + 1))) = sumK h way k + ent h (vtx way k) (vtx way (k + 1))
    rw [(h1 k (by omega)).1, plusI_ab (h2 k (by omega)) (h1 k (by omega)).2, costK_sum k (fun i hi => h1 i (by omega)) fun i hi => h2 i (by omega)]
theorem sumK_bd {m : List (List Int)} {way : List Int} (hm : ∀ i, i + 1 < way.length → -1000000 ≤ ent m (vtx way i) (vtx way (i + 1)) ∧ ent m (vtx way i) (vtx way (i + 1)) ≤ 1000000) : ∀ k, k + 1 ≤ way.length → -1000000 * (k : Int) ≤ sumK m way k ∧ sumK m way k ≤ 1000000 * (k : Int)
  | 0, _ => by show _ ≤ (0 : Int) ∧ (0 : Int) ≤ _; omega
  | k + 1, hk => by
    have := sumK_bd hm k (by omega)
    have := hm k (by omega)
    show _ ≤ sumK m way k + ent m (vtx way k) (vtx way (k + 1)) ∧ sumK m way k + ent m (vtx way k) (vtx way (k + 1)) ≤ _
    omega

theorem squB_mk {m : List (List Int)} (h0 : 1 ≤ m.length ∧ m.length ≤ 6) (hr : ∀ i, i < m.length → (rowAt m i).length = m.length) (hm : numM m) : squB m = true := by
  have hrow : ∀ i, i < m.length → mrowB (rowAt m 0).length (rowAt m i) = true := fun i hi => by
    unfold mrowB vecB
    have h1 := hr i hi
    have h2 := hr 0 (by omega)
    simp only [Bool.and_eq_true, beq_iff_eq]
    refine ⟨⟨inB_true.2 (by omega), allN_true fun j hj => ?_⟩, by omega⟩
    have h3 := hm i j hi (by omega)
    have e : ent m i j = (rowAt m i).getD j 0 := rfl
    rw [e] at h3
    rcases h3 with h3 | h3
    · exact numB_inf h3
    · exact numB_fin h3
  have hmat : matB m = true := by rw [matB_is (by omega)]; exact allN_true hrow
  rw [squB_is hmat, hr 0 (by omega)]; simp

/-- The steps of low, those of the way as in high. -/
def mixL (low high : List (List Int)) (way : List Int) : List (List Int) := matL low.length (mixX low high way (way.length - 1))
theorem mixL_ok {a b : List (List Int)} (hp : WayP a b) (way : List Int) : squB (mixL a b way) = true ∧ (mixL a b way).length = a.length ∧ ∀ i c, i < a.length → c < a.length → ent a i c ≤ ent (mixL a b way) i c := by
  have pa := squB_parts hp.sa
  have pb := squB_parts hp.sb
  have hl := hp.len
  have e : ∀ i c, i < a.length → c < a.length → ent (mixL a b way) i c = mixX a b way (way.length - 1) i c := fun i c hi hc => matL_ent hi hc
  have hlen : (mixL a b way).length = a.length := matL_len _ _
  refine ⟨squB_mk (by omega) (fun i hi => by rw [hlen] at hi ⊢; exact matL_row_len hi) fun i c hi hc => ?_, hlen, fun i c hi hc => ?_⟩
  · rw [hlen] at hi hc
    rw [e i c hi hc]
    rcases mixX_or (low := a) (high := b) (way := way) i c (way.length - 1) with h | h <;> rw [h]
    · exact pa.2.2 i c hi hc
    · exact pb.2.2 i c (by omega) (by omega)
  · rw [e i c hi hc]
    rcases mixX_or (low := a) (high := b) (way := way) i c (way.length - 1) with h | h <;> rw [h]
    · exact Int.le_refl _
    · exact hp.le i c hi hc

def wayOk (m : List (List Int)) (way : List Int) : Bool := inB way.length 1 20 && vertB m.length (fun i => way.getD i 0) way.length && stepsB m way (way.length - 1)
def swT (a b : List (List Int)) (way : List Int) : Bool := wayB a b && wayOk a way && flOk a
def swV (a b : List (List Int)) (way : List Int) : Bool := ent (dOf (mixL a b way)) (vtx way 0) (vtx way (way.length - 1)) == sumK b way (way.length - 1)
def swR (a b : List (List Int)) (way : List Int) : Bool × Bool := if swT a b way then (swV a b way, true) else (false, false)
theorem swR_no {a b : List (List Int)} {way : List Int} (h : swT a b way = false) : swR a b way = (false, false) := by unfold swR; rw [h]; rfl
theorem swR_yes {a b : List (List Int)} {way : List Int} (h : swT a b way = true) : swR a b way = (swV a b way, true) := by unfold swR; rw [h]; rfl
theorem swT_way {a b : List (List Int)} {way : List Int} (h : wayB a b = false) : swT a b way = false := by unfold swT; rw [h]; rfl
theorem swT_ok {a b : List (List Int)} {way : List Int} (h : wayOk a way = false) : swT a b way = false := by unfold swT; rw [h]; simp
theorem swT_fl {a b : List (List Int)} {way : List Int} (h : flOk a = false) : swT a b way = false := by unfold swT; rw [h]; simp
theorem swT_all {a b : List (List Int)} {way : List Int} (h : wayB a b = true) (h1 : wayOk a way = true) (h2 : flOk a = true) : swT a b way = true := by unfold swT; rw [h, h1, h2]; rfl
theorem wayOk_len {m : List (List Int)} {way : List Int} (h : ¬ (1 ≤ (way.length : Int) ∧ (way.length : Int) ≤ 20)) : wayOk m way = false := by unfold wayOk; rw [inB_false.2 h]; rfl
theorem wayOk_v {m : List (List Int)} {way : List Int} (h : vertB m.length (fun i => way.getD i 0) way.length = false) : wayOk m way = false := by unfold wayOk; rw [h]; simp
theorem wayOk_is {m : List (List Int)} {way : List Int} (h : 1 ≤ (way.length : Int) ∧ (way.length : Int) ≤ 20) (h2 : vertB m.length (fun i => way.getD i 0) way.length = true) : wayOk m way = stepsB m way (way.length - 1) := by unfold wayOk; rw [inB_true.2 h, h2]; rfl
theorem wayOk_cost {m : List (List Int)} {way : List Int} (hm : numM m) (h : 1 ≤ (way.length : Int) ∧ (way.length : Int) ≤ 20) (h2 : vertB m.length (fun i => way.getD i 0) way.length = true) : wayOk m way = (costK m way (way.length - 1) != 1000000000) := by
  rw [wayOk_is h h2]
  have := costK_fin hm h2 (way.length - 1) (by omega)
  cases e : stepsB m way (way.length - 1) with
  | true => have := this.1 e; symm; simp only [bne_iff_ne]; omega
  | false => rw [this.2 e]; rfl
theorem wayOk_parts {m : List (List Int)} {way : List Int} (h : wayOk m way = true) : (1 ≤ (way.length : Int) ∧ (way.length : Int) ≤ 20) ∧ vertB m.length (fun i => way.getD i 0) way.length = true ∧ stepsB m way (way.length - 1) = true := by
  unfold wayOk at h
  simp only [Bool.and_eq_true] at h
  exact ⟨inB_true.1 h.1.1, h.1.2, h.2⟩

/-- In mixed steps the way costs what it costs in high. -/
theorem mix_cost {a b : List (List Int)} {way : List Int} (hp : WayP a b) (hw : wayOk a way = true) : costK (mixL a b way) way (way.length - 1) = sumK b way (way.length - 1) ∧ (∀ i, i + 1 < way.length → -1000000 ≤ ent b (vtx way i) (vtx way (i + 1)) ∧ ent b (vtx way i) (vtx way (i + 1)) ≤ 1000000) := by
  obtain ⟨h1, h2, h3⟩ := wayOk_parts hw
  have hm := mixL_ok hp way
  have pm := squB_parts hm.1
  have pb := squB_parts hp.sb
  have hl := hp.len
  have key : ∀ i, i < way.length - 1 → ent (mixL a b way) (vtx way i) (vtx way (i + 1)) = ent b (vtx way i) (vtx way (i + 1)) ∧ ent b (vtx way i) (vtx way (i + 1)) ≠ 1000000000 := fun i hi => by
    have v1 := (vtx_lt h2 (i := i) (by omega)).2
    have v2 := (vtx_lt h2 (i := i + 1) (by omega)).2
    refine ⟨(matL_ent v1 v2).trans (mixX_at hi), fun e => ?_⟩
    have := allN_iff.1 h3 i hi
    simp only [bne_iff_ne] at this
    exact this ((hp.inf _ _ v1 v2).2 e)
  have hv : vertB (mixL a b way).length (fun i => way.getD i 0) way.length = true := by rw [hm.2.1]; exact h2
  refine ⟨costK_sum _ key fun i hi => ?_, fun i hi => ?_⟩
  · have := (costK_fin pm.2.2 hv i (by omega)).1 (allN_true fun j hj => by
      have := key j (by omega)
      rw [this.1]; simpa using this.2)
    omega
  · have v1 := (vtx_lt h2 (i := i) (by omega)).2
    have v2 := (vtx_lt h2 (i := i + 1) (by omega)).2
    have := pb.2.2 _ _ (by omega : vtx way i < b.length) (by omega : vtx way (i + 1) < b.length)
    have := (key i (by omega)).2
    omega
end Go.Proofs.Ytfgpmjboplollaa
