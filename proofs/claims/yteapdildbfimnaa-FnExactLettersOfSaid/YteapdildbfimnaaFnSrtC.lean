/- Sorting bytes in place: slices.Sort at bytes. Conditions: no more than 2^40 bytes. -/
import Derived.Test.YteapdildbfimnaaFnSrtB
import Derived.Test.YteapdildbfimnaaShelf
namespace Go.Proofs.Yteapdildbfimnaa
open Go.RowKit Go.Proofs Go.Sort
set_option linter.unusedSimpArgs false
set_option linter.unusedVariables false
set_option maxRecDepth 20000

theorem bitLen_small (n : Nat) (hn : n ≤ 1099511627776) : Go.Lib.bitLen n ≤ 1024 := by
  rw [bitLen_eq _ (by omega)]
  exact Nat.le_trans ((bitsLen_le_iff n 62).2 (by omega)) (by decide)
set_option maxHeartbeats 1000000 in
theorem sort_m (n : Nat) (hn : n ≤ 1099511627776) (d : Nat → Int) : FnM Try.prog 48 n (vuF d) [] (unitM fun d' => Pm 0 n d d' ∧ Srt 0 n d') := by
  refine ⟨Try.call48, fun w bk c cur e hw hnc hcm hsz hc => ?_⟩
  obtain ⟨l, hl⟩ : ∃ l, l = Go.Lib.bitLen n := ⟨_, rfl⟩
  have hl2 : l ≤ 1024 := by rw [hl]; exact bitLen_small n hn
  have hL : ∀ w, Calls Try.prog 94 #[.int .u64 (n : Int)] w fun e w' => e = .returned (.int .i64 (l : Nat)) ∧ w' = w := fun w => by
    have := Try.bits_Len (n : Int) w (by omega) (by omega)
    rw [Int.toNat_natCast, ← hl] at this
    exact this
  have hP := (pdq_m n hn n 0 n l d (by omega) (by omega) (Nat.le_refl _) hl2 (fun h => absurd h (by omega))).runs w bk c cur e hw hnc hcm hsz hc
  clear hl
  go_enter Try.func48, Try.ntmps48
  go_wp2_with (first | (go_at_call 94; refine (hL _).mono ?_; rintro e w' ⟨rfl, rfl⟩) | (go_at_call 93; refine hP.mono ?_; rintro e w' ⟨D', v, ⟨d', rfl, hR, rfl⟩, rfl, h1, h2⟩))
  go_end0
  exact ⟨_, _, ⟨d', rfl, hR, rfl⟩, rfl, h1, h2⟩
end Go.Proofs.Yteapdildbfimnaa
