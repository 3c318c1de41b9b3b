/- markTermS: writes m, m + 1, .. into the cells of a slice of terms. -/
import Derived.Test.YtpimjkhfookipaaDoorMark
import Derived.Test.YtpimjkhfookipaaDoorPureMx
namespace Go.Proofs.YtpimjkhfookipaaDoor
open Go.RowKit Go.Proofs
set_option linter.unusedSimpArgs false
set_option linter.unusedVariables false

theorem Marked.cellAt {b : Nat} {cur : Array Value} {e : TypeId} {w wr : World} {k : Nat} {m : Int} (h : Marked b cur e w k m wr) {i : Nat} (hi : i < cur.size) : (∃ x, wr.cell? ⟨b, i, none⟩ = some x) ∧ wr.frozen? ⟨b, i, none⟩ = false := by
  obtain ⟨_, cur', h1, h2, _⟩ := h
  exact ⟨⟨cur'[i], cell_of_blk h1 (Array.getElem?_eq_getElem (by omega))⟩, by simp [World.frozen?, h1]⟩

theorem markT_nil (m : Int) (w : World) : Calls Tryd.prog 49 #[.slice none 0 0, .int .i64 m] w fun e w' => e = .returned (.int .i64 m) ∧ w' = w := by
  go_enter Tryd.func49, Tryd.ntmps49
  go_wp2
  go_loopg [1, 5] 0 (fun _ s1 s5 wr => s1 = .int .i64 m ∧ s5 = .int .i64 0 ∧ wr = w)
  case atStart => exact ⟨rfl, rfl, rfl⟩
  case round =>
    obtain ⟨rfl, rfl, rfl⟩ := hrel
    go_wp2
    go_ret
    exact ⟨rfl, rfl⟩

theorem markT_some (b n c : Nat) (cur : Array Value) (e : TypeId) (m : Int) (w : World) (hm : 0 ≤ m) (hmn : m + n * 3 ≤ 4611686018427387904) (hb : w.heap[b]? = some (.cells cur e (0, 0))) (hn : n * 3 ≤ cur.size) :
    Calls Tryd.prog 49 #[.slice (some ⟨b, 0, none⟩) n c, .int .i64 m] w fun e' w' => e' = .returned (.int .i64 (m + ((n * 3 : Nat) : Int))) ∧ Marked b cur e w (n * 3) m w' := by
  go_enter Tryd.func49, Tryd.ntmps49
  go_wp2
  go_loopg [1, 5] n (fun g s1 s5 wr => ∃ k : Nat, s1 = .int .i64 (m + ((k * 3 : Nat) : Int)) ∧ s5 = .int .i64 k ∧ g + k = n ∧ Marked b cur e w (k * 3) m wr)
  case atStart => exact ⟨0, by simp, rfl, by omega, ⟨⟨rfl, rfl, rfl, Nat.le_refl _, fun _ _ _ => rfl⟩, cur, hb, rfl, fun i hi => by omega⟩⟩
  case round =>
    obtain ⟨k, rfl, rfl, hgk, hM⟩ := hrel
    have A : Aside (gk + k = n ∧ Marked b cur e w (k * 3) m wr ∧ 0 ≤ m ∧ m + n * 3 ≤ 4611686018427387904 ∧ n * 3 ≤ cur.size) := ⟨hgk, hM, hm, hmn, hn⟩
    by_cases hlt : (k : Int) < n
    · obtain ⟨⟨x, hx⟩, hf⟩ := hM.cellAt (show k * 3 < cur.size by omega)
      obtain ⟨⟨x1, hx1⟩, hf1⟩ := hM.cellAt (show k * 3 + 1 < cur.size by omega)
      obtain ⟨⟨x2, hx2⟩, hf2⟩ := hM.cellAt (show k * 3 + 2 < cur.size by omega)
      clear hgk hM hm hmn hn hb
      go_wp2
      go_roundg (n - (k + 1))
      case measure => obtain ⟨hgk, _⟩ := A.out; omega
      case rel =>
        obtain ⟨hgk, hM, hm, hmn, hn⟩ := A.out
        have e1 : wrap64 (m + (k : Int) * 3 + 1) = m + ((k * 3 + 1 : Nat) : Int) := by rw [wrap64_id _ (by omega)]; omega
        have e2 : wrap64 (wrap64 (m + (k : Int) * 3 + 1) + 1) = m + ((k * 3 + 1 + 1 : Nat) : Int) := by rw [e1, wrap64_id _ (by omega)]; omega
        have s1 := hM.step (show k * 3 < cur.size by omega)
        have s2 := s1.step (show k * 3 + 1 < cur.size by omega)
        have s3 := s2.step (show k * 3 + 1 + 1 < cur.size by omega)
        rw [show m + ((k * 3 : Nat) : Int) = m + (k : Int) * 3 by omega] at s3
        refine ⟨k + 1, ?_, by rw [wrap64_id _ (by omega)]; congr 1, by omega, ?_⟩
        · rw [e2, wrap64_id _ (by omega)]; congr 1; omega
        · rw [e2, e1, show (k + 1) * 3 = k * 3 + 1 + 1 + 1 by omega]
          exact s3
    · clear hgk hM hm hmn hn hb
      go_wp2
      go_ret
      obtain ⟨hgk, hM, _⟩ := A.out
      obtain rfl : k = n := by omega
      exact ⟨rfl, hM⟩

/-- What markTermS does to a block. -/
theorem markT_mk (blk : Blk) (n : Nat) (m : Int) (hm : 0 ≤ m) (hmn : m + n * 3 ≤ 4611686018427387904) (hb : n * 3 ≤ blk.n) : FnMk Tryd.prog 49 n blk ⟨blk.elem, n * 3, fun i => vi (m + i)⟩ (.int .i64 m) (.int .i64 (m + ((n * 3 : Nat) : Int))) := by
  refine ⟨Tryd.call49, rfl, hb, fun hn w => ?_, fun w b c cur hcur hle => ?_⟩
  · subst hn
    refine (markT_nil m w).mono ?_
    rintro e w' ⟨rfl, rfl⟩
    exact ⟨by simp, Below.refl _ _⟩
  · refine (markT_some b n c cur blk.elem m w hm hmn hcur (by omega)).mono ?_
    rintro e w' ⟨rfl, h1, cur', h2, h3, h4⟩
    exact ⟨rfl, h1, cur', h2, h3, fun i hi => ⟨_, h4 i hi, rfl⟩⟩

end Go.Proofs.YtpimjkhfookipaaDoor
