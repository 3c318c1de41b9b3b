/- What LettersOf returns. Conditions: lists and strings no longer than 2^40. -/
import Derived.Test.YteapdildbfimnaaPureLo
import Derived.Test.YteapdildbfimnaaFnTxt
import Derived.Lib.ConvBytes
import Derived.Laws.BytesArg
namespace Go.Proofs.Yteapdildbfimnaa
open Go.RowKit Go.Proofs
set_option linter.unusedSimpArgs false
set_option linter.unusedVariables false
set_option maxRecDepth 20000

def ltR (l : List ByteArray) : ByteArray × Bool := if picB l then (strOfNums (ltL l), true) else (⟨#[]⟩, false)
theorem ltR_yes {l : List ByteArray} (h : picB l = true) : ltR l = (strOfNums (ltL l), true) := by unfold ltR; rw [h]; rfl
theorem ltR_no {l : List ByteArray} (h : picB l = false) : ltR l = (⟨#[]⟩, false) := by unfold ltR; rw [h]; rfl

/-- A contract out of a run that hands two scalars back. -/
theorem Fn.of_calls2 {P : Program} {f : FuncId} {vs : List V} {v1 v2 : Value} (he : ∀ (args : Array Value) (w : World), (callFunc f args).run P w = .ok (.enter f args) w)
    (h : ∀ (w : World) (S0 : Nat → Prop) (us : List Value), RdL w S0 vs us → Calls P f us.toArray w fun e w' => e = .returned (.tuple #[v1, v2]) ∧ Below w.heap.size w w') : Fn P f vs (.many [.pv (.val v1), .pv (.val v2)]) := by
  refine ⟨he, fun w S0 us hus => (h w S0 us hus).mono ?_⟩
  rintro e w' ⟨rfl, hb⟩
  exact ⟨.tuple #[v1, v2], [], rfl, ⟨rfl, hb, fun id blk hi => by simp [bring, Res.list] at hi, fun i j bi bj b z z' hi => by simp [bring, Res.list] at hi⟩, [v1, v2], rfl, rfl, rfl, trivial⟩
theorem Fn.scalar {P : Program} {f : FuncId} {vs : List V} {v : Value} (h : Fn P f vs (.one (.pv (.val v)))) {w : World} {S0 : Nat → Prop} {us : List Value} (hus : RdL w S0 vs us) : Calls P f us.toArray w fun e w' => e = .returned v ∧ Below w.heap.size w w' := by
  refine (h.runs w S0 us hus).mono ?_
  rintro e w' ⟨u, φ, rfl, hH, hr⟩
  obtain rfl : u = v := hr
  exact ⟨rfl, hH.below⟩
theorem flat_len (l : List ByteArray) : ∀ k, k ≤ l.length → (((l.take k).map bytesOf).flatten).length = sumB l k
  | 0, _ => by simp [sumB]
  | k + 1, hk => by
    have hk' : k < l.length := by omega
    rw [List.take_succ_eq_append_getElem hk', List.map_append, List.flatten_append, List.length_append, flat_len l k (by omega)]
    have : stAt l k = l[k] := by unfold stAt; simp [List.getD, hk']
    show _ = sumB l k + lenB (stAt l k)
    rw [this]; simp [lenB]
theorem jb_size (l : List ByteArray) : (Lib.join (l.map (·.data.toList)) []).length = sumB l l.length := by
  have e := flat_len l l.length (Nat.le_refl _)
  rw [List.take_length] at e
  rw [← e]
  match l with
  | [] => rfl
  | b :: r =>
    rw [List.map_cons, Lib.join_cons]
    unfold Lib.joinTail
    have e0 : ∀ L : List (List UInt8), L.map (fun x => [] ++ x) = L := fun L => by simp
    rw [e0]; rfl

theorem _root_.Go.RowKit.Below.trans' {a b c : World} (h : Below a.heap.size a b) (k : Below b.heap.size b c) : Below a.heap.size a c :=
  ⟨k.os.trans h.os, k.tape.trans h.tape, k.output.trans h.output, Nat.le_trans h.size k.size, fun j hj => (k.block j (by have := h.size; omega)).trans (h.block j hj)⟩
/-- A string's bytes in a block of their own. -/
theorem bytes_made (w : World) (b : ByteArray) (hb : b.size ≤ 1099511627776) : ∃ (W : World) (cap : Nat) (cells : Array Value),
    (convert 9 29 (.string b)).run Try.prog w = .ok (.slice (some ⟨w.heap.size, 0, none⟩) b.size cap) W ∧ Gb W w.heap.size (bigE + 5) cells ∧ cells.size = cap ∧ b.size ≤ cap ∧ cap ≤ maxLen ∧ (∀ i, i < b.size → ∃ x, cells[i]? = some x ∧ vuF (byteI b) i = .val x) ∧ Below w.heap.size w W := by
  have hge : b.size ≤ grownCap w b.size 0 5 := grownCap_ge _ _ _ _
  have hcs : (Lib.bytesCells w 5 b).size = grownCap w b.size 0 5 := by
    unfold Lib.bytesCells
    rw [Array.size_append, Array.size_map, Array.size_replicate]
    show b.size + _ = _
    omega
  refine ⟨Lib.bytesWorld w 5 b, grownCap w b.size 0 5, Lib.bytesCells w 5 b, Lib.run_convert_string_bytes (P := Try.prog) w 9 29 5 b Try.underlying9 Try.underlying29 Try.underlying5,
    .inr ⟨by unfold bigE; omega, by rw [Nat.add_sub_cancel_left]; exact Lib.bytesWorld_at_new w 5 b⟩, hcs, hge, grownCap_le_maxLen _ _ _ _ (by unfold maxLen; omega), fun i hi => ?_, ⟨rfl, rfl, rfl, by rw [Lib.bytesWorld_size]; omega, fun j hj => Lib.bytesWorld_at_old w 5 b j hj⟩⟩
  have h1 := Lib.bytesWorld_cell w 5 b i hi
  simp only [World.cell?, Lib.bytesWorld_at_new] at h1
  exact ⟨_, h1, rfl⟩
set_option maxHeartbeats 1000000 in
theorem implLettersOf_fn (l : List ByteArray) (hl : l.length ≤ 1099511627776) : Fn Try.prog 9 [strs l] (.many [.pv (vs (ltR l).1), .pv (vb (ltR l).2)]) := by
  refine Fn.of_calls2 Try.call9 fun w S0 us hus => ?_
  match us, hus with
  | [u0], hus =>
  have hpic := (isPicture_fn l hl).scalar hus
  by_cases h : picB l = true
  · rw [ltR_yes h]
    rw [h] at hpic
    obtain ⟨g2, g3, g4⟩ := picB_parts h
    have g5 := picB_sum h l.length (Nat.le_refl _)
    have g6 := jb_size l
    have hJ : ∀ w', Below w.heap.size w w' → Calls Try.prog 47 #[u0, .string ⟨#[]⟩] w' fun e w'' => e = .returned (.string (joinB l ⟨#[]⟩)) ∧ Below w'.heap.size w' w'' := fun w' hb =>
      (join_fn l ⟨#[]⟩ hl (by show (Lib.join (l.map (·.data.toList)) []).length ≤ _; omega)).scalar (S0 := fun _ => True) ⟨Rd.mono (fun b _ hlt => ⟨trivial, hb.block b hlt⟩) _ _ hus.1, rfl, Gl.any _⟩
    have hbs : (joinB l ⟨#[]⟩).size ≤ 1099511627776 := by show (Lib.join (l.map (·.data.toList)) []).length ≤ _; omega
    have hpl : ∀ d', Pm 0 (joinB l ⟨#[]⟩).size (byteI (joinB l ⟨#[]⟩)) d' → Srt 0 (joinB l ⟨#[]⟩).size d' → kV d' (joinB l ⟨#[]⟩).size = ltL l := fun d' h1 h2 => by
      rw [← lenB_size] at h1 h2 ⊢
      exact letters_eq h h1 h2
    clear g2 g3 g4 g5 g6 hus h
    generalize joinB l ⟨#[]⟩ = b at *
    generalize ltL l = res at *
    go_enter Try.func9, Try.ntmps9
    go_wp2_with (first
      | (go_at_call 46; refine hpic.mono ?_; rintro e w1 ⟨rfl, hb1⟩)
      | (go_at_call 47; refine (hJ _ hb1).mono ?_; rintro e w2 ⟨rfl, hb2⟩
         have hbel : Below w.heap.size w w2 := hb1.trans' hb2
         obtain ⟨W, cap, cells, hcv, hGb, hcs, hcap, hmx, hcl, hbw⟩ := bytes_made w2 b hbs
         obtain ⟨k, hk⟩ : ∃ k, k = w2.heap.size := ⟨_, rfl⟩
         rw [← hk] at hcv hGb hbw
         have hkw : Aside (w.heap.size ≤ k ∧ Below w.heap.size w W) := ⟨by rw [hk]; exact hbel.size, hbel.trans' (hk ▸ hbw)⟩
         have hsrt := (sort_m b.size hbs (byteI b)).runs W k cap cells (bigE + 5) hGb hcap hmx hcs hcl
         clear hk hbw hGb hcl hcs hb2 hbel hb1)
      | (go_at_call 48; refine hsrt.mono ?_; rintro e w3 ⟨D', v, ⟨d', rfl, hR, rfl⟩, rfl, hab3, cur3, hGb3, hsz3, hc3⟩
         have hco := compactB_walk d' b.size cur3.size w3 k cap (bigE + 5) ⟨cur3, hGb3, rfl, fun j hj => by
           obtain ⟨x, h1, h2⟩ := hc3 j hj
           have h2 : vu (d' j) = .val x := h2
           injection h2 with h2
           rw [h1, h2]⟩ (by
             rcases Nat.eq_zero_or_pos b.size with h0 | h0
             · omega
             · obtain ⟨x, h1, _⟩ := hc3 (b.size - 1) (by omega)
               have := (Array.getElem?_eq_some_iff.1 h1).1
               omega) hcap hbs
         rw [hpl d' hR.1 hR.2] at hco
         have hab : Aside (AllBut k W w3) := hab3
         clear hab3 hGb3 hsz3 hc3)
      | (go_at_call 49; refine hco.mono ?_; rintro e w4 ⟨rfl, hab4, hla4⟩
         have hcv2 : (convert 29 9 (.slice (some ⟨k, 0, none⟩) res.length cap)).run Try.prog w4 = .ok (.string (strOfNums res)) w4 := run_convert_bytes_arg w4 29 5 Try.underlying29 Try.underlying5 k 0 res.length cap res rfl (fun i hi => by rw [Nat.zero_add]; exact hla4.cell hi) 9 Try.underlying9
         have hB : Aside (Below w.heap.size w w4) := by
           obtain ⟨h1, h2⟩ := hkw.out
           have h3 := hab.out
           exact ⟨hab4.os.trans (h3.os.trans h2.os), hab4.tape.trans (h3.tape.trans h2.tape), hab4.output.trans (h3.output.trans h2.output), Nat.le_trans h2.size (Nat.le_trans h3.size hab4.size), fun j hj => by
             rw [hab4.oth j (by have := h2.size; have := h3.size; omega) (by omega), h3.oth j (by have := h2.size; omega) (by omega)]; exact h2.block j hj⟩
         clear hla4 hab4))
    refine ⟨rfl, _, run_results (ts := [2, 3]) rfl _ _, rfl, hB.out⟩
  · rw [ltR_no (by simpa using h)]
    rw [show picB l = false by simpa using h] at hpic
    clear hus h
    go_enter Try.func9, Try.ntmps9
    go_wp2_with (go_at_call 46; refine hpic.mono ?_; rintro e w1 ⟨rfl, hb1⟩)
    refine ⟨rfl, _, run_results (ts := [2, 3]) rfl _ _, rfl, hb1⟩
end Go.Proofs.Yteapdildbfimnaa
