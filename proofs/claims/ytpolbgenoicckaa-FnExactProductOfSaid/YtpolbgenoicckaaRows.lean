/-
  No cell of these rows narrows 'for every input' (looked for: loops, veiled, ifaces, maps, wideKeys, modest, calm, conditions, laid).
  DERIVED. THE GIVEN ROWS OF THIS SEAT. 12 by the template 'for every input the law returns true; each argument reads behind the call as it read before'; 0 by the template 'total and deterministic' (their statements: YtpolbgenoicckaaTotals.lean).
  GIVEN WITH THE SEED: the statements are not yours to turn. If you find one false, say at which input.
  Laid BY PROGRAM, IN A SANDBOX (cutbox-rows.mjs): the forced cells as the released guide's own fill.sh prints them over the translation 21af1f71d9f7f854… (all of the seat's roots in one cut). By AI agents, Wed Nov 11 2026. No macro, syntax, notation, axiom, sorry.
-/
import Derived.Test.YtpolbgenoicckaaChecked
import GoSem.Claim
import GoSem.ClaimJoined
import GoSem.ClaimMapViews
import Derived.JoinedTies
import Derived.KernelRfl
namespace Go.Proofs.Ytpolbgenoicckaa
/- THE CELL 'sum', in the pinned program and in every row, IS THE sha256 OF THE DUMP (.gsa) THAT YtpolbgenoicckaaProg.lean LOADS. Nothing in Lean hashes anything: it is a label: what it is worth is what the hold of that sum in a sandbox is worth. -/
noncomputable def Try.pinned : Pinned := { name := "ytpolbgenoicckaa", sum := "21af1f71d9f7f854f3b49eecfdb0df1241fdb9e2dd566a2d98674ddc81f742b5", checked := Try.checked }
namespace Rows
def none {H : Type} : Left H := { results := [], args := [] }

/-- 'laws.FnExactPictureText': WHATEVER THE INPUT: true; the input reads as it did. -/
def fnExactPictureTextSpec : ChangeSpec := { name := "fnExactPictureText", fn := fun _ => fun
  | [d] => { results := [.lit (.bool true)], args := [d] }
  | _ => none }
def fnExactPictureTextRow : OpenClaim := { program := "ytpolbgenoicckaa", sum := "21af1f71d9f7f854f3b49eecfdb0df1241fdb9e2dd566a2d98674ddc81f742b5", func := "loop.example/g01056/laws.FnExactPictureText", spec := "fnExactPictureText", inPlace := ["internal/abi.NoEscape", "internal/bytealg.MakeNoZero"], apart := false }
def FnExactPictureTextSaid : Prop := fnExactPictureTextRow.holds Try.pinned (OpenSpec.ofChange fnExactPictureTextSpec)

/-- ITS FALSE NEIGHBOUR: 'it returns false'. Refute it at one input. -/
def fnExactPictureTextWrong : ChangeSpec := { name := "fnExactPictureText", fn := fun _ => fun
  | [d] => { results := [.lit (.bool false)], args := [d] }
  | _ => none }
def FnExactPictureTextWrongFalsely : Prop := fnExactPictureTextRow.holds Try.pinned (OpenSpec.ofChange fnExactPictureTextWrong)

/-- 'laws.FnExactBorderPlaces': WHATEVER THE INPUT: true; the input reads as it did. -/
def fnExactBorderPlacesSpec : ChangeSpec := { name := "fnExactBorderPlaces", fn := fun _ => fun
  | [d] => { results := [.lit (.bool true)], args := [d] }
  | _ => none }
def fnExactBorderPlacesRow : OpenClaim := { program := "ytpolbgenoicckaa", sum := "21af1f71d9f7f854f3b49eecfdb0df1241fdb9e2dd566a2d98674ddc81f742b5", func := "loop.example/g01056/laws.FnExactBorderPlaces", spec := "fnExactBorderPlaces", apart := false }
def FnExactBorderPlacesSaid : Prop := fnExactBorderPlacesRow.holds Try.pinned (OpenSpec.ofChange fnExactBorderPlacesSpec)

/-- ITS FALSE NEIGHBOUR: 'it returns false'. Refute it at one input. -/
def fnExactBorderPlacesWrong : ChangeSpec := { name := "fnExactBorderPlaces", fn := fun _ => fun
  | [d] => { results := [.lit (.bool false)], args := [d] }
  | _ => none }
def FnExactBorderPlacesWrongFalsely : Prop := fnExactBorderPlacesRow.holds Try.pinned (OpenSpec.ofChange fnExactBorderPlacesWrong)

/-- 'laws.FnExactCountLetter': WHATEVER THE INPUT: true; the input reads as it did. -/
def fnExactCountLetterSpec : ChangeSpec := { name := "fnExactCountLetter", fn := fun _ => fun
  | [d1, d2] => { results := [.lit (.bool true)], args := [d1, d2] }
  | _ => none }
def fnExactCountLetterRow : OpenClaim := { program := "ytpolbgenoicckaa", sum := "21af1f71d9f7f854f3b49eecfdb0df1241fdb9e2dd566a2d98674ddc81f742b5", func := "loop.example/g01056/laws.FnExactCountLetter", spec := "fnExactCountLetter", inPlace := ["internal/abi.NoEscape", "internal/bytealg.MakeNoZero", "internal/bytealg.CountString", "internal/bytealg.IndexByteString", "internal/bytealg.IndexString"], named := ["internal/bytealg.MaxLen"], apart := false }
def FnExactCountLetterSaid : Prop := fnExactCountLetterRow.holds Try.pinned (OpenSpec.ofChange fnExactCountLetterSpec)

/-- ITS FALSE NEIGHBOUR: 'it returns false'. Refute it at one input. -/
def fnExactCountLetterWrong : ChangeSpec := { name := "fnExactCountLetter", fn := fun _ => fun
  | [d1, d2] => { results := [.lit (.bool false)], args := [d1, d2] }
  | _ => none }
def FnExactCountLetterWrongFalsely : Prop := fnExactCountLetterRow.holds Try.pinned (OpenSpec.ofChange fnExactCountLetterWrong)

/-- 'laws.FnExactCostOfWord': WHATEVER THE INPUT: true; the input reads as it did. -/
def fnExactCostOfWordSpec : ChangeSpec := { name := "fnExactCostOfWord", fn := fun _ => fun
  | [d1, d2] => { results := [.lit (.bool true)], args := [d1, d2] }
  | _ => none }
def fnExactCostOfWordRow : OpenClaim := { program := "ytpolbgenoicckaa", sum := "21af1f71d9f7f854f3b49eecfdb0df1241fdb9e2dd566a2d98674ddc81f742b5", func := "loop.example/g01056/laws.FnExactCostOfWord", spec := "fnExactCostOfWord", unfollowed := true, recurses := true, apart := false }
def FnExactCostOfWordSaid : Prop := fnExactCostOfWordRow.holds Try.pinned (OpenSpec.ofChange fnExactCostOfWordSpec)

/-- ITS FALSE NEIGHBOUR: 'it returns false'. Refute it at one input. -/
def fnExactCostOfWordWrong : ChangeSpec := { name := "fnExactCostOfWord", fn := fun _ => fun
  | [d1, d2] => { results := [.lit (.bool false)], args := [d1, d2] }
  | _ => none }
def FnExactCostOfWordWrongFalsely : Prop := fnExactCostOfWordRow.holds Try.pinned (OpenSpec.ofChange fnExactCostOfWordWrong)

/-- 'laws.FnExactReverseAutomaton': WHATEVER THE INPUT: true; the input reads as it did. -/
def fnExactReverseAutomatonSpec : ChangeSpec := { name := "fnExactReverseAutomaton", fn := fun _ => fun
  | [d] => { results := [.lit (.bool true)], args := [d] }
  | _ => none }
def fnExactReverseAutomatonRow : OpenClaim := { program := "ytpolbgenoicckaa", sum := "21af1f71d9f7f854f3b49eecfdb0df1241fdb9e2dd566a2d98674ddc81f742b5", func := "loop.example/g01056/laws.FnExactReverseAutomaton", spec := "fnExactReverseAutomaton", unfollowed := true, recurses := true, apart := false }
def FnExactReverseAutomatonSaid : Prop := fnExactReverseAutomatonRow.holds Try.pinned (OpenSpec.ofChange fnExactReverseAutomatonSpec)

/-- ITS FALSE NEIGHBOUR: 'it returns false'. Refute it at one input. -/
def fnExactReverseAutomatonWrong : ChangeSpec := { name := "fnExactReverseAutomaton", fn := fun _ => fun
  | [d] => { results := [.lit (.bool false)], args := [d] }
  | _ => none }
def FnExactReverseAutomatonWrongFalsely : Prop := fnExactReverseAutomatonRow.holds Try.pinned (OpenSpec.ofChange fnExactReverseAutomatonWrong)

/-- 'laws.FnExactLeastWord': WHATEVER THE INPUT: true; the input reads as it did. -/
def fnExactLeastWordSpec : ChangeSpec := { name := "fnExactLeastWord", fn := fun _ => fun
  | [d1, d2] => { results := [.lit (.bool true)], args := [d1, d2] }
  | _ => none }
def fnExactLeastWordRow : OpenClaim := { program := "ytpolbgenoicckaa", sum := "21af1f71d9f7f854f3b49eecfdb0df1241fdb9e2dd566a2d98674ddc81f742b5", func := "loop.example/g01056/laws.FnExactLeastWord", spec := "fnExactLeastWord", unfollowed := true, recurses := true, apart := false }
def FnExactLeastWordSaid : Prop := fnExactLeastWordRow.holds Try.pinned (OpenSpec.ofChange fnExactLeastWordSpec)

/-- ITS FALSE NEIGHBOUR: 'it returns false'. Refute it at one input. -/
def fnExactLeastWordWrong : ChangeSpec := { name := "fnExactLeastWord", fn := fun _ => fun
  | [d1, d2] => { results := [.lit (.bool false)], args := [d1, d2] }
  | _ => none }
def FnExactLeastWordWrongFalsely : Prop := fnExactLeastWordRow.holds Try.pinned (OpenSpec.ofChange fnExactLeastWordWrong)

/-- 'laws.FnExactProductOf': WHATEVER THE INPUT: true; the input reads as it did. -/
def fnExactProductOfSpec : ChangeSpec := { name := "fnExactProductOf", fn := fun _ => fun
  | [d1, d2] => { results := [.lit (.bool true)], args := [d1, d2] }
  | _ => none }
def fnExactProductOfRow : OpenClaim := { program := "ytpolbgenoicckaa", sum := "21af1f71d9f7f854f3b49eecfdb0df1241fdb9e2dd566a2d98674ddc81f742b5", func := "loop.example/g01056/laws.FnExactProductOf", spec := "fnExactProductOf", unfollowed := true, recurses := true, apart := false }
def FnExactProductOfSaid : Prop := fnExactProductOfRow.holds Try.pinned (OpenSpec.ofChange fnExactProductOfSpec)

/-- ITS FALSE NEIGHBOUR: 'it returns false'. Refute it at one input. -/
def fnExactProductOfWrong : ChangeSpec := { name := "fnExactProductOf", fn := fun _ => fun
  | [d1, d2] => { results := [.lit (.bool false)], args := [d1, d2] }
  | _ => none }
def FnExactProductOfWrongFalsely : Prop := fnExactProductOfRow.holds Try.pinned (OpenSpec.ofChange fnExactProductOfWrong)

/-- 'laws.FnExactBestRun': WHATEVER THE INPUT: true; the input reads as it did. -/
def fnExactBestRunSpec : ChangeSpec := { name := "fnExactBestRun", fn := fun _ => fun
  | [d1, d2] => { results := [.lit (.bool true)], args := [d1, d2] }
  | _ => none }
def fnExactBestRunRow : OpenClaim := { program := "ytpolbgenoicckaa", sum := "21af1f71d9f7f854f3b49eecfdb0df1241fdb9e2dd566a2d98674ddc81f742b5", func := "loop.example/g01056/laws.FnExactBestRun", spec := "fnExactBestRun", unfollowed := true, recurses := true, apart := false }
def FnExactBestRunSaid : Prop := fnExactBestRunRow.holds Try.pinned (OpenSpec.ofChange fnExactBestRunSpec)

/-- ITS FALSE NEIGHBOUR: 'it returns false'. Refute it at one input. -/
def fnExactBestRunWrong : ChangeSpec := { name := "fnExactBestRun", fn := fun _ => fun
  | [d1, d2] => { results := [.lit (.bool false)], args := [d1, d2] }
  | _ => none }
def FnExactBestRunWrongFalsely : Prop := fnExactBestRunRow.holds Try.pinned (OpenSpec.ofChange fnExactBestRunWrong)

/-- 'laws.FnExactNeedlessStates': WHATEVER THE INPUT: true; the input reads as it did. -/
def fnExactNeedlessStatesSpec : ChangeSpec := { name := "fnExactNeedlessStates", fn := fun _ => fun
  | [d] => { results := [.lit (.bool true)], args := [d] }
  | _ => none }
def fnExactNeedlessStatesRow : OpenClaim := { program := "ytpolbgenoicckaa", sum := "21af1f71d9f7f854f3b49eecfdb0df1241fdb9e2dd566a2d98674ddc81f742b5", func := "loop.example/g01056/laws.FnExactNeedlessStates", spec := "fnExactNeedlessStates", unfollowed := true, recurses := true, apart := false }
def FnExactNeedlessStatesSaid : Prop := fnExactNeedlessStatesRow.holds Try.pinned (OpenSpec.ofChange fnExactNeedlessStatesSpec)

/-- ITS FALSE NEIGHBOUR: 'it returns false'. Refute it at one input. -/
def fnExactNeedlessStatesWrong : ChangeSpec := { name := "fnExactNeedlessStates", fn := fun _ => fun
  | [d] => { results := [.lit (.bool false)], args := [d] }
  | _ => none }
def FnExactNeedlessStatesWrongFalsely : Prop := fnExactNeedlessStatesRow.holds Try.pinned (OpenSpec.ofChange fnExactNeedlessStatesWrong)

/-- 'laws.FnExactUnionOf': WHATEVER THE INPUT: true; the input reads as it did. -/
def fnExactUnionOfSpec : ChangeSpec := { name := "fnExactUnionOf", fn := fun _ => fun
  | [d1, d2] => { results := [.lit (.bool true)], args := [d1, d2] }
  | _ => none }
def fnExactUnionOfRow : OpenClaim := { program := "ytpolbgenoicckaa", sum := "21af1f71d9f7f854f3b49eecfdb0df1241fdb9e2dd566a2d98674ddc81f742b5", func := "loop.example/g01056/laws.FnExactUnionOf", spec := "fnExactUnionOf", unfollowed := true, recurses := true, apart := false }
def FnExactUnionOfSaid : Prop := fnExactUnionOfRow.holds Try.pinned (OpenSpec.ofChange fnExactUnionOfSpec)

/-- ITS FALSE NEIGHBOUR: 'it returns false'. Refute it at one input. -/
def fnExactUnionOfWrong : ChangeSpec := { name := "fnExactUnionOf", fn := fun _ => fun
  | [d1, d2] => { results := [.lit (.bool false)], args := [d1, d2] }
  | _ => none }
def FnExactUnionOfWrongFalsely : Prop := fnExactUnionOfRow.holds Try.pinned (OpenSpec.ofChange fnExactUnionOfWrong)

/-- 'laws.FnExactCheapWords': WHATEVER THE INPUT: true; the input reads as it did. -/
def fnExactCheapWordsSpec : ChangeSpec := { name := "fnExactCheapWords", fn := fun _ => fun
  | [d1, d2, d3] => { results := [.lit (.bool true)], args := [d1, d2, d3] }
  | _ => none }
def fnExactCheapWordsRow : OpenClaim := { program := "ytpolbgenoicckaa", sum := "21af1f71d9f7f854f3b49eecfdb0df1241fdb9e2dd566a2d98674ddc81f742b5", func := "loop.example/g01056/laws.FnExactCheapWords", spec := "fnExactCheapWords", unfollowed := true, recurses := true, apart := false }
def FnExactCheapWordsSaid : Prop := fnExactCheapWordsRow.holds Try.pinned (OpenSpec.ofChange fnExactCheapWordsSpec)

/-- ITS FALSE NEIGHBOUR: 'it returns false'. Refute it at one input. -/
def fnExactCheapWordsWrong : ChangeSpec := { name := "fnExactCheapWords", fn := fun _ => fun
  | [d1, d2, d3] => { results := [.lit (.bool false)], args := [d1, d2, d3] }
  | _ => none }
def FnExactCheapWordsWrongFalsely : Prop := fnExactCheapWordsRow.holds Try.pinned (OpenSpec.ofChange fnExactCheapWordsWrong)

/-- 'laws.FnExactLettersOf': WHATEVER THE INPUT: true; the input reads as it did. -/
def fnExactLettersOfSpec : ChangeSpec := { name := "fnExactLettersOf", fn := fun _ => fun
  | [d] => { results := [.lit (.bool true)], args := [d] }
  | _ => none }
def fnExactLettersOfRow : OpenClaim := { program := "ytpolbgenoicckaa", sum := "21af1f71d9f7f854f3b49eecfdb0df1241fdb9e2dd566a2d98674ddc81f742b5", func := "loop.example/g01056/laws.FnExactLettersOf", spec := "fnExactLettersOf", inPlace := ["internal/abi.NoEscape", "internal/bytealg.MakeNoZero"], recurses := true, apart := false }
def FnExactLettersOfSaid : Prop := fnExactLettersOfRow.holds Try.pinned (OpenSpec.ofChange fnExactLettersOfSpec)

/-- ITS FALSE NEIGHBOUR: 'it returns false'. Refute it at one input. -/
def fnExactLettersOfWrong : ChangeSpec := { name := "fnExactLettersOf", fn := fun _ => fun
  | [d] => { results := [.lit (.bool false)], args := [d] }
  | _ => none }
def FnExactLettersOfWrongFalsely : Prop := fnExactLettersOfRow.holds Try.pinned (OpenSpec.ofChange fnExactLettersOfWrong)

/- THE SECOND FORM. 'bulk': how many values and letters a reading holds, each counted each time it is reached (what is shared counts as often as it is met; a slice's spare places count too). A statement '..UptoSaid' is the law's where the arguments, and the package variables that the reading takes, are together of bulk at most 1048576: NARROWER than '..Said'. Prove '..Said' where nothing that the law and all that it calls make is longer than what came in: it says more and counts as full. Else prove '..UptoSaid'. A law counts once. -/
mutual
def uptoBulk {H : Type} : DataW H → Nat
  | .lit (.string bytes) => bytes.length + 1
  | .lit _ => 1
  | .nil => 1
  | .ptr d => uptoBulk d + 1
  | .slice elems spare => uptoBulkAll elems + uptoBulkAll spare + 1
  | .agg parts => uptoBulkAll parts + 1
  | .iface _ d => uptoBulk d + 1
  | .map entries => uptoBulkEntries entries + 1
  | .held _ => 1
def uptoBulkAll {H : Type} : List (DataW H) → Nat
  | [] => 0
  | d :: r => uptoBulk d + uptoBulkAll r
def uptoBulkEntries {H : Type} : List (Lit × DataW H) → Nat
  | [] => 0
  | x :: r => uptoBulkEntry x + uptoBulkEntries r
def uptoBulkEntry {H : Type} : Lit × DataW H → Nat
  | (.string bytes, d) => bytes.length + uptoBulk d + 1
  | (_, d) => uptoBulk d + 1
 end
def uptoSmall : (H : Type) → List (DataW H) → Bool := fun _ ds => decide (uptoBulkAll ds ≤ 1048576)
def OpenSpec.upto (s : _root_.Go.ChangeSpec) : _root_.Go.OpenSpec := { _root_.Go.OpenSpec.ofChange s with cond := some uptoSmall }

/-- 'laws.FnExactPictureText', WHERE WHAT IT READS IS OF BULK AT MOST 1048576: true; the input reads as it did. -/
def fnExactPictureTextUptoRow : OpenClaim := { program := "ytpolbgenoicckaa", sum := "21af1f71d9f7f854f3b49eecfdb0df1241fdb9e2dd566a2d98674ddc81f742b5", func := "loop.example/g01056/laws.FnExactPictureText", spec := "fnExactPictureText", inPlace := ["internal/abi.NoEscape", "internal/bytealg.MakeNoZero"], apart := false, narrowed := true }
def FnExactPictureTextUptoSaid : Prop := fnExactPictureTextUptoRow.holds Try.pinned (OpenSpec.upto fnExactPictureTextSpec)

/-- 'laws.FnExactBorderPlaces', WHERE WHAT IT READS IS OF BULK AT MOST 1048576: true; the input reads as it did. -/
def fnExactBorderPlacesUptoRow : OpenClaim := { program := "ytpolbgenoicckaa", sum := "21af1f71d9f7f854f3b49eecfdb0df1241fdb9e2dd566a2d98674ddc81f742b5", func := "loop.example/g01056/laws.FnExactBorderPlaces", spec := "fnExactBorderPlaces", apart := false, narrowed := true }
def FnExactBorderPlacesUptoSaid : Prop := fnExactBorderPlacesUptoRow.holds Try.pinned (OpenSpec.upto fnExactBorderPlacesSpec)

/-- 'laws.FnExactCountLetter', WHERE WHAT IT READS IS OF BULK AT MOST 1048576: true; the input reads as it did. -/
def fnExactCountLetterUptoRow : OpenClaim := { program := "ytpolbgenoicckaa", sum := "21af1f71d9f7f854f3b49eecfdb0df1241fdb9e2dd566a2d98674ddc81f742b5", func := "loop.example/g01056/laws.FnExactCountLetter", spec := "fnExactCountLetter", inPlace := ["internal/abi.NoEscape", "internal/bytealg.MakeNoZero", "internal/bytealg.CountString", "internal/bytealg.IndexByteString", "internal/bytealg.IndexString"], named := ["internal/bytealg.MaxLen"], apart := false, narrowed := true }
def FnExactCountLetterUptoSaid : Prop := fnExactCountLetterUptoRow.holds Try.pinned (OpenSpec.upto fnExactCountLetterSpec)

/-- 'laws.FnExactCostOfWord', WHERE WHAT IT READS IS OF BULK AT MOST 1048576: true; the input reads as it did. -/
def fnExactCostOfWordUptoRow : OpenClaim := { program := "ytpolbgenoicckaa", sum := "21af1f71d9f7f854f3b49eecfdb0df1241fdb9e2dd566a2d98674ddc81f742b5", func := "loop.example/g01056/laws.FnExactCostOfWord", spec := "fnExactCostOfWord", unfollowed := true, recurses := true, apart := false, narrowed := true }
def FnExactCostOfWordUptoSaid : Prop := fnExactCostOfWordUptoRow.holds Try.pinned (OpenSpec.upto fnExactCostOfWordSpec)

/-- 'laws.FnExactReverseAutomaton', WHERE WHAT IT READS IS OF BULK AT MOST 1048576: true; the input reads as it did. -/
def fnExactReverseAutomatonUptoRow : OpenClaim := { program := "ytpolbgenoicckaa", sum := "21af1f71d9f7f854f3b49eecfdb0df1241fdb9e2dd566a2d98674ddc81f742b5", func := "loop.example/g01056/laws.FnExactReverseAutomaton", spec := "fnExactReverseAutomaton", unfollowed := true, recurses := true, apart := false, narrowed := true }
def FnExactReverseAutomatonUptoSaid : Prop := fnExactReverseAutomatonUptoRow.holds Try.pinned (OpenSpec.upto fnExactReverseAutomatonSpec)

/-- 'laws.FnExactLeastWord', WHERE WHAT IT READS IS OF BULK AT MOST 1048576: true; the input reads as it did. -/
def fnExactLeastWordUptoRow : OpenClaim := { program := "ytpolbgenoicckaa", sum := "21af1f71d9f7f854f3b49eecfdb0df1241fdb9e2dd566a2d98674ddc81f742b5", func := "loop.example/g01056/laws.FnExactLeastWord", spec := "fnExactLeastWord", unfollowed := true, recurses := true, apart := false, narrowed := true }
def FnExactLeastWordUptoSaid : Prop := fnExactLeastWordUptoRow.holds Try.pinned (OpenSpec.upto fnExactLeastWordSpec)

/-- 'laws.FnExactProductOf', WHERE WHAT IT READS IS OF BULK AT MOST 1048576: true; the input reads as it did. -/
def fnExactProductOfUptoRow : OpenClaim := { program := "ytpolbgenoicckaa", sum := "21af1f71d9f7f854f3b49eecfdb0df1241fdb9e2dd566a2d98674ddc81f742b5", func := "loop.example/g01056/laws.FnExactProductOf", spec := "fnExactProductOf", unfollowed := true, recurses := true, apart := false, narrowed := true }
def FnExactProductOfUptoSaid : Prop := fnExactProductOfUptoRow.holds Try.pinned (OpenSpec.upto fnExactProductOfSpec)

/-- 'laws.FnExactBestRun', WHERE WHAT IT READS IS OF BULK AT MOST 1048576: true; the input reads as it did. -/
def fnExactBestRunUptoRow : OpenClaim := { program := "ytpolbgenoicckaa", sum := "21af1f71d9f7f854f3b49eecfdb0df1241fdb9e2dd566a2d98674ddc81f742b5", func := "loop.example/g01056/laws.FnExactBestRun", spec := "fnExactBestRun", unfollowed := true, recurses := true, apart := false, narrowed := true }
def FnExactBestRunUptoSaid : Prop := fnExactBestRunUptoRow.holds Try.pinned (OpenSpec.upto fnExactBestRunSpec)

/-- 'laws.FnExactNeedlessStates', WHERE WHAT IT READS IS OF BULK AT MOST 1048576: true; the input reads as it did. -/
def fnExactNeedlessStatesUptoRow : OpenClaim := { program := "ytpolbgenoicckaa", sum := "21af1f71d9f7f854f3b49eecfdb0df1241fdb9e2dd566a2d98674ddc81f742b5", func := "loop.example/g01056/laws.FnExactNeedlessStates", spec := "fnExactNeedlessStates", unfollowed := true, recurses := true, apart := false, narrowed := true }
def FnExactNeedlessStatesUptoSaid : Prop := fnExactNeedlessStatesUptoRow.holds Try.pinned (OpenSpec.upto fnExactNeedlessStatesSpec)

/-- 'laws.FnExactUnionOf', WHERE WHAT IT READS IS OF BULK AT MOST 1048576: true; the input reads as it did. -/
def fnExactUnionOfUptoRow : OpenClaim := { program := "ytpolbgenoicckaa", sum := "21af1f71d9f7f854f3b49eecfdb0df1241fdb9e2dd566a2d98674ddc81f742b5", func := "loop.example/g01056/laws.FnExactUnionOf", spec := "fnExactUnionOf", unfollowed := true, recurses := true, apart := false, narrowed := true }
def FnExactUnionOfUptoSaid : Prop := fnExactUnionOfUptoRow.holds Try.pinned (OpenSpec.upto fnExactUnionOfSpec)

/-- 'laws.FnExactCheapWords', WHERE WHAT IT READS IS OF BULK AT MOST 1048576: true; the input reads as it did. -/
def fnExactCheapWordsUptoRow : OpenClaim := { program := "ytpolbgenoicckaa", sum := "21af1f71d9f7f854f3b49eecfdb0df1241fdb9e2dd566a2d98674ddc81f742b5", func := "loop.example/g01056/laws.FnExactCheapWords", spec := "fnExactCheapWords", unfollowed := true, recurses := true, apart := false, narrowed := true }
def FnExactCheapWordsUptoSaid : Prop := fnExactCheapWordsUptoRow.holds Try.pinned (OpenSpec.upto fnExactCheapWordsSpec)

/-- 'laws.FnExactLettersOf', WHERE WHAT IT READS IS OF BULK AT MOST 1048576: true; the input reads as it did. -/
def fnExactLettersOfUptoRow : OpenClaim := { program := "ytpolbgenoicckaa", sum := "21af1f71d9f7f854f3b49eecfdb0df1241fdb9e2dd566a2d98674ddc81f742b5", func := "loop.example/g01056/laws.FnExactLettersOf", spec := "fnExactLettersOf", inPlace := ["internal/abi.NoEscape", "internal/bytealg.MakeNoZero"], recurses := true, apart := false, narrowed := true }
def FnExactLettersOfUptoSaid : Prop := fnExactLettersOfUptoRow.holds Try.pinned (OpenSpec.upto fnExactLettersOfSpec)

end Rows
end Go.Proofs.Ytpolbgenoicckaa
