/-
  No cell of these rows narrows 'for every input' (looked for: loops, veiled, ifaces, maps, wideKeys, modest, calm, conditions, laid).
  DERIVED. THE GIVEN ROWS OF THIS SEAT. 8 by the template 'for every input the law returns true; each argument reads behind the call as it read before'; 0 by the template 'total and deterministic' (their statements: YtpimjkhfookipaaTotals.lean).
  GIVEN WITH THE SEED: the statements are not yours to turn. If you find one false, say at which input.
  Laid BY PROGRAM, IN A SANDBOX (cutbox-rows.mjs): the forced cells as the released guide's own fill.sh prints them over the translation c515d09b33bd5506… (all of the seat's roots in one cut). By AI agents, Wed Nov 11 2026. No macro, syntax, notation, axiom, sorry.
-/
import Derived.Test.YtpimjkhfookipaaChecked
import GoSem.Claim
import GoSem.ClaimJoined
import GoSem.ClaimMapViews
import Derived.JoinedTies
import Derived.KernelRfl
namespace Go.Proofs.Ytpimjkhfookipaa
/- THE CELL 'sum', in the pinned program and in every row, IS THE sha256 OF THE DUMP (.gsa) THAT YtpimjkhfookipaaProg.lean LOADS. Nothing in Lean hashes anything: it is a label: what it is worth is what the hold of that sum in a sandbox is worth. -/
noncomputable def Try.pinned : Pinned := { name := "ytpimjkhfookipaa", sum := "c515d09b33bd55067cf9944df999a89b972930e8b178fb8d991c7f9c440bec50", checked := Try.checked }
namespace Rows
def none {H : Type} : Left H := { results := [], args := [] }

/-- 'laws.FnExactCountParts': WHATEVER THE INPUT: true; the input reads as it did. -/
def fnExactCountPartsSpec : ChangeSpec := { name := "fnExactCountParts", fn := fun _ => fun
  | [d] => { results := [.lit (.bool true)], args := [d] }
  | _ => none }
def fnExactCountPartsRow : OpenClaim := { program := "ytpimjkhfookipaa", sum := "c515d09b33bd55067cf9944df999a89b972930e8b178fb8d991c7f9c440bec50", func := "loop.example/g01056/laws.FnExactCountParts", spec := "fnExactCountParts", plainKeys := false, apart := false }
def FnExactCountPartsSaid : Prop := fnExactCountPartsRow.holds Try.pinned (OpenSpec.ofChange fnExactCountPartsSpec)

/-- ITS FALSE NEIGHBOUR: 'it returns false'. Refute it at one input. -/
def fnExactCountPartsWrong : ChangeSpec := { name := "fnExactCountParts", fn := fun _ => fun
  | [d] => { results := [.lit (.bool false)], args := [d] }
  | _ => none }
def FnExactCountPartsWrongFalsely : Prop := fnExactCountPartsRow.holds Try.pinned (OpenSpec.ofChange fnExactCountPartsWrong)

/-- 'laws.FnExactGreatestPart': WHATEVER THE INPUT: true; the input reads as it did. -/
def fnExactGreatestPartSpec : ChangeSpec := { name := "fnExactGreatestPart", fn := fun _ => fun
  | [d] => { results := [.lit (.bool true)], args := [d] }
  | _ => none }
def fnExactGreatestPartRow : OpenClaim := { program := "ytpimjkhfookipaa", sum := "c515d09b33bd55067cf9944df999a89b972930e8b178fb8d991c7f9c440bec50", func := "loop.example/g01056/laws.FnExactGreatestPart", spec := "fnExactGreatestPart", plainKeys := false, apart := false }
def FnExactGreatestPartSaid : Prop := fnExactGreatestPartRow.holds Try.pinned (OpenSpec.ofChange fnExactGreatestPartSpec)

/-- ITS FALSE NEIGHBOUR: 'it returns false'. Refute it at one input. -/
def fnExactGreatestPartWrong : ChangeSpec := { name := "fnExactGreatestPart", fn := fun _ => fun
  | [d] => { results := [.lit (.bool false)], args := [d] }
  | _ => none }
def FnExactGreatestPartWrongFalsely : Prop := fnExactGreatestPartRow.holds Try.pinned (OpenSpec.ofChange fnExactGreatestPartWrong)

/-- 'laws.FnExactLettersOf': WHATEVER THE INPUT: true; the input reads as it did. -/
def fnExactLettersOfSpec : ChangeSpec := { name := "fnExactLettersOf", fn := fun _ => fun
  | [d] => { results := [.lit (.bool true)], args := [d] }
  | _ => none }
def fnExactLettersOfRow : OpenClaim := { program := "ytpimjkhfookipaa", sum := "c515d09b33bd55067cf9944df999a89b972930e8b178fb8d991c7f9c440bec50", func := "loop.example/g01056/laws.FnExactLettersOf", spec := "fnExactLettersOf", inPlace := ["internal/abi.NoEscape", "internal/bytealg.MakeNoZero"], recurses := true, plainKeys := false, apart := false }
def FnExactLettersOfSaid : Prop := fnExactLettersOfRow.holds Try.pinned (OpenSpec.ofChange fnExactLettersOfSpec)

/-- ITS FALSE NEIGHBOUR: 'it returns false'. Refute it at one input. -/
def fnExactLettersOfWrong : ChangeSpec := { name := "fnExactLettersOf", fn := fun _ => fun
  | [d] => { results := [.lit (.bool false)], args := [d] }
  | _ => none }
def FnExactLettersOfWrongFalsely : Prop := fnExactLettersOfRow.holds Try.pinned (OpenSpec.ofChange fnExactLettersOfWrong)

/-- 'laws.FnAutomata': WHATEVER THE INPUT: true; the input reads as it did. -/
def fnAutomataSpec : ChangeSpec := { name := "fnAutomata", fn := fun _ => fun
  | [d1, d2] => { results := [.lit (.bool true)], args := [d1, d2] }
  | _ => none }
def fnAutomataRow : OpenClaim := { program := "ytpimjkhfookipaa", sum := "c515d09b33bd55067cf9944df999a89b972930e8b178fb8d991c7f9c440bec50", func := "loop.example/g01056/laws.FnAutomata", spec := "fnAutomata", unfollowed := true, recurses := true, plainKeys := false, apart := false }
def FnAutomataSaid : Prop := fnAutomataRow.holds Try.pinned (OpenSpec.ofChange fnAutomataSpec)

/-- ITS FALSE NEIGHBOUR: 'it returns false'. Refute it at one input. -/
def fnAutomataWrong : ChangeSpec := { name := "fnAutomata", fn := fun _ => fun
  | [d1, d2] => { results := [.lit (.bool false)], args := [d1, d2] }
  | _ => none }
def FnAutomataWrongFalsely : Prop := fnAutomataRow.holds Try.pinned (OpenSpec.ofChange fnAutomataWrong)

/-- 'laws.FnAutomatonWays': WHATEVER THE INPUT: true; the input reads as it did. -/
def fnAutomatonWaysSpec : ChangeSpec := { name := "fnAutomatonWays", fn := fun _ => fun
  | [d1, d2] => { results := [.lit (.bool true)], args := [d1, d2] }
  | _ => none }
def fnAutomatonWaysRow : OpenClaim := { program := "ytpimjkhfookipaa", sum := "c515d09b33bd55067cf9944df999a89b972930e8b178fb8d991c7f9c440bec50", func := "loop.example/g01056/laws.FnAutomatonWays", spec := "fnAutomatonWays", unfollowed := true, recurses := true, plainKeys := false, apart := false }
def FnAutomatonWaysSaid : Prop := fnAutomatonWaysRow.holds Try.pinned (OpenSpec.ofChange fnAutomatonWaysSpec)

/-- ITS FALSE NEIGHBOUR: 'it returns false'. Refute it at one input. -/
def fnAutomatonWaysWrong : ChangeSpec := { name := "fnAutomatonWays", fn := fun _ => fun
  | [d1, d2] => { results := [.lit (.bool false)], args := [d1, d2] }
  | _ => none }
def FnAutomatonWaysWrongFalsely : Prop := fnAutomatonWaysRow.holds Try.pinned (OpenSpec.ofChange fnAutomatonWaysWrong)

/-- 'laws.FnNormals': WHATEVER THE INPUT: true; the input reads as it did. -/
def fnNormalsSpec : ChangeSpec := { name := "fnNormals", fn := fun _ => fun
  | [d1, d2] => { results := [.lit (.bool true)], args := [d1, d2] }
  | _ => none }
def fnNormalsRow : OpenClaim := { program := "ytpimjkhfookipaa", sum := "c515d09b33bd55067cf9944df999a89b972930e8b178fb8d991c7f9c440bec50", func := "loop.example/g01056/laws.FnNormals", spec := "fnNormals", unfollowed := true, recurses := true, plainKeys := false, apart := false }
def FnNormalsSaid : Prop := fnNormalsRow.holds Try.pinned (OpenSpec.ofChange fnNormalsSpec)

/-- ITS FALSE NEIGHBOUR: 'it returns false'. Refute it at one input. -/
def fnNormalsWrong : ChangeSpec := { name := "fnNormals", fn := fun _ => fun
  | [d1, d2] => { results := [.lit (.bool false)], args := [d1, d2] }
  | _ => none }
def FnNormalsWrongFalsely : Prop := fnNormalsRow.holds Try.pinned (OpenSpec.ofChange fnNormalsWrong)

/-- 'laws.FnWayBounds': WHATEVER THE INPUT: true; the input reads as it did. -/
def fnWayBoundsSpec : ChangeSpec := { name := "fnWayBounds", fn := fun _ => fun
  | [d1, d2] => { results := [.lit (.bool true)], args := [d1, d2] }
  | _ => none }
def fnWayBoundsRow : OpenClaim := { program := "ytpimjkhfookipaa", sum := "c515d09b33bd55067cf9944df999a89b972930e8b178fb8d991c7f9c440bec50", func := "loop.example/g01056/laws.FnWayBounds", spec := "fnWayBounds", unfollowed := true, recurses := true, plainKeys := false, apart := false }
def FnWayBoundsSaid : Prop := fnWayBoundsRow.holds Try.pinned (OpenSpec.ofChange fnWayBoundsSpec)

/-- ITS FALSE NEIGHBOUR: 'it returns false'. Refute it at one input. -/
def fnWayBoundsWrong : ChangeSpec := { name := "fnWayBounds", fn := fun _ => fun
  | [d1, d2] => { results := [.lit (.bool false)], args := [d1, d2] }
  | _ => none }
def FnWayBoundsWrongFalsely : Prop := fnWayBoundsRow.holds Try.pinned (OpenSpec.ofChange fnWayBoundsWrong)

/-- 'laws.FnParts': WHATEVER THE INPUT: true; the input reads as it did. -/
def fnPartsSpec : ChangeSpec := { name := "fnParts", fn := fun _ => fun
  | [d1, d2] => { results := [.lit (.bool true)], args := [d1, d2] }
  | _ => none }
def fnPartsRow : OpenClaim := { program := "ytpimjkhfookipaa", sum := "c515d09b33bd55067cf9944df999a89b972930e8b178fb8d991c7f9c440bec50", func := "loop.example/g01056/laws.FnParts", spec := "fnParts", inPlace := ["internal/abi.NoEscape", "internal/bytealg.MakeNoZero", "internal/bytealg.CountString", "internal/bytealg.IndexByteString", "internal/bytealg.IndexString"], recurses := true, named := ["internal/bytealg.MaxLen"], plainKeys := false, apart := false }
def FnPartsSaid : Prop := fnPartsRow.holds Try.pinned (OpenSpec.ofChange fnPartsSpec)

/-- ITS FALSE NEIGHBOUR: 'it returns false'. Refute it at one input. -/
def fnPartsWrong : ChangeSpec := { name := "fnParts", fn := fun _ => fun
  | [d1, d2] => { results := [.lit (.bool false)], args := [d1, d2] }
  | _ => none }
def FnPartsWrongFalsely : Prop := fnPartsRow.holds Try.pinned (OpenSpec.ofChange fnPartsWrong)

/- THE SECOND FORM. 'bulk': how many values and letters a reading holds, each counted each time it is reached (what is shared counts as often as it is met; a slice's spare places count too). A statement '..UptoSaid' is the law's where the arguments, and the package variables that the reading takes, are together of bulk at most 1048576: NARROWER than '..Said'. Prove '..Said' where nothing that the law and all that it calls make is longer than what came in: it says more and counts as full. Else prove '..UptoSaid'. A law counts once. -/
mutual
def uptoBulk {H : Type} : DataW H → Nat
  | .lit (.string bytes) => bytes.length + 1
  | .lit _ => 1
  | .nil => 1
  | .ptr d => uptoBulk d + 1
  | .slice elems spare => uptoBulkAll elems + uptoBulkAll spare + 1
  | .agg parts => uptoBulkAll parts + 1
  | .iface _ d => uptoBulk d + 1
  | .map entries => uptoBulkEntries entries + 1
  | .held _ => 1
def uptoBulkAll {H : Type} : List (DataW H) → Nat
  | [] => 0
  | d :: r => uptoBulk d + uptoBulkAll r
def uptoBulkEntries {H : Type} : List (Lit × DataW H) → Nat
  | [] => 0
  | x :: r => uptoBulkEntry x + uptoBulkEntries r
def uptoBulkEntry {H : Type} : Lit × DataW H → Nat
  | (.string bytes, d) => bytes.length + uptoBulk d + 1
  | (_, d) => uptoBulk d + 1
 end
def uptoSmall : (H : Type) → List (DataW H) → Bool := fun _ ds => decide (uptoBulkAll ds ≤ 1048576)
def OpenSpec.upto (s : _root_.Go.ChangeSpec) : _root_.Go.OpenSpec := { _root_.Go.OpenSpec.ofChange s with cond := some uptoSmall }

/-- 'laws.FnExactCountParts', WHERE WHAT IT READS IS OF BULK AT MOST 1048576: true; the input reads as it did. -/
def fnExactCountPartsUptoRow : OpenClaim := { program := "ytpimjkhfookipaa", sum := "c515d09b33bd55067cf9944df999a89b972930e8b178fb8d991c7f9c440bec50", func := "loop.example/g01056/laws.FnExactCountParts", spec := "fnExactCountParts", plainKeys := false, apart := false, narrowed := true }
def FnExactCountPartsUptoSaid : Prop := fnExactCountPartsUptoRow.holds Try.pinned (OpenSpec.upto fnExactCountPartsSpec)

/-- 'laws.FnExactGreatestPart', WHERE WHAT IT READS IS OF BULK AT MOST 1048576: true; the input reads as it did. -/
def fnExactGreatestPartUptoRow : OpenClaim := { program := "ytpimjkhfookipaa", sum := "c515d09b33bd55067cf9944df999a89b972930e8b178fb8d991c7f9c440bec50", func := "loop.example/g01056/laws.FnExactGreatestPart", spec := "fnExactGreatestPart", plainKeys := false, apart := false, narrowed := true }
def FnExactGreatestPartUptoSaid : Prop := fnExactGreatestPartUptoRow.holds Try.pinned (OpenSpec.upto fnExactGreatestPartSpec)

/-- 'laws.FnExactLettersOf', WHERE WHAT IT READS IS OF BULK AT MOST 1048576: true; the input reads as it did. -/
def fnExactLettersOfUptoRow : OpenClaim := { program := "ytpimjkhfookipaa", sum := "c515d09b33bd55067cf9944df999a89b972930e8b178fb8d991c7f9c440bec50", func := "loop.example/g01056/laws.FnExactLettersOf", spec := "fnExactLettersOf", inPlace := ["internal/abi.NoEscape", "internal/bytealg.MakeNoZero"], recurses := true, plainKeys := false, apart := false, narrowed := true }
def FnExactLettersOfUptoSaid : Prop := fnExactLettersOfUptoRow.holds Try.pinned (OpenSpec.upto fnExactLettersOfSpec)

/-- 'laws.FnAutomata', WHERE WHAT IT READS IS OF BULK AT MOST 1048576: true; the input reads as it did. -/
def fnAutomataUptoRow : OpenClaim := { program := "ytpimjkhfookipaa", sum := "c515d09b33bd55067cf9944df999a89b972930e8b178fb8d991c7f9c440bec50", func := "loop.example/g01056/laws.FnAutomata", spec := "fnAutomata", unfollowed := true, recurses := true, plainKeys := false, apart := false, narrowed := true }
def FnAutomataUptoSaid : Prop := fnAutomataUptoRow.holds Try.pinned (OpenSpec.upto fnAutomataSpec)

/-- 'laws.FnAutomatonWays', WHERE WHAT IT READS IS OF BULK AT MOST 1048576: true; the input reads as it did. -/
def fnAutomatonWaysUptoRow : OpenClaim := { program := "ytpimjkhfookipaa", sum := "c515d09b33bd55067cf9944df999a89b972930e8b178fb8d991c7f9c440bec50", func := "loop.example/g01056/laws.FnAutomatonWays", spec := "fnAutomatonWays", unfollowed := true, recurses := true, plainKeys := false, apart := false, narrowed := true }
def FnAutomatonWaysUptoSaid : Prop := fnAutomatonWaysUptoRow.holds Try.pinned (OpenSpec.upto fnAutomatonWaysSpec)

/-- 'laws.FnNormals', WHERE WHAT IT READS IS OF BULK AT MOST 1048576: true; the input reads as it did. -/
def fnNormalsUptoRow : OpenClaim := { program := "ytpimjkhfookipaa", sum := "c515d09b33bd55067cf9944df999a89b972930e8b178fb8d991c7f9c440bec50", func := "loop.example/g01056/laws.FnNormals", spec := "fnNormals", unfollowed := true, recurses := true, plainKeys := false, apart := false, narrowed := true }
def FnNormalsUptoSaid : Prop := fnNormalsUptoRow.holds Try.pinned (OpenSpec.upto fnNormalsSpec)

/-- 'laws.FnWayBounds', WHERE WHAT IT READS IS OF BULK AT MOST 1048576: true; the input reads as it did. -/
def fnWayBoundsUptoRow : OpenClaim := { program := "ytpimjkhfookipaa", sum := "c515d09b33bd55067cf9944df999a89b972930e8b178fb8d991c7f9c440bec50", func := "loop.example/g01056/laws.FnWayBounds", spec := "fnWayBounds", unfollowed := true, recurses := true, plainKeys := false, apart := false, narrowed := true }
def FnWayBoundsUptoSaid : Prop := fnWayBoundsUptoRow.holds Try.pinned (OpenSpec.upto fnWayBoundsSpec)

/-- 'laws.FnParts', WHERE WHAT IT READS IS OF BULK AT MOST 1048576: true; the input reads as it did. -/
def fnPartsUptoRow : OpenClaim := { program := "ytpimjkhfookipaa", sum := "c515d09b33bd55067cf9944df999a89b972930e8b178fb8d991c7f9c440bec50", func := "loop.example/g01056/laws.FnParts", spec := "fnParts", inPlace := ["internal/abi.NoEscape", "internal/bytealg.MakeNoZero", "internal/bytealg.CountString", "internal/bytealg.IndexByteString", "internal/bytealg.IndexString"], recurses := true, named := ["internal/bytealg.MaxLen"], plainKeys := false, apart := false, narrowed := true }
def FnPartsUptoSaid : Prop := fnPartsUptoRow.holds Try.pinned (OpenSpec.upto fnPartsSpec)

end Rows
end Go.Proofs.Ytpimjkhfookipaa
