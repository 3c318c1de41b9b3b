/-
  No cell of these rows narrows 'for every input' (looked for: loops, veiled, ifaces, maps, wideKeys, modest, calm, conditions, laid).
  DERIVED. THE GIVEN ROWS OF THIS SEAT. 10 by the template 'for every input the law returns true; each argument reads behind the call as it read before'; 0 by the template 'total and deterministic' (their statements: YtfgpmjboplollaaTotals.lean).
  GIVEN WITH THE SEED: the statements are not yours to turn. If you find one false, say at which input.
  Laid BY PROGRAM, IN A SANDBOX (cutbox-rows.mjs): the forced cells as the released guide's own fill.sh prints them over the translation ad261431f682a2cd… (all of the seat's roots in one cut). By AI agents, Wed Nov 11 2026. No macro, syntax, notation, axiom, sorry.
-/
import Derived.Test.YtfgpmjboplollaaChecked
import GoSem.Claim
import GoSem.ClaimJoined
import GoSem.ClaimMapViews
import Derived.JoinedTies
import Derived.KernelRfl
namespace Go.Proofs.Ytfgpmjboplollaa
/- THE CELL 'sum', in the pinned program and in every row, IS THE sha256 OF THE DUMP (.gsa) THAT YtfgpmjboplollaaProg.lean LOADS. Nothing in Lean hashes anything: it is a label: what it is worth is what the hold of that sum in a sandbox is worth. -/
noncomputable def Try.pinned : Pinned := { name := "ytfgpmjboplollaa", sum := "ad261431f682a2cd365a9f21054fa358cfce007beab921d13f3f42d2b936fd4c", checked := Try.checked }
namespace Rows
def none {H : Type} : Left H := { results := [], args := [] }

/-- 'laws.FnExactNeedlessStates': WHATEVER THE INPUT: true; the input reads as it did. -/
def fnExactNeedlessStatesSpec : ChangeSpec := { name := "fnExactNeedlessStates", fn := fun _ => fun
  | [d] => { results := [.lit (.bool true)], args := [d] }
  | _ => none }
def fnExactNeedlessStatesRow : OpenClaim := { program := "ytfgpmjboplollaa", sum := "ad261431f682a2cd365a9f21054fa358cfce007beab921d13f3f42d2b936fd4c", func := "loop.example/g01056/laws.FnExactNeedlessStates", spec := "fnExactNeedlessStates", unfollowed := true, recurses := true, plainKeys := false, apart := false }
def FnExactNeedlessStatesSaid : Prop := fnExactNeedlessStatesRow.holds Try.pinned (OpenSpec.ofChange fnExactNeedlessStatesSpec)

/-- ITS FALSE NEIGHBOUR: 'it returns false'. Refute it at one input. -/
def fnExactNeedlessStatesWrong : ChangeSpec := { name := "fnExactNeedlessStates", fn := fun _ => fun
  | [d] => { results := [.lit (.bool false)], args := [d] }
  | _ => none }
def FnExactNeedlessStatesWrongFalsely : Prop := fnExactNeedlessStatesRow.holds Try.pinned (OpenSpec.ofChange fnExactNeedlessStatesWrong)

/-- 'laws.FnExactWayBounds': WHATEVER THE INPUT: true; the input reads as it did. -/
def fnExactWayBoundsSpec : ChangeSpec := { name := "fnExactWayBounds", fn := fun _ => fun
  | [d1, d2, d3, d4] => { results := [.lit (.bool true)], args := [d1, d2, d3, d4] }
  | _ => none }
def fnExactWayBoundsRow : OpenClaim := { program := "ytfgpmjboplollaa", sum := "ad261431f682a2cd365a9f21054fa358cfce007beab921d13f3f42d2b936fd4c", func := "loop.example/g01056/laws.FnExactWayBounds", spec := "fnExactWayBounds", unfollowed := true, recurses := true, plainKeys := false, apart := false }
def FnExactWayBoundsSaid : Prop := fnExactWayBoundsRow.holds Try.pinned (OpenSpec.ofChange fnExactWayBoundsSpec)

/-- ITS FALSE NEIGHBOUR: 'it returns false'. Refute it at one input. -/
def fnExactWayBoundsWrong : ChangeSpec := { name := "fnExactWayBounds", fn := fun _ => fun
  | [d1, d2, d3, d4] => { results := [.lit (.bool false)], args := [d1, d2, d3, d4] }
  | _ => none }
def FnExactWayBoundsWrongFalsely : Prop := fnExactWayBoundsRow.holds Try.pinned (OpenSpec.ofChange fnExactWayBoundsWrong)

/-- 'laws.FnExactIsSureWay': WHATEVER THE INPUT: true; the input reads as it did. -/
def fnExactIsSureWaySpec : ChangeSpec := { name := "fnExactIsSureWay", fn := fun _ => fun
  | [d1, d2, d3] => { results := [.lit (.bool true)], args := [d1, d2, d3] }
  | _ => none }
def fnExactIsSureWayRow : OpenClaim := { program := "ytfgpmjboplollaa", sum := "ad261431f682a2cd365a9f21054fa358cfce007beab921d13f3f42d2b936fd4c", func := "loop.example/g01056/laws.FnExactIsSureWay", spec := "fnExactIsSureWay", unfollowed := true, recurses := true, plainKeys := false, apart := false }
def FnExactIsSureWaySaid : Prop := fnExactIsSureWayRow.holds Try.pinned (OpenSpec.ofChange fnExactIsSureWaySpec)

/-- ITS FALSE NEIGHBOUR: 'it returns false'. Refute it at one input. -/
def fnExactIsSureWayWrong : ChangeSpec := { name := "fnExactIsSureWay", fn := fun _ => fun
  | [d1, d2, d3] => { results := [.lit (.bool false)], args := [d1, d2, d3] }
  | _ => none }
def FnExactIsSureWayWrongFalsely : Prop := fnExactIsSureWayRow.holds Try.pinned (OpenSpec.ofChange fnExactIsSureWayWrong)

/-- 'laws.FnExactLettersOf': WHATEVER THE INPUT: true; the input reads as it did. -/
def fnExactLettersOfSpec : ChangeSpec := { name := "fnExactLettersOf", fn := fun _ => fun
  | [d] => { results := [.lit (.bool true)], args := [d] }
  | _ => none }
def fnExactLettersOfRow : OpenClaim := { program := "ytfgpmjboplollaa", sum := "ad261431f682a2cd365a9f21054fa358cfce007beab921d13f3f42d2b936fd4c", func := "loop.example/g01056/laws.FnExactLettersOf", spec := "fnExactLettersOf", inPlace := ["internal/abi.NoEscape", "internal/bytealg.MakeNoZero"], recurses := true, plainKeys := false, apart := false }
def FnExactLettersOfSaid : Prop := fnExactLettersOfRow.holds Try.pinned (OpenSpec.ofChange fnExactLettersOfSpec)

/-- ITS FALSE NEIGHBOUR: 'it returns false'. Refute it at one input. -/
def fnExactLettersOfWrong : ChangeSpec := { name := "fnExactLettersOf", fn := fun _ => fun
  | [d] => { results := [.lit (.bool false)], args := [d] }
  | _ => none }
def FnExactLettersOfWrongFalsely : Prop := fnExactLettersOfRow.holds Try.pinned (OpenSpec.ofChange fnExactLettersOfWrong)

/-- 'laws.FnExactIsSymmetricPlane': WHATEVER THE INPUT: true; the input reads as it did. -/
def fnExactIsSymmetricPlaneSpec : ChangeSpec := { name := "fnExactIsSymmetricPlane", fn := fun _ => fun
  | [d] => { results := [.lit (.bool true)], args := [d] }
  | _ => none }
def fnExactIsSymmetricPlaneRow : OpenClaim := { program := "ytfgpmjboplollaa", sum := "ad261431f682a2cd365a9f21054fa358cfce007beab921d13f3f42d2b936fd4c", func := "loop.example/g01056/laws.FnExactIsSymmetricPlane", spec := "fnExactIsSymmetricPlane", unfollowed := true, recurses := true, plainKeys := false, apart := false }
def FnExactIsSymmetricPlaneSaid : Prop := fnExactIsSymmetricPlaneRow.holds Try.pinned (OpenSpec.ofChange fnExactIsSymmetricPlaneSpec)

/-- ITS FALSE NEIGHBOUR: 'it returns false'. Refute it at one input. -/
def fnExactIsSymmetricPlaneWrong : ChangeSpec := { name := "fnExactIsSymmetricPlane", fn := fun _ => fun
  | [d] => { results := [.lit (.bool false)], args := [d] }
  | _ => none }
def FnExactIsSymmetricPlaneWrongFalsely : Prop := fnExactIsSymmetricPlaneRow.holds Try.pinned (OpenSpec.ofChange fnExactIsSymmetricPlaneWrong)

/-- 'laws.FnExactCountParts': WHATEVER THE INPUT: true; the input reads as it did. -/
def fnExactCountPartsSpec : ChangeSpec := { name := "fnExactCountParts", fn := fun _ => fun
  | [d] => { results := [.lit (.bool true)], args := [d] }
  | _ => none }
def fnExactCountPartsRow : OpenClaim := { program := "ytfgpmjboplollaa", sum := "ad261431f682a2cd365a9f21054fa358cfce007beab921d13f3f42d2b936fd4c", func := "loop.example/g01056/laws.FnExactCountParts", spec := "fnExactCountParts", plainKeys := false, apart := false }
def FnExactCountPartsSaid : Prop := fnExactCountPartsRow.holds Try.pinned (OpenSpec.ofChange fnExactCountPartsSpec)

/-- ITS FALSE NEIGHBOUR: 'it returns false'. Refute it at one input. -/
def fnExactCountPartsWrong : ChangeSpec := { name := "fnExactCountParts", fn := fun _ => fun
  | [d] => { results := [.lit (.bool false)], args := [d] }
  | _ => none }
def FnExactCountPartsWrongFalsely : Prop := fnExactCountPartsRow.holds Try.pinned (OpenSpec.ofChange fnExactCountPartsWrong)

/-- 'laws.FnExactGreatestPart': WHATEVER THE INPUT: true; the input reads as it did. -/
def fnExactGreatestPartSpec : ChangeSpec := { name := "fnExactGreatestPart", fn := fun _ => fun
  | [d] => { results := [.lit (.bool true)], args := [d] }
  | _ => none }
def fnExactGreatestPartRow : OpenClaim := { program := "ytfgpmjboplollaa", sum := "ad261431f682a2cd365a9f21054fa358cfce007beab921d13f3f42d2b936fd4c", func := "loop.example/g01056/laws.FnExactGreatestPart", spec := "fnExactGreatestPart", plainKeys := false, apart := false }
def FnExactGreatestPartSaid : Prop := fnExactGreatestPartRow.holds Try.pinned (OpenSpec.ofChange fnExactGreatestPartSpec)

/-- ITS FALSE NEIGHBOUR: 'it returns false'. Refute it at one input. -/
def fnExactGreatestPartWrong : ChangeSpec := { name := "fnExactGreatestPart", fn := fun _ => fun
  | [d] => { results := [.lit (.bool false)], args := [d] }
  | _ => none }
def FnExactGreatestPartWrongFalsely : Prop := fnExactGreatestPartRow.holds Try.pinned (OpenSpec.ofChange fnExactGreatestPartWrong)

/-- 'laws.FnBounds': WHATEVER THE INPUT: true; the input reads as it did. -/
def fnBoundsSpec : ChangeSpec := { name := "fnBounds", fn := fun _ => fun
  | [d1, d2] => { results := [.lit (.bool true)], args := [d1, d2] }
  | _ => none }
def fnBoundsRow : OpenClaim := { program := "ytfgpmjboplollaa", sum := "ad261431f682a2cd365a9f21054fa358cfce007beab921d13f3f42d2b936fd4c", func := "loop.example/g01056/laws.FnBounds", spec := "fnBounds", plainKeys := false, apart := false }
def FnBoundsSaid : Prop := fnBoundsRow.holds Try.pinned (OpenSpec.ofChange fnBoundsSpec)

/-- ITS FALSE NEIGHBOUR: 'it returns false'. Refute it at one input. -/
def fnBoundsWrong : ChangeSpec := { name := "fnBounds", fn := fun _ => fun
  | [d1, d2] => { results := [.lit (.bool false)], args := [d1, d2] }
  | _ => none }
def FnBoundsWrongFalsely : Prop := fnBoundsRow.holds Try.pinned (OpenSpec.ofChange fnBoundsWrong)

/-- 'laws.FnAutomata': WHATEVER THE INPUT: true; the input reads as it did. -/
def fnAutomataSpec : ChangeSpec := { name := "fnAutomata", fn := fun _ => fun
  | [d1, d2] => { results := [.lit (.bool true)], args := [d1, d2] }
  | _ => none }
def fnAutomataRow : OpenClaim := { program := "ytfgpmjboplollaa", sum := "ad261431f682a2cd365a9f21054fa358cfce007beab921d13f3f42d2b936fd4c", func := "loop.example/g01056/laws.FnAutomata", spec := "fnAutomata", unfollowed := true, recurses := true, plainKeys := false, apart := false }
def FnAutomataSaid : Prop := fnAutomataRow.holds Try.pinned (OpenSpec.ofChange fnAutomataSpec)

/-- ITS FALSE NEIGHBOUR: 'it returns false'. Refute it at one input. -/
def fnAutomataWrong : ChangeSpec := { name := "fnAutomata", fn := fun _ => fun
  | [d1, d2] => { results := [.lit (.bool false)], args := [d1, d2] }
  | _ => none }
def FnAutomataWrongFalsely : Prop := fnAutomataRow.holds Try.pinned (OpenSpec.ofChange fnAutomataWrong)

/-- 'laws.FnAutomatonWays': WHATEVER THE INPUT: true; the input reads as it did. -/
def fnAutomatonWaysSpec : ChangeSpec := { name := "fnAutomatonWays", fn := fun _ => fun
  | [d1, d2] => { results := [.lit (.bool true)], args := [d1, d2] }
  | _ => none }
def fnAutomatonWaysRow : OpenClaim := { program := "ytfgpmjboplollaa", sum := "ad261431f682a2cd365a9f21054fa358cfce007beab921d13f3f42d2b936fd4c", func := "loop.example/g01056/laws.FnAutomatonWays", spec := "fnAutomatonWays", unfollowed := true, recurses := true, plainKeys := false, apart := false }
def FnAutomatonWaysSaid : Prop := fnAutomatonWaysRow.holds Try.pinned (OpenSpec.ofChange fnAutomatonWaysSpec)

/-- ITS FALSE NEIGHBOUR: 'it returns false'. Refute it at one input. -/
def fnAutomatonWaysWrong : ChangeSpec := { name := "fnAutomatonWays", fn := fun _ => fun
  | [d1, d2] => { results := [.lit (.bool false)], args := [d1, d2] }
  | _ => none }
def FnAutomatonWaysWrongFalsely : Prop := fnAutomatonWaysRow.holds Try.pinned (OpenSpec.ofChange fnAutomatonWaysWrong)

/- THE SECOND FORM. 'bulk': how many values and letters a reading holds, each counted each time it is reached (what is shared counts as often as it is met; a slice's spare places count too). A statement '..UptoSaid' is the law's where the arguments, and the package variables that the reading takes, are together of bulk at most 1048576: NARROWER than '..Said'. Prove '..Said' where nothing that the law and all that it calls make is longer than what came in: it says more and counts as full. Else prove '..UptoSaid'. A law counts once. -/
mutual
def uptoBulk {H : Type} : DataW H → Nat
  | .lit (.string bytes) => bytes.length + 1
  | .lit _ => 1
  | .nil => 1
  | .ptr d => uptoBulk d + 1
  | .slice elems spare => uptoBulkAll elems + uptoBulkAll spare + 1
  | .agg parts => uptoBulkAll parts + 1
  | .iface _ d => uptoBulk d + 1
  | .map entries => uptoBulkEntries entries + 1
  | .held _ => 1
def uptoBulkAll {H : Type} : List (DataW H) → Nat
  | [] => 0
  | d :: r => uptoBulk d + uptoBulkAll r
def uptoBulkEntries {H : Type} : List (Lit × DataW H) → Nat
  | [] => 0
  | x :: r => uptoBulkEntry x + uptoBulkEntries r
def uptoBulkEntry {H : Type} : Lit × DataW H → Nat
  | (.string bytes, d) => bytes.length + uptoBulk d + 1
  | (_, d) => uptoBulk d + 1
 end
def uptoSmall : (H : Type) → List (DataW H) → Bool := fun _ ds => decide (uptoBulkAll ds ≤ 1048576)
def OpenSpec.upto (s : _root_.Go.ChangeSpec) : _root_.Go.OpenSpec := { _root_.Go.OpenSpec.ofChange s with cond := some uptoSmall }

/-- 'laws.FnExactNeedlessStates', WHERE WHAT IT READS IS OF BULK AT MOST 1048576: true; the input reads as it did. -/
def fnExactNeedlessStatesUptoRow : OpenClaim := { program := "ytfgpmjboplollaa", sum := "ad261431f682a2cd365a9f21054fa358cfce007beab921d13f3f42d2b936fd4c", func := "loop.example/g01056/laws.FnExactNeedlessStates", spec := "fnExactNeedlessStates", unfollowed := true, recurses := true, plainKeys := false, apart := false, narrowed := true }
def FnExactNeedlessStatesUptoSaid : Prop := fnExactNeedlessStatesUptoRow.holds Try.pinned (OpenSpec.upto fnExactNeedlessStatesSpec)

/-- 'laws.FnExactWayBounds', WHERE WHAT IT READS IS OF BULK AT MOST 1048576: true; the input reads as it did. -/
def fnExactWayBoundsUptoRow : OpenClaim := { program := "ytfgpmjboplollaa", sum := "ad261431f682a2cd365a9f21054fa358cfce007beab921d13f3f42d2b936fd4c", func := "loop.example/g01056/laws.FnExactWayBounds", spec := "fnExactWayBounds", unfollowed := true, recurses := true, plainKeys := false, apart := false, narrowed := true }
def FnExactWayBoundsUptoSaid : Prop := fnExactWayBoundsUptoRow.holds Try.pinned (OpenSpec.upto fnExactWayBoundsSpec)

/-- 'laws.FnExactIsSureWay', WHERE WHAT IT READS IS OF BULK AT MOST 1048576: true; the input reads as it did. -/
def fnExactIsSureWayUptoRow : OpenClaim := { program := "ytfgpmjboplollaa", sum := "ad261431f682a2cd365a9f21054fa358cfce007beab921d13f3f42d2b936fd4c", func := "loop.example/g01056/laws.FnExactIsSureWay", spec := "fnExactIsSureWay", unfollowed := true, recurses := true, plainKeys := false, apart := false, narrowed := true }
def FnExactIsSureWayUptoSaid : Prop := fnExactIsSureWayUptoRow.holds Try.pinned (OpenSpec.upto fnExactIsSureWaySpec)

/-- 'laws.FnExactLettersOf', WHERE WHAT IT READS IS OF BULK AT MOST 1048576: true; the input reads as it did. -/
def fnExactLettersOfUptoRow : OpenClaim := { program := "ytfgpmjboplollaa", sum := "ad261431f682a2cd365a9f21054fa358cfce007beab921d13f3f42d2b936fd4c", func := "loop.example/g01056/laws.FnExactLettersOf", spec := "fnExactLettersOf", inPlace := ["internal/abi.NoEscape", "internal/bytealg.MakeNoZero"], recurses := true, plainKeys := false, apart := false, narrowed := true }
def FnExactLettersOfUptoSaid : Prop := fnExactLettersOfUptoRow.holds Try.pinned (OpenSpec.upto fnExactLettersOfSpec)

/-- 'laws.FnExactIsSymmetricPlane', WHERE WHAT IT READS IS OF BULK AT MOST 1048576: true; the input reads as it did. -/
def fnExactIsSymmetricPlaneUptoRow : OpenClaim := { program := "ytfgpmjboplollaa", sum := "ad261431f682a2cd365a9f21054fa358cfce007beab921d13f3f42d2b936fd4c", func := "loop.example/g01056/laws.FnExactIsSymmetricPlane", spec := "fnExactIsSymmetricPlane", unfollowed := true, recurses := true, plainKeys := false, apart := false, narrowed := true }
def FnExactIsSymmetricPlaneUptoSaid : Prop := fnExactIsSymmetricPlaneUptoRow.holds Try.pinned (OpenSpec.upto fnExactIsSymmetricPlaneSpec)

/-- 'laws.FnExactCountParts', WHERE WHAT IT READS IS OF BULK AT MOST 1048576: true; the input reads as it did. -/
def fnExactCountPartsUptoRow : OpenClaim := { program := "ytfgpmjboplollaa", sum := "ad261431f682a2cd365a9f21054fa358cfce007beab921d13f3f42d2b936fd4c", func := "loop.example/g01056/laws.FnExactCountParts", spec := "fnExactCountParts", plainKeys := false, apart := false, narrowed := true }
def FnExactCountPartsUptoSaid : Prop := fnExactCountPartsUptoRow.holds Try.pinned (OpenSpec.upto fnExactCountPartsSpec)

/-- 'laws.FnExactGreatestPart', WHERE WHAT IT READS IS OF BULK AT MOST 1048576: true; the input reads as it did. -/
def fnExactGreatestPartUptoRow : OpenClaim := { program := "ytfgpmjboplollaa", sum := "ad261431f682a2cd365a9f21054fa358cfce007beab921d13f3f42d2b936fd4c", func := "loop.example/g01056/laws.FnExactGreatestPart", spec := "fnExactGreatestPart", plainKeys := false, apart := false, narrowed := true }
def FnExactGreatestPartUptoSaid : Prop := fnExactGreatestPartUptoRow.holds Try.pinned (OpenSpec.upto fnExactGreatestPartSpec)

/-- 'laws.FnBounds', WHERE WHAT IT READS IS OF BULK AT MOST 1048576: true; the input reads as it did. -/
def fnBoundsUptoRow : OpenClaim := { program := "ytfgpmjboplollaa", sum := "ad261431f682a2cd365a9f21054fa358cfce007beab921d13f3f42d2b936fd4c", func := "loop.example/g01056/laws.FnBounds", spec := "fnBounds", plainKeys := false, apart := false, narrowed := true }
def FnBoundsUptoSaid : Prop := fnBoundsUptoRow.holds Try.pinned (OpenSpec.upto fnBoundsSpec)

/-- 'laws.FnAutomata', WHERE WHAT IT READS IS OF BULK AT MOST 1048576: true; the input reads as it did. -/
def fnAutomataUptoRow : OpenClaim := { program := "ytfgpmjboplollaa", sum := "ad261431f682a2cd365a9f21054fa358cfce007beab921d13f3f42d2b936fd4c", func := "loop.example/g01056/laws.FnAutomata", spec := "fnAutomata", unfollowed := true, recurses := true, plainKeys := false, apart := false, narrowed := true }
def FnAutomataUptoSaid : Prop := fnAutomataUptoRow.holds Try.pinned (OpenSpec.upto fnAutomataSpec)

/-- 'laws.FnAutomatonWays', WHERE WHAT IT READS IS OF BULK AT MOST 1048576: true; the input reads as it did. -/
def fnAutomatonWaysUptoRow : OpenClaim := { program := "ytfgpmjboplollaa", sum := "ad261431f682a2cd365a9f21054fa358cfce007beab921d13f3f42d2b936fd4c", func := "loop.example/g01056/laws.FnAutomatonWays", spec := "fnAutomatonWays", unfollowed := true, recurses := true, plainKeys := false, apart := false, narrowed := true }
def FnAutomatonWaysUptoSaid : Prop := fnAutomatonWaysUptoRow.holds Try.pinned (OpenSpec.upto fnAutomatonWaysSpec)

end Rows
end Go.Proofs.Ytfgpmjboplollaa
