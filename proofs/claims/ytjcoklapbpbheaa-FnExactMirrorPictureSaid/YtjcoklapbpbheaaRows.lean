/-
  No cell of these rows narrows 'for every input' (looked for: loops, veiled, ifaces, maps, wideKeys, modest, calm, conditions, laid).
  DERIVED. THE GIVEN ROWS OF THIS SEAT. 12 by the template 'for every input the law returns true; each argument reads behind the call as it read before'; 0 by the template 'total and deterministic' (their statements: YtjcoklapbpbheaaTotals.lean).
  GIVEN WITH THE SEED: the statements are not yours to turn. If you find one false, say at which input.
  Laid BY PROGRAM, IN A SANDBOX (cutbox-rows.mjs): the forced cells as the released guide's own fill.sh prints them over the translation 2419e5dd052242f7… (all of the seat's roots in one cut). By AI agents, Wed Nov 11 2026. No macro, syntax, notation, axiom, sorry.
-/
import Derived.Test.YtjcoklapbpbheaaChecked
import GoSem.Claim
import GoSem.ClaimJoined
import GoSem.ClaimMapViews
import Derived.JoinedTies
import Derived.KernelRfl
namespace Go.Proofs.Ytjcoklapbpbheaa
/- THE CELL 'sum', in the pinned program and in every row, IS THE sha256 OF THE DUMP (.gsa) THAT YtjcoklapbpbheaaProg.lean LOADS. Nothing in Lean hashes anything: it is a label: what it is worth is what the hold of that sum in a sandbox is worth. -/
noncomputable def Try.pinned : Pinned := { name := "ytjcoklapbpbheaa", sum := "2419e5dd052242f706e006f51e37fa418d44e8738ae1d32887fb41622abde2bf", checked := Try.checked }
namespace Rows
def none {H : Type} : Left H := { results := [], args := [] }

/-- 'laws.FnExactJoinBounds': WHATEVER THE INPUT: true; the input reads as it did. -/
def fnExactJoinBoundsSpec : ChangeSpec := { name := "fnExactJoinBounds", fn := fun _ => fun
  | [d1, d2, d3] => { results := [.lit (.bool true)], args := [d1, d2, d3] }
  | _ => none }
def fnExactJoinBoundsRow : OpenClaim := { program := "ytjcoklapbpbheaa", sum := "2419e5dd052242f706e006f51e37fa418d44e8738ae1d32887fb41622abde2bf", func := "loop.example/g01056/laws.FnExactJoinBounds", spec := "fnExactJoinBounds", apart := false }
def FnExactJoinBoundsSaid : Prop := fnExactJoinBoundsRow.holds Try.pinned (OpenSpec.ofChange fnExactJoinBoundsSpec)

/-- ITS FALSE NEIGHBOUR: 'it returns false'. Refute it at one input. -/
def fnExactJoinBoundsWrong : ChangeSpec := { name := "fnExactJoinBounds", fn := fun _ => fun
  | [d1, d2, d3] => { results := [.lit (.bool false)], args := [d1, d2, d3] }
  | _ => none }
def FnExactJoinBoundsWrongFalsely : Prop := fnExactJoinBoundsRow.holds Try.pinned (OpenSpec.ofChange fnExactJoinBoundsWrong)

/-- 'laws.FnExactProductBounds': WHATEVER THE INPUT: true; the input reads as it did. -/
def fnExactProductBoundsSpec : ChangeSpec := { name := "fnExactProductBounds", fn := fun _ => fun
  | [d1, d2, d3, d4] => { results := [.lit (.bool true)], args := [d1, d2, d3, d4] }
  | _ => none }
def fnExactProductBoundsRow : OpenClaim := { program := "ytjcoklapbpbheaa", sum := "2419e5dd052242f706e006f51e37fa418d44e8738ae1d32887fb41622abde2bf", func := "loop.example/g01056/laws.FnExactProductBounds", spec := "fnExactProductBounds", apart := false }
def FnExactProductBoundsSaid : Prop := fnExactProductBoundsRow.holds Try.pinned (OpenSpec.ofChange fnExactProductBoundsSpec)

/-- ITS FALSE NEIGHBOUR: 'it returns false'. Refute it at one input. -/
def fnExactProductBoundsWrong : ChangeSpec := { name := "fnExactProductBounds", fn := fun _ => fun
  | [d1, d2, d3, d4] => { results := [.lit (.bool false)], args := [d1, d2, d3, d4] }
  | _ => none }
def FnExactProductBoundsWrongFalsely : Prop := fnExactProductBoundsRow.holds Try.pinned (OpenSpec.ofChange fnExactProductBoundsWrong)

/-- 'laws.FnExactAreWayBounds': WHATEVER THE INPUT: true; the input reads as it did. -/
def fnExactAreWayBoundsSpec : ChangeSpec := { name := "fnExactAreWayBounds", fn := fun _ => fun
  | [d1, d2] => { results := [.lit (.bool true)], args := [d1, d2] }
  | _ => none }
def fnExactAreWayBoundsRow : OpenClaim := { program := "ytjcoklapbpbheaa", sum := "2419e5dd052242f706e006f51e37fa418d44e8738ae1d32887fb41622abde2bf", func := "loop.example/g01056/laws.FnExactAreWayBounds", spec := "fnExactAreWayBounds", unfollowed := true, recurses := true, apart := false }
def FnExactAreWayBoundsSaid : Prop := fnExactAreWayBoundsRow.holds Try.pinned (OpenSpec.ofChange fnExactAreWayBoundsSpec)

/-- ITS FALSE NEIGHBOUR: 'it returns false'. Refute it at one input. -/
def fnExactAreWayBoundsWrong : ChangeSpec := { name := "fnExactAreWayBounds", fn := fun _ => fun
  | [d1, d2] => { results := [.lit (.bool false)], args := [d1, d2] }
  | _ => none }
def FnExactAreWayBoundsWrongFalsely : Prop := fnExactAreWayBoundsRow.holds Try.pinned (OpenSpec.ofChange fnExactAreWayBoundsWrong)

/-- 'laws.FnExactIsPicture': WHATEVER THE INPUT: true; the input reads as it did. -/
def fnExactIsPictureSpec : ChangeSpec := { name := "fnExactIsPicture", fn := fun _ => fun
  | [d] => { results := [.lit (.bool true)], args := [d] }
  | _ => none }
def fnExactIsPictureRow : OpenClaim := { program := "ytjcoklapbpbheaa", sum := "2419e5dd052242f706e006f51e37fa418d44e8738ae1d32887fb41622abde2bf", func := "loop.example/g01056/laws.FnExactIsPicture", spec := "fnExactIsPicture", apart := false }
def FnExactIsPictureSaid : Prop := fnExactIsPictureRow.holds Try.pinned (OpenSpec.ofChange fnExactIsPictureSpec)

/-- ITS FALSE NEIGHBOUR: 'it returns false'. Refute it at one input. -/
def fnExactIsPictureWrong : ChangeSpec := { name := "fnExactIsPicture", fn := fun _ => fun
  | [d] => { results := [.lit (.bool false)], args := [d] }
  | _ => none }
def FnExactIsPictureWrongFalsely : Prop := fnExactIsPictureRow.holds Try.pinned (OpenSpec.ofChange fnExactIsPictureWrong)

/-- 'laws.FnExactCutPicture': WHATEVER THE INPUT: true; the input reads as it did. -/
def fnExactCutPictureSpec : ChangeSpec := { name := "fnExactCutPicture", fn := fun _ => fun
  | [d1, d2, d3, d4, d5] => { results := [.lit (.bool true)], args := [d1, d2, d3, d4, d5] }
  | _ => none }
def fnExactCutPictureRow : OpenClaim := { program := "ytjcoklapbpbheaa", sum := "2419e5dd052242f706e006f51e37fa418d44e8738ae1d32887fb41622abde2bf", func := "loop.example/g01056/laws.FnExactCutPicture", spec := "fnExactCutPicture", apart := false }
def FnExactCutPictureSaid : Prop := fnExactCutPictureRow.holds Try.pinned (OpenSpec.ofChange fnExactCutPictureSpec)

/-- ITS FALSE NEIGHBOUR: 'it returns false'. Refute it at one input. -/
def fnExactCutPictureWrong : ChangeSpec := { name := "fnExactCutPicture", fn := fun _ => fun
  | [d1, d2, d3, d4, d5] => { results := [.lit (.bool false)], args := [d1, d2, d3, d4, d5] }
  | _ => none }
def FnExactCutPictureWrongFalsely : Prop := fnExactCutPictureRow.holds Try.pinned (OpenSpec.ofChange fnExactCutPictureWrong)

/-- 'laws.FnExactPictureText': WHATEVER THE INPUT: true; the input reads as it did. -/
def fnExactPictureTextSpec : ChangeSpec := { name := "fnExactPictureText", fn := fun _ => fun
  | [d] => { results := [.lit (.bool true)], args := [d] }
  | _ => none }
def fnExactPictureTextRow : OpenClaim := { program := "ytjcoklapbpbheaa", sum := "2419e5dd052242f706e006f51e37fa418d44e8738ae1d32887fb41622abde2bf", func := "loop.example/g01056/laws.FnExactPictureText", spec := "fnExactPictureText", inPlace := ["internal/abi.NoEscape", "internal/bytealg.MakeNoZero"], apart := false }
def FnExactPictureTextSaid : Prop := fnExactPictureTextRow.holds Try.pinned (OpenSpec.ofChange fnExactPictureTextSpec)

/-- ITS FALSE NEIGHBOUR: 'it returns false'. Refute it at one input. -/
def fnExactPictureTextWrong : ChangeSpec := { name := "fnExactPictureText", fn := fun _ => fun
  | [d] => { results := [.lit (.bool false)], args := [d] }
  | _ => none }
def FnExactPictureTextWrongFalsely : Prop := fnExactPictureTextRow.holds Try.pinned (OpenSpec.ofChange fnExactPictureTextWrong)

/-- 'laws.FnExactNormalPlane': WHATEVER THE INPUT: true; the input reads as it did. -/
def fnExactNormalPlaneSpec : ChangeSpec := { name := "fnExactNormalPlane", fn := fun _ => fun
  | [d] => { results := [.lit (.bool true)], args := [d] }
  | _ => none }
def fnExactNormalPlaneRow : OpenClaim := { program := "ytjcoklapbpbheaa", sum := "2419e5dd052242f706e006f51e37fa418d44e8738ae1d32887fb41622abde2bf", func := "loop.example/g01056/laws.FnExactNormalPlane", spec := "fnExactNormalPlane", apart := false }
def FnExactNormalPlaneSaid : Prop := fnExactNormalPlaneRow.holds Try.pinned (OpenSpec.ofChange fnExactNormalPlaneSpec)

/-- ITS FALSE NEIGHBOUR: 'it returns false'. Refute it at one input. -/
def fnExactNormalPlaneWrong : ChangeSpec := { name := "fnExactNormalPlane", fn := fun _ => fun
  | [d] => { results := [.lit (.bool false)], args := [d] }
  | _ => none }
def FnExactNormalPlaneWrongFalsely : Prop := fnExactNormalPlaneRow.holds Try.pinned (OpenSpec.ofChange fnExactNormalPlaneWrong)

/-- 'laws.FnExactAreAlikePlanes': WHATEVER THE INPUT: true; the input reads as it did. -/
def fnExactAreAlikePlanesSpec : ChangeSpec := { name := "fnExactAreAlikePlanes", fn := fun _ => fun
  | [d1, d2] => { results := [.lit (.bool true)], args := [d1, d2] }
  | _ => none }
def fnExactAreAlikePlanesRow : OpenClaim := { program := "ytjcoklapbpbheaa", sum := "2419e5dd052242f706e006f51e37fa418d44e8738ae1d32887fb41622abde2bf", func := "loop.example/g01056/laws.FnExactAreAlikePlanes", spec := "fnExactAreAlikePlanes", apart := false }
def FnExactAreAlikePlanesSaid : Prop := fnExactAreAlikePlanesRow.holds Try.pinned (OpenSpec.ofChange fnExactAreAlikePlanesSpec)

/-- ITS FALSE NEIGHBOUR: 'it returns false'. Refute it at one input. -/
def fnExactAreAlikePlanesWrong : ChangeSpec := { name := "fnExactAreAlikePlanes", fn := fun _ => fun
  | [d1, d2] => { results := [.lit (.bool false)], args := [d1, d2] }
  | _ => none }
def FnExactAreAlikePlanesWrongFalsely : Prop := fnExactAreAlikePlanesRow.holds Try.pinned (OpenSpec.ofChange fnExactAreAlikePlanesWrong)

/-- 'laws.FnExactMirrorPicture': WHATEVER THE INPUT: true; the input reads as it did. -/
def fnExactMirrorPictureSpec : ChangeSpec := { name := "fnExactMirrorPicture", fn := fun _ => fun
  | [d] => { results := [.lit (.bool true)], args := [d] }
  | _ => none }
def fnExactMirrorPictureRow : OpenClaim := { program := "ytjcoklapbpbheaa", sum := "2419e5dd052242f706e006f51e37fa418d44e8738ae1d32887fb41622abde2bf", func := "loop.example/g01056/laws.FnExactMirrorPicture", spec := "fnExactMirrorPicture", apart := false }
def FnExactMirrorPictureSaid : Prop := fnExactMirrorPictureRow.holds Try.pinned (OpenSpec.ofChange fnExactMirrorPictureSpec)

/-- ITS FALSE NEIGHBOUR: 'it returns false'. Refute it at one input. -/
def fnExactMirrorPictureWrong : ChangeSpec := { name := "fnExactMirrorPicture", fn := fun _ => fun
  | [d] => { results := [.lit (.bool false)], args := [d] }
  | _ => none }
def FnExactMirrorPictureWrongFalsely : Prop := fnExactMirrorPictureRow.holds Try.pinned (OpenSpec.ofChange fnExactMirrorPictureWrong)

/-- 'laws.FnExactIsAutomaton': WHATEVER THE INPUT: true; the input reads as it did. -/
def fnExactIsAutomatonSpec : ChangeSpec := { name := "fnExactIsAutomaton", fn := fun _ => fun
  | [d] => { results := [.lit (.bool true)], args := [d] }
  | _ => none }
def fnExactIsAutomatonRow : OpenClaim := { program := "ytjcoklapbpbheaa", sum := "2419e5dd052242f706e006f51e37fa418d44e8738ae1d32887fb41622abde2bf", func := "loop.example/g01056/laws.FnExactIsAutomaton", spec := "fnExactIsAutomaton", unfollowed := true, recurses := true, apart := false }
def FnExactIsAutomatonSaid : Prop := fnExactIsAutomatonRow.holds Try.pinned (OpenSpec.ofChange fnExactIsAutomatonSpec)

/-- ITS FALSE NEIGHBOUR: 'it returns false'. Refute it at one input. -/
def fnExactIsAutomatonWrong : ChangeSpec := { name := "fnExactIsAutomaton", fn := fun _ => fun
  | [d] => { results := [.lit (.bool false)], args := [d] }
  | _ => none }
def FnExactIsAutomatonWrongFalsely : Prop := fnExactIsAutomatonRow.holds Try.pinned (OpenSpec.ofChange fnExactIsAutomatonWrong)

/-- 'laws.FnExactLetterAt': WHATEVER THE INPUT: true; the input reads as it did. -/
def fnExactLetterAtSpec : ChangeSpec := { name := "fnExactLetterAt", fn := fun _ => fun
  | [d1, d2, d3] => { results := [.lit (.bool true)], args := [d1, d2, d3] }
  | _ => none }
def fnExactLetterAtRow : OpenClaim := { program := "ytjcoklapbpbheaa", sum := "2419e5dd052242f706e006f51e37fa418d44e8738ae1d32887fb41622abde2bf", func := "loop.example/g01056/laws.FnExactLetterAt", spec := "fnExactLetterAt", apart := false }
def FnExactLetterAtSaid : Prop := fnExactLetterAtRow.holds Try.pinned (OpenSpec.ofChange fnExactLetterAtSpec)

/-- ITS FALSE NEIGHBOUR: 'it returns false'. Refute it at one input. -/
def fnExactLetterAtWrong : ChangeSpec := { name := "fnExactLetterAt", fn := fun _ => fun
  | [d1, d2, d3] => { results := [.lit (.bool false)], args := [d1, d2, d3] }
  | _ => none }
def FnExactLetterAtWrongFalsely : Prop := fnExactLetterAtRow.holds Try.pinned (OpenSpec.ofChange fnExactLetterAtWrong)

/-- 'laws.FnExactPictureOf': WHATEVER THE INPUT: true; the input reads as it did. -/
def fnExactPictureOfSpec : ChangeSpec := { name := "fnExactPictureOf", fn := fun _ => fun
  | [d1, d2, d3, d4, d5] => { results := [.lit (.bool true)], args := [d1, d2, d3, d4, d5] }
  | _ => none }
def fnExactPictureOfRow : OpenClaim := { program := "ytjcoklapbpbheaa", sum := "2419e5dd052242f706e006f51e37fa418d44e8738ae1d32887fb41622abde2bf", func := "loop.example/g01056/laws.FnExactPictureOf", spec := "fnExactPictureOf", apart := false }
def FnExactPictureOfSaid : Prop := fnExactPictureOfRow.holds Try.pinned (OpenSpec.ofChange fnExactPictureOfSpec)

/-- ITS FALSE NEIGHBOUR: 'it returns false'. Refute it at one input. -/
def fnExactPictureOfWrong : ChangeSpec := { name := "fnExactPictureOf", fn := fun _ => fun
  | [d1, d2, d3, d4, d5] => { results := [.lit (.bool false)], args := [d1, d2, d3, d4, d5] }
  | _ => none }
def FnExactPictureOfWrongFalsely : Prop := fnExactPictureOfRow.holds Try.pinned (OpenSpec.ofChange fnExactPictureOfWrong)

/- THE SECOND FORM. 'bulk': how many values and letters a reading holds, each counted each time it is reached (what is shared counts as often as it is met; a slice's spare places count too). A statement '..UptoSaid' is the law's where the arguments, and the package variables that the reading takes, are together of bulk at most 1048576: NARROWER than '..Said'. Prove '..Said' where nothing that the law and all that it calls make is longer than what came in: it says more and counts as full. Else prove '..UptoSaid'. A law counts once. -/
mutual
def uptoBulk {H : Type} : DataW H → Nat
  | .lit (.string bytes) => bytes.length + 1
  | .lit _ => 1
  | .nil => 1
  | .ptr d => uptoBulk d + 1
  | .slice elems spare => uptoBulkAll elems + uptoBulkAll spare + 1
  | .agg parts => uptoBulkAll parts + 1
  | .iface _ d => uptoBulk d + 1
  | .map entries => uptoBulkEntries entries + 1
  | .held _ => 1
def uptoBulkAll {H : Type} : List (DataW H) → Nat
  | [] => 0
  | d :: r => uptoBulk d + uptoBulkAll r
def uptoBulkEntries {H : Type} : List (Lit × DataW H) → Nat
  | [] => 0
  | x :: r => uptoBulkEntry x + uptoBulkEntries r
def uptoBulkEntry {H : Type} : Lit × DataW H → Nat
  | (.string bytes, d) => bytes.length + uptoBulk d + 1
  | (_, d) => uptoBulk d + 1
 end
def uptoSmall : (H : Type) → List (DataW H) → Bool := fun _ ds => decide (uptoBulkAll ds ≤ 1048576)
def OpenSpec.upto (s : _root_.Go.ChangeSpec) : _root_.Go.OpenSpec := { _root_.Go.OpenSpec.ofChange s with cond := some uptoSmall }

/-- 'laws.FnExactJoinBounds', WHERE WHAT IT READS IS OF BULK AT MOST 1048576: true; the input reads as it did. -/
def fnExactJoinBoundsUptoRow : OpenClaim := { program := "ytjcoklapbpbheaa", sum := "2419e5dd052242f706e006f51e37fa418d44e8738ae1d32887fb41622abde2bf", func := "loop.example/g01056/laws.FnExactJoinBounds", spec := "fnExactJoinBounds", apart := false, narrowed := true }
def FnExactJoinBoundsUptoSaid : Prop := fnExactJoinBoundsUptoRow.holds Try.pinned (OpenSpec.upto fnExactJoinBoundsSpec)

/-- 'laws.FnExactProductBounds', WHERE WHAT IT READS IS OF BULK AT MOST 1048576: true; the input reads as it did. -/
def fnExactProductBoundsUptoRow : OpenClaim := { program := "ytjcoklapbpbheaa", sum := "2419e5dd052242f706e006f51e37fa418d44e8738ae1d32887fb41622abde2bf", func := "loop.example/g01056/laws.FnExactProductBounds", spec := "fnExactProductBounds", apart := false, narrowed := true }
def FnExactProductBoundsUptoSaid : Prop := fnExactProductBoundsUptoRow.holds Try.pinned (OpenSpec.upto fnExactProductBoundsSpec)

/-- 'laws.FnExactAreWayBounds', WHERE WHAT IT READS IS OF BULK AT MOST 1048576: true; the input reads as it did. -/
def fnExactAreWayBoundsUptoRow : OpenClaim := { program := "ytjcoklapbpbheaa", sum := "2419e5dd052242f706e006f51e37fa418d44e8738ae1d32887fb41622abde2bf", func := "loop.example/g01056/laws.FnExactAreWayBounds", spec := "fnExactAreWayBounds", unfollowed := true, recurses := true, apart := false, narrowed := true }
def FnExactAreWayBoundsUptoSaid : Prop := fnExactAreWayBoundsUptoRow.holds Try.pinned (OpenSpec.upto fnExactAreWayBoundsSpec)

/-- 'laws.FnExactIsPicture', WHERE WHAT IT READS IS OF BULK AT MOST 1048576: true; the input reads as it did. -/
def fnExactIsPictureUptoRow : OpenClaim := { program := "ytjcoklapbpbheaa", sum := "2419e5dd052242f706e006f51e37fa418d44e8738ae1d32887fb41622abde2bf", func := "loop.example/g01056/laws.FnExactIsPicture", spec := "fnExactIsPicture", apart := false, narrowed := true }
def FnExactIsPictureUptoSaid : Prop := fnExactIsPictureUptoRow.holds Try.pinned (OpenSpec.upto fnExactIsPictureSpec)

/-- 'laws.FnExactCutPicture', WHERE WHAT IT READS IS OF BULK AT MOST 1048576: true; the input reads as it did. -/
def fnExactCutPictureUptoRow : OpenClaim := { program := "ytjcoklapbpbheaa", sum := "2419e5dd052242f706e006f51e37fa418d44e8738ae1d32887fb41622abde2bf", func := "loop.example/g01056/laws.FnExactCutPicture", spec := "fnExactCutPicture", apart := false, narrowed := true }
def FnExactCutPictureUptoSaid : Prop := fnExactCutPictureUptoRow.holds Try.pinned (OpenSpec.upto fnExactCutPictureSpec)

/-- 'laws.FnExactPictureText', WHERE WHAT IT READS IS OF BULK AT MOST 1048576: true; the input reads as it did. -/
def fnExactPictureTextUptoRow : OpenClaim := { program := "ytjcoklapbpbheaa", sum := "2419e5dd052242f706e006f51e37fa418d44e8738ae1d32887fb41622abde2bf", func := "loop.example/g01056/laws.FnExactPictureText", spec := "fnExactPictureText", inPlace := ["internal/abi.NoEscape", "internal/bytealg.MakeNoZero"], apart := false, narrowed := true }
def FnExactPictureTextUptoSaid : Prop := fnExactPictureTextUptoRow.holds Try.pinned (OpenSpec.upto fnExactPictureTextSpec)

/-- 'laws.FnExactNormalPlane', WHERE WHAT IT READS IS OF BULK AT MOST 1048576: true; the input reads as it did. -/
def fnExactNormalPlaneUptoRow : OpenClaim := { program := "ytjcoklapbpbheaa", sum := "2419e5dd052242f706e006f51e37fa418d44e8738ae1d32887fb41622abde2bf", func := "loop.example/g01056/laws.FnExactNormalPlane", spec := "fnExactNormalPlane", apart := false, narrowed := true }
def FnExactNormalPlaneUptoSaid : Prop := fnExactNormalPlaneUptoRow.holds Try.pinned (OpenSpec.upto fnExactNormalPlaneSpec)

/-- 'laws.FnExactAreAlikePlanes', WHERE WHAT IT READS IS OF BULK AT MOST 1048576: true; the input reads as it did. -/
def fnExactAreAlikePlanesUptoRow : OpenClaim := { program := "ytjcoklapbpbheaa", sum := "2419e5dd052242f706e006f51e37fa418d44e8738ae1d32887fb41622abde2bf", func := "loop.example/g01056/laws.FnExactAreAlikePlanes", spec := "fnExactAreAlikePlanes", apart := false, narrowed := true }
def FnExactAreAlikePlanesUptoSaid : Prop := fnExactAreAlikePlanesUptoRow.holds Try.pinned (OpenSpec.upto fnExactAreAlikePlanesSpec)

/-- 'laws.FnExactMirrorPicture', WHERE WHAT IT READS IS OF BULK AT MOST 1048576: true; the input reads as it did. -/
def fnExactMirrorPictureUptoRow : OpenClaim := { program := "ytjcoklapbpbheaa", sum := "2419e5dd052242f706e006f51e37fa418d44e8738ae1d32887fb41622abde2bf", func := "loop.example/g01056/laws.FnExactMirrorPicture", spec := "fnExactMirrorPicture", apart := false, narrowed := true }
def FnExactMirrorPictureUptoSaid : Prop := fnExactMirrorPictureUptoRow.holds Try.pinned (OpenSpec.upto fnExactMirrorPictureSpec)

/-- 'laws.FnExactIsAutomaton', WHERE WHAT IT READS IS OF BULK AT MOST 1048576: true; the input reads as it did. -/
def fnExactIsAutomatonUptoRow : OpenClaim := { program := "ytjcoklapbpbheaa", sum := "2419e5dd052242f706e006f51e37fa418d44e8738ae1d32887fb41622abde2bf", func := "loop.example/g01056/laws.FnExactIsAutomaton", spec := "fnExactIsAutomaton", unfollowed := true, recurses := true, apart := false, narrowed := true }
def FnExactIsAutomatonUptoSaid : Prop := fnExactIsAutomatonUptoRow.holds Try.pinned (OpenSpec.upto fnExactIsAutomatonSpec)

/-- 'laws.FnExactLetterAt', WHERE WHAT IT READS IS OF BULK AT MOST 1048576: true; the input reads as it did. -/
def fnExactLetterAtUptoRow : OpenClaim := { program := "ytjcoklapbpbheaa", sum := "2419e5dd052242f706e006f51e37fa418d44e8738ae1d32887fb41622abde2bf", func := "loop.example/g01056/laws.FnExactLetterAt", spec := "fnExactLetterAt", apart := false, narrowed := true }
def FnExactLetterAtUptoSaid : Prop := fnExactLetterAtUptoRow.holds Try.pinned (OpenSpec.upto fnExactLetterAtSpec)

/-- 'laws.FnExactPictureOf', WHERE WHAT IT READS IS OF BULK AT MOST 1048576: true; the input reads as it did. -/
def fnExactPictureOfUptoRow : OpenClaim := { program := "ytjcoklapbpbheaa", sum := "2419e5dd052242f706e006f51e37fa418d44e8738ae1d32887fb41622abde2bf", func := "loop.example/g01056/laws.FnExactPictureOf", spec := "fnExactPictureOf", apart := false, narrowed := true }
def FnExactPictureOfUptoSaid : Prop := fnExactPictureOfUptoRow.holds Try.pinned (OpenSpec.upto fnExactPictureOfSpec)

end Rows
end Go.Proofs.Ytjcoklapbpbheaa
