/-
  No cell of these rows narrows 'for every input' (looked for: loops, veiled, ifaces, maps, wideKeys, modest, calm, conditions, laid).
  DERIVED. THE GIVEN ROWS OF THIS SEAT. 13 by the template 'for every input the law returns true; each argument reads behind the call as it read before'; 0 by the template 'total and deterministic' (their statements: YtnmkeilnllafaaaTotals.lean).
  GIVEN WITH THE SEED: the statements are not yours to turn. If you find one false, say at which input.
  Laid BY PROGRAM, IN A SANDBOX (cutbox-rows.mjs): the forced cells as the released guide's own fill.sh prints them over the translation 14c5c4b4fc9fa652… (all of the seat's roots in one cut). By AI agents, Wed Nov 11 2026. No macro, syntax, notation, axiom, sorry.
-/
import Derived.Test.YtnmkeilnllafaaaChecked
import GoSem.Claim
import GoSem.ClaimJoined
import GoSem.ClaimMapViews
import Derived.JoinedTies
import Derived.KernelRfl
namespace Go.Proofs.Ytnmkeilnllafaaa
/- THE CELL 'sum', in the pinned program and in every row, IS THE sha256 OF THE DUMP (.gsa) THAT YtnmkeilnllafaaaProg.lean LOADS. Nothing in Lean hashes anything: it is a label: what it is worth is what the hold of that sum in a sandbox is worth. -/
noncomputable def Try.pinned : Pinned := { name := "ytnmkeilnllafaaa", sum := "14c5c4b4fc9fa6527aac2a78de6c60e6ec7364df0a60e09532cd6f3911a49a7d", checked := Try.checked }
namespace Rows
def none {H : Type} : Left H := { results := [], args := [] }

/-- 'laws.FnExactAreBounds': WHATEVER THE INPUT: true; the input reads as it did. -/
def fnExactAreBoundsSpec : ChangeSpec := { name := "fnExactAreBounds", fn := fun _ => fun
  | [d1, d2] => { results := [.lit (.bool true)], args := [d1, d2] }
  | _ => none }
def fnExactAreBoundsRow : OpenClaim := { program := "ytnmkeilnllafaaa", sum := "14c5c4b4fc9fa6527aac2a78de6c60e6ec7364df0a60e09532cd6f3911a49a7d", func := "loop.example/g01056/laws.FnExactAreBounds", spec := "fnExactAreBounds", apart := false }
def FnExactAreBoundsSaid : Prop := fnExactAreBoundsRow.holds Try.pinned (OpenSpec.ofChange fnExactAreBoundsSpec)

/-- ITS FALSE NEIGHBOUR: 'it returns false'. Refute it at one input. -/
def fnExactAreBoundsWrong : ChangeSpec := { name := "fnExactAreBounds", fn := fun _ => fun
  | [d1, d2] => { results := [.lit (.bool false)], args := [d1, d2] }
  | _ => none }
def FnExactAreBoundsWrongFalsely : Prop := fnExactAreBoundsRow.holds Try.pinned (OpenSpec.ofChange fnExactAreBoundsWrong)

/-- 'laws.FnExactIsWithin': WHATEVER THE INPUT: true; the input reads as it did. -/
def fnExactIsWithinSpec : ChangeSpec := { name := "fnExactIsWithin", fn := fun _ => fun
  | [d1, d2, d3] => { results := [.lit (.bool true)], args := [d1, d2, d3] }
  | _ => none }
def fnExactIsWithinRow : OpenClaim := { program := "ytnmkeilnllafaaa", sum := "14c5c4b4fc9fa6527aac2a78de6c60e6ec7364df0a60e09532cd6f3911a49a7d", func := "loop.example/g01056/laws.FnExactIsWithin", spec := "fnExactIsWithin", apart := false }
def FnExactIsWithinSaid : Prop := fnExactIsWithinRow.holds Try.pinned (OpenSpec.ofChange fnExactIsWithinSpec)

/-- ITS FALSE NEIGHBOUR: 'it returns false'. Refute it at one input. -/
def fnExactIsWithinWrong : ChangeSpec := { name := "fnExactIsWithin", fn := fun _ => fun
  | [d1, d2, d3] => { results := [.lit (.bool false)], args := [d1, d2, d3] }
  | _ => none }
def FnExactIsWithinWrongFalsely : Prop := fnExactIsWithinRow.holds Try.pinned (OpenSpec.ofChange fnExactIsWithinWrong)

/-- 'laws.FnExactWidestBound': WHATEVER THE INPUT: true; the input reads as it did. -/
def fnExactWidestBoundSpec : ChangeSpec := { name := "fnExactWidestBound", fn := fun _ => fun
  | [d1, d2] => { results := [.lit (.bool true)], args := [d1, d2] }
  | _ => none }
def fnExactWidestBoundRow : OpenClaim := { program := "ytnmkeilnllafaaa", sum := "14c5c4b4fc9fa6527aac2a78de6c60e6ec7364df0a60e09532cd6f3911a49a7d", func := "loop.example/g01056/laws.FnExactWidestBound", spec := "fnExactWidestBound", apart := false }
def FnExactWidestBoundSaid : Prop := fnExactWidestBoundRow.holds Try.pinned (OpenSpec.ofChange fnExactWidestBoundSpec)

/-- ITS FALSE NEIGHBOUR: 'it returns false'. Refute it at one input. -/
def fnExactWidestBoundWrong : ChangeSpec := { name := "fnExactWidestBound", fn := fun _ => fun
  | [d1, d2] => { results := [.lit (.bool false)], args := [d1, d2] }
  | _ => none }
def FnExactWidestBoundWrongFalsely : Prop := fnExactWidestBoundRow.holds Try.pinned (OpenSpec.ofChange fnExactWidestBoundWrong)

/-- 'laws.FnExactJoinBounds': WHATEVER THE INPUT: true; the input reads as it did. -/
def fnExactJoinBoundsSpec : ChangeSpec := { name := "fnExactJoinBounds", fn := fun _ => fun
  | [d1, d2, d3] => { results := [.lit (.bool true)], args := [d1, d2, d3] }
  | _ => none }
def fnExactJoinBoundsRow : OpenClaim := { program := "ytnmkeilnllafaaa", sum := "14c5c4b4fc9fa6527aac2a78de6c60e6ec7364df0a60e09532cd6f3911a49a7d", func := "loop.example/g01056/laws.FnExactJoinBounds", spec := "fnExactJoinBounds", apart := false }
def FnExactJoinBoundsSaid : Prop := fnExactJoinBoundsRow.holds Try.pinned (OpenSpec.ofChange fnExactJoinBoundsSpec)

/-- ITS FALSE NEIGHBOUR: 'it returns false'. Refute it at one input. -/
def fnExactJoinBoundsWrong : ChangeSpec := { name := "fnExactJoinBounds", fn := fun _ => fun
  | [d1, d2, d3] => { results := [.lit (.bool false)], args := [d1, d2, d3] }
  | _ => none }
def FnExactJoinBoundsWrongFalsely : Prop := fnExactJoinBoundsRow.holds Try.pinned (OpenSpec.ofChange fnExactJoinBoundsWrong)

/-- 'laws.FnExactBoundsAt': WHATEVER THE INPUT: true; the input reads as it did. -/
def fnExactBoundsAtSpec : ChangeSpec := { name := "fnExactBoundsAt", fn := fun _ => fun
  | [d1, d2, d3] => { results := [.lit (.bool true)], args := [d1, d2, d3] }
  | _ => none }
def fnExactBoundsAtRow : OpenClaim := { program := "ytnmkeilnllafaaa", sum := "14c5c4b4fc9fa6527aac2a78de6c60e6ec7364df0a60e09532cd6f3911a49a7d", func := "loop.example/g01056/laws.FnExactBoundsAt", spec := "fnExactBoundsAt", apart := false }
def FnExactBoundsAtSaid : Prop := fnExactBoundsAtRow.holds Try.pinned (OpenSpec.ofChange fnExactBoundsAtSpec)

/-- ITS FALSE NEIGHBOUR: 'it returns false'. Refute it at one input. -/
def fnExactBoundsAtWrong : ChangeSpec := { name := "fnExactBoundsAt", fn := fun _ => fun
  | [d1, d2, d3] => { results := [.lit (.bool false)], args := [d1, d2, d3] }
  | _ => none }
def FnExactBoundsAtWrongFalsely : Prop := fnExactBoundsAtRow.holds Try.pinned (OpenSpec.ofChange fnExactBoundsAtWrong)

/-- 'laws.FnExactPossibleTerms': WHATEVER THE INPUT: true; the input reads as it did. -/
def fnExactPossibleTermsSpec : ChangeSpec := { name := "fnExactPossibleTerms", fn := fun _ => fun
  | [d1, d2, d3] => { results := [.lit (.bool true)], args := [d1, d2, d3] }
  | _ => none }
def fnExactPossibleTermsRow : OpenClaim := { program := "ytnmkeilnllafaaa", sum := "14c5c4b4fc9fa6527aac2a78de6c60e6ec7364df0a60e09532cd6f3911a49a7d", func := "loop.example/g01056/laws.FnExactPossibleTerms", spec := "fnExactPossibleTerms", apart := false }
def FnExactPossibleTermsSaid : Prop := fnExactPossibleTermsRow.holds Try.pinned (OpenSpec.ofChange fnExactPossibleTermsSpec)

/-- ITS FALSE NEIGHBOUR: 'it returns false'. Refute it at one input. -/
def fnExactPossibleTermsWrong : ChangeSpec := { name := "fnExactPossibleTerms", fn := fun _ => fun
  | [d1, d2, d3] => { results := [.lit (.bool false)], args := [d1, d2, d3] }
  | _ => none }
def FnExactPossibleTermsWrongFalsely : Prop := fnExactPossibleTermsRow.holds Try.pinned (OpenSpec.ofChange fnExactPossibleTermsWrong)

/-- 'laws.FnExactSureTerms': WHATEVER THE INPUT: true; the input reads as it did. -/
def fnExactSureTermsSpec : ChangeSpec := { name := "fnExactSureTerms", fn := fun _ => fun
  | [d1, d2, d3] => { results := [.lit (.bool true)], args := [d1, d2, d3] }
  | _ => none }
def fnExactSureTermsRow : OpenClaim := { program := "ytnmkeilnllafaaa", sum := "14c5c4b4fc9fa6527aac2a78de6c60e6ec7364df0a60e09532cd6f3911a49a7d", func := "loop.example/g01056/laws.FnExactSureTerms", spec := "fnExactSureTerms", apart := false }
def FnExactSureTermsSaid : Prop := fnExactSureTermsRow.holds Try.pinned (OpenSpec.ofChange fnExactSureTermsSpec)

/-- ITS FALSE NEIGHBOUR: 'it returns false'. Refute it at one input. -/
def fnExactSureTermsWrong : ChangeSpec := { name := "fnExactSureTerms", fn := fun _ => fun
  | [d1, d2, d3] => { results := [.lit (.bool false)], args := [d1, d2, d3] }
  | _ => none }
def FnExactSureTermsWrongFalsely : Prop := fnExactSureTermsRow.holds Try.pinned (OpenSpec.ofChange fnExactSureTermsWrong)

/-- 'laws.FnExactProductBounds': WHATEVER THE INPUT: true; the input reads as it did. -/
def fnExactProductBoundsSpec : ChangeSpec := { name := "fnExactProductBounds", fn := fun _ => fun
  | [d1, d2, d3, d4] => { results := [.lit (.bool true)], args := [d1, d2, d3, d4] }
  | _ => none }
def fnExactProductBoundsRow : OpenClaim := { program := "ytnmkeilnllafaaa", sum := "14c5c4b4fc9fa6527aac2a78de6c60e6ec7364df0a60e09532cd6f3911a49a7d", func := "loop.example/g01056/laws.FnExactProductBounds", spec := "fnExactProductBounds", apart := false }
def FnExactProductBoundsSaid : Prop := fnExactProductBoundsRow.holds Try.pinned (OpenSpec.ofChange fnExactProductBoundsSpec)

/-- ITS FALSE NEIGHBOUR: 'it returns false'. Refute it at one input. -/
def fnExactProductBoundsWrong : ChangeSpec := { name := "fnExactProductBounds", fn := fun _ => fun
  | [d1, d2, d3, d4] => { results := [.lit (.bool false)], args := [d1, d2, d3, d4] }
  | _ => none }
def FnExactProductBoundsWrongFalsely : Prop := fnExactProductBoundsRow.holds Try.pinned (OpenSpec.ofChange fnExactProductBoundsWrong)

/-- 'laws.FnExactAreWayBounds': WHATEVER THE INPUT: true; the input reads as it did. -/
def fnExactAreWayBoundsSpec : ChangeSpec := { name := "fnExactAreWayBounds", fn := fun _ => fun
  | [d1, d2] => { results := [.lit (.bool true)], args := [d1, d2] }
  | _ => none }
def fnExactAreWayBoundsRow : OpenClaim := { program := "ytnmkeilnllafaaa", sum := "14c5c4b4fc9fa6527aac2a78de6c60e6ec7364df0a60e09532cd6f3911a49a7d", func := "loop.example/g01056/laws.FnExactAreWayBounds", spec := "fnExactAreWayBounds", unfollowed := true, recurses := true, apart := false }
def FnExactAreWayBoundsSaid : Prop := fnExactAreWayBoundsRow.holds Try.pinned (OpenSpec.ofChange fnExactAreWayBoundsSpec)

/-- ITS FALSE NEIGHBOUR: 'it returns false'. Refute it at one input. -/
def fnExactAreWayBoundsWrong : ChangeSpec := { name := "fnExactAreWayBounds", fn := fun _ => fun
  | [d1, d2] => { results := [.lit (.bool false)], args := [d1, d2] }
  | _ => none }
def FnExactAreWayBoundsWrongFalsely : Prop := fnExactAreWayBoundsRow.holds Try.pinned (OpenSpec.ofChange fnExactAreWayBoundsWrong)

/-- 'laws.FnExactWayBounds': WHATEVER THE INPUT: true; the input reads as it did. -/
def fnExactWayBoundsSpec : ChangeSpec := { name := "fnExactWayBounds", fn := fun _ => fun
  | [d1, d2, d3, d4] => { results := [.lit (.bool true)], args := [d1, d2, d3, d4] }
  | _ => none }
def fnExactWayBoundsRow : OpenClaim := { program := "ytnmkeilnllafaaa", sum := "14c5c4b4fc9fa6527aac2a78de6c60e6ec7364df0a60e09532cd6f3911a49a7d", func := "loop.example/g01056/laws.FnExactWayBounds", spec := "fnExactWayBounds", unfollowed := true, recurses := true, apart := false }
def FnExactWayBoundsSaid : Prop := fnExactWayBoundsRow.holds Try.pinned (OpenSpec.ofChange fnExactWayBoundsSpec)

/-- ITS FALSE NEIGHBOUR: 'it returns false'. Refute it at one input. -/
def fnExactWayBoundsWrong : ChangeSpec := { name := "fnExactWayBounds", fn := fun _ => fun
  | [d1, d2, d3, d4] => { results := [.lit (.bool false)], args := [d1, d2, d3, d4] }
  | _ => none }
def FnExactWayBoundsWrongFalsely : Prop := fnExactWayBoundsRow.holds Try.pinned (OpenSpec.ofChange fnExactWayBoundsWrong)

/-- 'laws.FnExactIsSureWay': WHATEVER THE INPUT: true; the input reads as it did. -/
def fnExactIsSureWaySpec : ChangeSpec := { name := "fnExactIsSureWay", fn := fun _ => fun
  | [d1, d2, d3] => { results := [.lit (.bool true)], args := [d1, d2, d3] }
  | _ => none }
def fnExactIsSureWayRow : OpenClaim := { program := "ytnmkeilnllafaaa", sum := "14c5c4b4fc9fa6527aac2a78de6c60e6ec7364df0a60e09532cd6f3911a49a7d", func := "loop.example/g01056/laws.FnExactIsSureWay", spec := "fnExactIsSureWay", unfollowed := true, recurses := true, apart := false }
def FnExactIsSureWaySaid : Prop := fnExactIsSureWayRow.holds Try.pinned (OpenSpec.ofChange fnExactIsSureWaySpec)

/-- ITS FALSE NEIGHBOUR: 'it returns false'. Refute it at one input. -/
def fnExactIsSureWayWrong : ChangeSpec := { name := "fnExactIsSureWay", fn := fun _ => fun
  | [d1, d2, d3] => { results := [.lit (.bool false)], args := [d1, d2, d3] }
  | _ => none }
def FnExactIsSureWayWrongFalsely : Prop := fnExactIsSureWayRow.holds Try.pinned (OpenSpec.ofChange fnExactIsSureWayWrong)

/-- 'laws.FnBounds': WHATEVER THE INPUT: true; the input reads as it did. -/
def fnBoundsSpec : ChangeSpec := { name := "fnBounds", fn := fun _ => fun
  | [d1, d2] => { results := [.lit (.bool true)], args := [d1, d2] }
  | _ => none }
def fnBoundsRow : OpenClaim := { program := "ytnmkeilnllafaaa", sum := "14c5c4b4fc9fa6527aac2a78de6c60e6ec7364df0a60e09532cd6f3911a49a7d", func := "loop.example/g01056/laws.FnBounds", spec := "fnBounds", apart := false }
def FnBoundsSaid : Prop := fnBoundsRow.holds Try.pinned (OpenSpec.ofChange fnBoundsSpec)

/-- ITS FALSE NEIGHBOUR: 'it returns false'. Refute it at one input. -/
def fnBoundsWrong : ChangeSpec := { name := "fnBounds", fn := fun _ => fun
  | [d1, d2] => { results := [.lit (.bool false)], args := [d1, d2] }
  | _ => none }
def FnBoundsWrongFalsely : Prop := fnBoundsRow.holds Try.pinned (OpenSpec.ofChange fnBoundsWrong)

/-- 'laws.FnWayBounds': WHATEVER THE INPUT: true; the input reads as it did. -/
def fnWayBoundsSpec : ChangeSpec := { name := "fnWayBounds", fn := fun _ => fun
  | [d1, d2] => { results := [.lit (.bool true)], args := [d1, d2] }
  | _ => none }
def fnWayBoundsRow : OpenClaim := { program := "ytnmkeilnllafaaa", sum := "14c5c4b4fc9fa6527aac2a78de6c60e6ec7364df0a60e09532cd6f3911a49a7d", func := "loop.example/g01056/laws.FnWayBounds", spec := "fnWayBounds", unfollowed := true, recurses := true, apart := false }
def FnWayBoundsSaid : Prop := fnWayBoundsRow.holds Try.pinned (OpenSpec.ofChange fnWayBoundsSpec)

/-- ITS FALSE NEIGHBOUR: 'it returns false'. Refute it at one input. -/
def fnWayBoundsWrong : ChangeSpec := { name := "fnWayBounds", fn := fun _ => fun
  | [d1, d2] => { results := [.lit (.bool false)], args := [d1, d2] }
  | _ => none }
def FnWayBoundsWrongFalsely : Prop := fnWayBoundsRow.holds Try.pinned (OpenSpec.ofChange fnWayBoundsWrong)

/- THE SECOND FORM. 'bulk': how many values and letters a reading holds, each counted each time it is reached (what is shared counts as often as it is met; a slice's spare places count too). A statement '..UptoSaid' is the law's where the arguments, and the package variables that the reading takes, are together of bulk at most 1048576: NARROWER than '..Said'. Prove '..Said' where nothing that the law and all that it calls make is longer than what came in: it says more and counts as full. Else prove '..UptoSaid'. A law counts once. -/
mutual
def uptoBulk {H : Type} : DataW H → Nat
  | .lit (.string bytes) => bytes.length + 1
  | .lit _ => 1
  | .nil => 1
  | .ptr d => uptoBulk d + 1
  | .slice elems spare => uptoBulkAll elems + uptoBulkAll spare + 1
  | .agg parts => uptoBulkAll parts + 1
  | .iface _ d => uptoBulk d + 1
  | .map entries => uptoBulkEntries entries + 1
  | .held _ => 1
def uptoBulkAll {H : Type} : List (DataW H) → Nat
  | [] => 0
  | d :: r => uptoBulk d + uptoBulkAll r
def uptoBulkEntries {H : Type} : List (Lit × DataW H) → Nat
  | [] => 0
  | x :: r => uptoBulkEntry x + uptoBulkEntries r
def uptoBulkEntry {H : Type} : Lit × DataW H → Nat
  | (.string bytes, d) => bytes.length + uptoBulk d + 1
  | (_, d) => uptoBulk d + 1
 end
def uptoSmall : (H : Type) → List (DataW H) → Bool := fun _ ds => decide (uptoBulkAll ds ≤ 1048576)
def OpenSpec.upto (s : _root_.Go.ChangeSpec) : _root_.Go.OpenSpec := { _root_.Go.OpenSpec.ofChange s with cond := some uptoSmall }

/-- 'laws.FnExactAreBounds', WHERE WHAT IT READS IS OF BULK AT MOST 1048576: true; the input reads as it did. -/
def fnExactAreBoundsUptoRow : OpenClaim := { program := "ytnmkeilnllafaaa", sum := "14c5c4b4fc9fa6527aac2a78de6c60e6ec7364df0a60e09532cd6f3911a49a7d", func := "loop.example/g01056/laws.FnExactAreBounds", spec := "fnExactAreBounds", apart := false, narrowed := true }
def FnExactAreBoundsUptoSaid : Prop := fnExactAreBoundsUptoRow.holds Try.pinned (OpenSpec.upto fnExactAreBoundsSpec)

/-- 'laws.FnExactIsWithin', WHERE WHAT IT READS IS OF BULK AT MOST 1048576: true; the input reads as it did. -/
def fnExactIsWithinUptoRow : OpenClaim := { program := "ytnmkeilnllafaaa", sum := "14c5c4b4fc9fa6527aac2a78de6c60e6ec7364df0a60e09532cd6f3911a49a7d", func := "loop.example/g01056/laws.FnExactIsWithin", spec := "fnExactIsWithin", apart := false, narrowed := true }
def FnExactIsWithinUptoSaid : Prop := fnExactIsWithinUptoRow.holds Try.pinned (OpenSpec.upto fnExactIsWithinSpec)

/-- 'laws.FnExactWidestBound', WHERE WHAT IT READS IS OF BULK AT MOST 1048576: true; the input reads as it did. -/
def fnExactWidestBoundUptoRow : OpenClaim := { program := "ytnmkeilnllafaaa", sum := "14c5c4b4fc9fa6527aac2a78de6c60e6ec7364df0a60e09532cd6f3911a49a7d", func := "loop.example/g01056/laws.FnExactWidestBound", spec := "fnExactWidestBound", apart := false, narrowed := true }
def FnExactWidestBoundUptoSaid : Prop := fnExactWidestBoundUptoRow.holds Try.pinned (OpenSpec.upto fnExactWidestBoundSpec)

/-- 'laws.FnExactJoinBounds', WHERE WHAT IT READS IS OF BULK AT MOST 1048576: true; the input reads as it did. -/
def fnExactJoinBoundsUptoRow : OpenClaim := { program := "ytnmkeilnllafaaa", sum := "14c5c4b4fc9fa6527aac2a78de6c60e6ec7364df0a60e09532cd6f3911a49a7d", func := "loop.example/g01056/laws.FnExactJoinBounds", spec := "fnExactJoinBounds", apart := false, narrowed := true }
def FnExactJoinBoundsUptoSaid : Prop := fnExactJoinBoundsUptoRow.holds Try.pinned (OpenSpec.upto fnExactJoinBoundsSpec)

/-- 'laws.FnExactBoundsAt', WHERE WHAT IT READS IS OF BULK AT MOST 1048576: true; the input reads as it did. -/
def fnExactBoundsAtUptoRow : OpenClaim := { program := "ytnmkeilnllafaaa", sum := "14c5c4b4fc9fa6527aac2a78de6c60e6ec7364df0a60e09532cd6f3911a49a7d", func := "loop.example/g01056/laws.FnExactBoundsAt", spec := "fnExactBoundsAt", apart := false, narrowed := true }
def FnExactBoundsAtUptoSaid : Prop := fnExactBoundsAtUptoRow.holds Try.pinned (OpenSpec.upto fnExactBoundsAtSpec)

/-- 'laws.FnExactPossibleTerms', WHERE WHAT IT READS IS OF BULK AT MOST 1048576: true; the input reads as it did. -/
def fnExactPossibleTermsUptoRow : OpenClaim := { program := "ytnmkeilnllafaaa", sum := "14c5c4b4fc9fa6527aac2a78de6c60e6ec7364df0a60e09532cd6f3911a49a7d", func := "loop.example/g01056/laws.FnExactPossibleTerms", spec := "fnExactPossibleTerms", apart := false, narrowed := true }
def FnExactPossibleTermsUptoSaid : Prop := fnExactPossibleTermsUptoRow.holds Try.pinned (OpenSpec.upto fnExactPossibleTermsSpec)

/-- 'laws.FnExactSureTerms', WHERE WHAT IT READS IS OF BULK AT MOST 1048576: true; the input reads as it did. -/
def fnExactSureTermsUptoRow : OpenClaim := { program := "ytnmkeilnllafaaa", sum := "14c5c4b4fc9fa6527aac2a78de6c60e6ec7364df0a60e09532cd6f3911a49a7d", func := "loop.example/g01056/laws.FnExactSureTerms", spec := "fnExactSureTerms", apart := false, narrowed := true }
def FnExactSureTermsUptoSaid : Prop := fnExactSureTermsUptoRow.holds Try.pinned (OpenSpec.upto fnExactSureTermsSpec)

/-- 'laws.FnExactProductBounds', WHERE WHAT IT READS IS OF BULK AT MOST 1048576: true; the input reads as it did. -/
def fnExactProductBoundsUptoRow : OpenClaim := { program := "ytnmkeilnllafaaa", sum := "14c5c4b4fc9fa6527aac2a78de6c60e6ec7364df0a60e09532cd6f3911a49a7d", func := "loop.example/g01056/laws.FnExactProductBounds", spec := "fnExactProductBounds", apart := false, narrowed := true }
def FnExactProductBoundsUptoSaid : Prop := fnExactProductBoundsUptoRow.holds Try.pinned (OpenSpec.upto fnExactProductBoundsSpec)

/-- 'laws.FnExactAreWayBounds', WHERE WHAT IT READS IS OF BULK AT MOST 1048576: true; the input reads as it did. -/
def fnExactAreWayBoundsUptoRow : OpenClaim := { program := "ytnmkeilnllafaaa", sum := "14c5c4b4fc9fa6527aac2a78de6c60e6ec7364df0a60e09532cd6f3911a49a7d", func := "loop.example/g01056/laws.FnExactAreWayBounds", spec := "fnExactAreWayBounds", unfollowed := true, recurses := true, apart := false, narrowed := true }
def FnExactAreWayBoundsUptoSaid : Prop := fnExactAreWayBoundsUptoRow.holds Try.pinned (OpenSpec.upto fnExactAreWayBoundsSpec)

/-- 'laws.FnExactWayBounds', WHERE WHAT IT READS IS OF BULK AT MOST 1048576: true; the input reads as it did. -/
def fnExactWayBoundsUptoRow : OpenClaim := { program := "ytnmkeilnllafaaa", sum := "14c5c4b4fc9fa6527aac2a78de6c60e6ec7364df0a60e09532cd6f3911a49a7d", func := "loop.example/g01056/laws.FnExactWayBounds", spec := "fnExactWayBounds", unfollowed := true, recurses := true, apart := false, narrowed := true }
def FnExactWayBoundsUptoSaid : Prop := fnExactWayBoundsUptoRow.holds Try.pinned (OpenSpec.upto fnExactWayBoundsSpec)

/-- 'laws.FnExactIsSureWay', WHERE WHAT IT READS IS OF BULK AT MOST 1048576: true; the input reads as it did. -/
def fnExactIsSureWayUptoRow : OpenClaim := { program := "ytnmkeilnllafaaa", sum := "14c5c4b4fc9fa6527aac2a78de6c60e6ec7364df0a60e09532cd6f3911a49a7d", func := "loop.example/g01056/laws.FnExactIsSureWay", spec := "fnExactIsSureWay", unfollowed := true, recurses := true, apart := false, narrowed := true }
def FnExactIsSureWayUptoSaid : Prop := fnExactIsSureWayUptoRow.holds Try.pinned (OpenSpec.upto fnExactIsSureWaySpec)

/-- 'laws.FnBounds', WHERE WHAT IT READS IS OF BULK AT MOST 1048576: true; the input reads as it did. -/
def fnBoundsUptoRow : OpenClaim := { program := "ytnmkeilnllafaaa", sum := "14c5c4b4fc9fa6527aac2a78de6c60e6ec7364df0a60e09532cd6f3911a49a7d", func := "loop.example/g01056/laws.FnBounds", spec := "fnBounds", apart := false, narrowed := true }
def FnBoundsUptoSaid : Prop := fnBoundsUptoRow.holds Try.pinned (OpenSpec.upto fnBoundsSpec)

/-- 'laws.FnWayBounds', WHERE WHAT IT READS IS OF BULK AT MOST 1048576: true; the input reads as it did. -/
def fnWayBoundsUptoRow : OpenClaim := { program := "ytnmkeilnllafaaa", sum := "14c5c4b4fc9fa6527aac2a78de6c60e6ec7364df0a60e09532cd6f3911a49a7d", func := "loop.example/g01056/laws.FnWayBounds", spec := "fnWayBounds", unfollowed := true, recurses := true, apart := false, narrowed := true }
def FnWayBoundsUptoSaid : Prop := fnWayBoundsUptoRow.holds Try.pinned (OpenSpec.upto fnWayBoundsSpec)

end Rows
end Go.Proofs.Ytnmkeilnllafaaa
