/-
  DERIVED. GIVEN WITH THE SEED: THE CARDS: each row of YtmfkclfeolpndaaDoorRows.lean that lists a variable, with what it lists TIED to the program's text (the seventh form; the later family's looks); each row that meets fmt, with fmt's text TOLD by the authors' own Lean function (tested against real Go, not proved from fmt's source: count such statements apart). THE CARD IS WHAT COUNTS. Prove the row's statement (the work); the ties are given (YtmfkclfeolpndaaDoorTie.lean); close each card by the builder's one call (the guide's Derived/Test/ToyasCard.lean, 'card_holds'). Laid BY PROGRAM, IN A SANDBOX (cutbox-door.mjs). By AI agents, Wed Nov 11 2026. No macro, syntax, notation, axiom, sorry.
-/
import Derived.Test.YtmfkclfeolpndaaDoorRows
import GoSem.ClaimSeven
namespace Go.Proofs.YtmfkclfeolpndaaDoor
namespace Rows

/-- THE TIED CARD OF 'laws.FnExactJoinScripts'. -/
def fnExactJoinScriptsCard : Claim7 := { stood := { row := fnExactJoinScriptsRow, standIns := [], harness := (true, "ef4933cc8b03913d2103acb1986f6a4abffacc06e223a13950ddfcf2e24d058b"), looks := false }, kinds := [], alts := [], laidByText := true, laidKinds := [.data, .pinned], laidTests := true, laidLooks := .later }
def FnExactJoinScriptsCardSaid : Prop := Claim7.holds Tryd.pinned (.plain (OpenSpec.ofChange fnExactJoinScriptsSpec)) fnExactJoinScriptsCard

/-- THE TIED CARD OF 'laws.FnExactParsePicture'. -/
def fnExactParsePictureCard : Claim7 := { stood := { row := fnExactParsePictureRow, standIns := [], harness := (true, "ef4933cc8b03913d2103acb1986f6a4abffacc06e223a13950ddfcf2e24d058b"), looks := false }, kinds := [], alts := [], laidByText := true, laidKinds := [.data, .pinned], laidTests := true, laidLooks := .later }
def FnExactParsePictureCardSaid : Prop := Claim7.holds Tryd.pinned (.plain (OpenSpec.ofChange fnExactParsePictureSpec)) fnExactParsePictureCard

/-- THE SECOND FORM's CARD OF 'laws.FnExactJoinScripts'. -/
def fnExactJoinScriptsUptoCard : Claim7 := { stood := { row := fnExactJoinScriptsUptoRow, standIns := [], harness := (true, "ef4933cc8b03913d2103acb1986f6a4abffacc06e223a13950ddfcf2e24d058b"), looks := false }, kinds := [], alts := [], laidByText := true, laidKinds := [.data, .pinned], laidTests := true, laidLooks := .later }
def FnExactJoinScriptsUptoCardSaid : Prop := Claim7.holds Tryd.pinned (.plain (OpenSpec.upto fnExactJoinScriptsSpec)) fnExactJoinScriptsUptoCard

/-- THE SECOND FORM's CARD OF 'laws.FnExactParsePicture'. -/
def fnExactParsePictureUptoCard : Claim7 := { stood := { row := fnExactParsePictureUptoRow, standIns := [], harness := (true, "ef4933cc8b03913d2103acb1986f6a4abffacc06e223a13950ddfcf2e24d058b"), looks := false }, kinds := [], alts := [], laidByText := true, laidKinds := [.data, .pinned], laidTests := true, laidLooks := .later }
def FnExactParsePictureUptoCardSaid : Prop := Claim7.holds Tryd.pinned (.plain (OpenSpec.upto fnExactParsePictureSpec)) fnExactParsePictureUptoCard
end Rows
end Go.Proofs.YtmfkclfeolpndaaDoor
