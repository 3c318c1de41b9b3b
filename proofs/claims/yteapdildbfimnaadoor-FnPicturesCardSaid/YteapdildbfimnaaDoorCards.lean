/-
  DERIVED. GIVEN WITH THE SEED: THE CARDS: each row of YteapdildbfimnaaDoorRows.lean that lists a variable, with what it lists TIED to the program's text (the seventh form; the later family's looks); each row that meets fmt, with fmt's text TOLD by the authors' own Lean function (tested against real Go, not proved from fmt's source: count such statements apart). THE CARD IS WHAT COUNTS. Prove the row's statement (the work); the ties are given (YteapdildbfimnaaDoorTie.lean); close each card by the builder's one call (the guide's Derived/Test/ToyasCard.lean, 'card_holds'). Laid BY PROGRAM, IN A SANDBOX (cutbox-door.mjs). By AI agents, Wed Nov 11 2026. No macro, syntax, notation, axiom, sorry.
-/
import Derived.Test.YteapdildbfimnaaDoorRows
import GoSem.ClaimSeven
namespace Go.Proofs.YteapdildbfimnaaDoor
namespace Rows

/-- THE TIED CARD OF 'laws.FnPictures'. -/
def fnPicturesCard : Claim7 := { stood := { row := fnPicturesRow, standIns := [], harness := (true, "564fa3d6e38fabb1d14b8200a40d6a5cee13e869c9834c5af30538ef7934c1c6"), looks := false }, kinds := [], alts := [], laidByText := true, laidKinds := [.data, .pinned], laidTests := true, laidLooks := .later }
def FnPicturesCardSaid : Prop := Claim7.holds Tryd.pinned (.plain (OpenSpec.ofChange fnPicturesSpec)) fnPicturesCard

/-- THE SECOND FORM's CARD OF 'laws.FnPictures'. -/
def fnPicturesUptoCard : Claim7 := { stood := { row := fnPicturesUptoRow, standIns := [], harness := (true, "564fa3d6e38fabb1d14b8200a40d6a5cee13e869c9834c5af30538ef7934c1c6"), looks := false }, kinds := [], alts := [], laidByText := true, laidKinds := [.data, .pinned], laidTests := true, laidLooks := .later }
def FnPicturesUptoCardSaid : Prop := Claim7.holds Tryd.pinned (.plain (OpenSpec.upto fnPicturesSpec)) fnPicturesUptoCard
end Rows
end Go.Proofs.YteapdildbfimnaaDoor
