/-
  DERIVED. GIVEN WITH THE SEED: THE CARDS: each row of YteapdildbfimnaaGreatDoorRows.lean that lists a variable, with what it lists TIED to the program's text (the seventh form; the later family's looks); each row that meets fmt, with fmt's text TOLD by the authors' own Lean function (tested against real Go, not proved from fmt's source: count such statements apart). THE CARD IS WHAT COUNTS. Prove the row's statement (the work); the ties are given (YteapdildbfimnaaGreatDoorTie.lean); close each card by the builder's one call (the guide's Derived/Test/ToyasCard.lean, 'card_holds'). Laid BY PROGRAM, IN A SANDBOX (cutbox-door.mjs). By AI agents, Wed Nov 11 2026. No macro, syntax, notation, axiom, sorry.
-/
import Derived.Test.YteapdildbfimnaaGreatDoorRows
import GoSem.ClaimSeven
namespace Go.Proofs.YteapdildbfimnaaGreatDoor
namespace Rows

/-- THE TIED CARD OF 'laws.FnCatalogues'. -/
def fnCataloguesCard : Claim7 := { stood := { row := fnCataloguesRow, standIns := [], harness := (true, "126ce9a9b8eb275d2758e479f78d47c7a0469cfba525cddc63ece9afa89f84f7"), looks := false }, kinds := [], alts := [], laidByText := true, laidKinds := [.data, .data, .data], laidTests := true, laidLooks := .later }
def FnCataloguesCardSaid : Prop := Claim7.holds Tryz.pinned (.plain (OpenSpec.ofChange fnCataloguesSpec)) fnCataloguesCard

/-- THE SECOND FORM's CARD OF 'laws.FnCatalogues'. -/
def fnCataloguesUptoCard : Claim7 := { stood := { row := fnCataloguesUptoRow, standIns := [], harness := (true, "126ce9a9b8eb275d2758e479f78d47c7a0469cfba525cddc63ece9afa89f84f7"), looks := false }, kinds := [], alts := [], laidByText := true, laidKinds := [.data, .data, .data], laidTests := true, laidLooks := .later }
def FnCataloguesUptoCardSaid : Prop := Claim7.holds Tryz.pinned (.plain (OpenSpec.upto fnCataloguesSpec)) fnCataloguesUptoCard
end Rows
end Go.Proofs.YteapdildbfimnaaGreatDoor
