/-
  DERIVED. GIVEN WITH THE SEED: THE CARDS: each row of YtfgpmjboplollaaDoorRows.lean that lists a variable, with what it lists TIED to the program's text (the seventh form; the later family's looks); each row that meets fmt, with fmt's text TOLD by the authors' own Lean function (tested against real Go, not proved from fmt's source: count such statements apart). THE CARD IS WHAT COUNTS. Prove the row's statement (the work); the ties are given (YtfgpmjboplollaaDoorTie.lean); close each card by the builder's one call (the guide's Derived/Test/ToyasCard.lean, 'card_holds'). Laid BY PROGRAM, IN A SANDBOX (cutbox-door.mjs). By AI agents, Wed Nov 11 2026. No macro, syntax, notation, axiom, sorry.
-/
import Derived.Test.YtfgpmjboplollaaDoorRows
import GoSem.ClaimSeven
namespace Go.Proofs.YtfgpmjboplollaaDoor
namespace Rows

/-- THE TIED CARD OF 'laws.FnExactIsCatalogue'. -/
def fnExactIsCatalogueCard : Claim7 := { stood := { row := fnExactIsCatalogueRow, standIns := [], harness := (true, "aa27ccc726a778c1bb5099d2a442409e0236101cc60fdf871d058e8a339af2ca"), looks := false }, kinds := [], alts := [], laidByText := true, laidKinds := [.data, .data, .data], laidTests := true, laidLooks := .later }
def FnExactIsCatalogueCardSaid : Prop := Claim7.holds Tryd.pinned (.plain (OpenSpec.ofChange fnExactIsCatalogueSpec)) fnExactIsCatalogueCard

/-- THE TIED CARD OF 'laws.FnExactCatalogueText'. -/
def fnExactCatalogueTextCard : Claim7 := { stood := { row := fnExactCatalogueTextRow, standIns := [], harness := (true, "aa27ccc726a778c1bb5099d2a442409e0236101cc60fdf871d058e8a339af2ca"), looks := false }, kinds := [], alts := [], laidByText := true, laidKinds := [.data, .data, .data], laidTests := true, laidLooks := .later }
def FnExactCatalogueTextCardSaid : Prop := Claim7.holds Tryd.pinned (.plain (OpenSpec.ofChange fnExactCatalogueTextSpec)) fnExactCatalogueTextCard

/-- THE TIED CARD OF 'laws.FnExactPlaceInCatalogue'. -/
def fnExactPlaceInCatalogueCard : Claim7 := { stood := { row := fnExactPlaceInCatalogueRow, standIns := [], harness := (true, "aa27ccc726a778c1bb5099d2a442409e0236101cc60fdf871d058e8a339af2ca"), looks := false }, kinds := [], alts := [], laidByText := true, laidKinds := [.data, .data, .data], laidTests := true, laidLooks := .later }
def FnExactPlaceInCatalogueCardSaid : Prop := Claim7.holds Tryd.pinned (.plain (OpenSpec.ofChange fnExactPlaceInCatalogueSpec)) fnExactPlaceInCatalogueCard

/-- THE TIED CARD OF 'laws.FnExactShapesIn'. -/
def fnExactShapesInCard : Claim7 := { stood := { row := fnExactShapesInRow, standIns := [], harness := (true, "aa27ccc726a778c1bb5099d2a442409e0236101cc60fdf871d058e8a339af2ca"), looks := false }, kinds := [], alts := [], laidByText := true, laidKinds := [.data, .data, .data], laidTests := true, laidLooks := .later }
def FnExactShapesInCardSaid : Prop := Claim7.holds Tryd.pinned (.plain (OpenSpec.ofChange fnExactShapesInSpec)) fnExactShapesInCard

/-- THE TIED CARD OF 'laws.FnExactCatalogueOf'. -/
def fnExactCatalogueOfCard : Claim7 := { stood := { row := fnExactCatalogueOfRow, standIns := [], harness := (true, "aa27ccc726a778c1bb5099d2a442409e0236101cc60fdf871d058e8a339af2ca"), looks := false }, kinds := [], alts := [], laidByText := true, laidKinds := [.data, .data, .data], laidTests := true, laidLooks := .later }
def FnExactCatalogueOfCardSaid : Prop := Claim7.holds Tryd.pinned (.plain (OpenSpec.ofChange fnExactCatalogueOfSpec)) fnExactCatalogueOfCard

/-- THE TIED CARD OF 'laws.FnExactMergeCatalogues'. -/
def fnExactMergeCataloguesCard : Claim7 := { stood := { row := fnExactMergeCataloguesRow, standIns := [], harness := (true, "aa27ccc726a778c1bb5099d2a442409e0236101cc60fdf871d058e8a339af2ca"), looks := false }, kinds := [], alts := [], laidByText := true, laidKinds := [.data, .data, .data], laidTests := true, laidLooks := .later }
def FnExactMergeCataloguesCardSaid : Prop := Claim7.holds Tryd.pinned (.plain (OpenSpec.ofChange fnExactMergeCataloguesSpec)) fnExactMergeCataloguesCard

/-- THE SECOND FORM's CARD OF 'laws.FnExactIsCatalogue'. -/
def fnExactIsCatalogueUptoCard : Claim7 := { stood := { row := fnExactIsCatalogueUptoRow, standIns := [], harness := (true, "aa27ccc726a778c1bb5099d2a442409e0236101cc60fdf871d058e8a339af2ca"), looks := false }, kinds := [], alts := [], laidByText := true, laidKinds := [.data, .data, .data], laidTests := true, laidLooks := .later }
def FnExactIsCatalogueUptoCardSaid : Prop := Claim7.holds Tryd.pinned (.plain (OpenSpec.upto fnExactIsCatalogueSpec)) fnExactIsCatalogueUptoCard

/-- THE SECOND FORM's CARD OF 'laws.FnExactCatalogueText'. -/
def fnExactCatalogueTextUptoCard : Claim7 := { stood := { row := fnExactCatalogueTextUptoRow, standIns := [], harness := (true, "aa27ccc726a778c1bb5099d2a442409e0236101cc60fdf871d058e8a339af2ca"), looks := false }, kinds := [], alts := [], laidByText := true, laidKinds := [.data, .data, .data], laidTests := true, laidLooks := .later }
def FnExactCatalogueTextUptoCardSaid : Prop := Claim7.holds Tryd.pinned (.plain (OpenSpec.upto fnExactCatalogueTextSpec)) fnExactCatalogueTextUptoCard

/-- THE SECOND FORM's CARD OF 'laws.FnExactPlaceInCatalogue'. -/
def fnExactPlaceInCatalogueUptoCard : Claim7 := { stood := { row := fnExactPlaceInCatalogueUptoRow, standIns := [], harness := (true, "aa27ccc726a778c1bb5099d2a442409e0236101cc60fdf871d058e8a339af2ca"), looks := false }, kinds := [], alts := [], laidByText := true, laidKinds := [.data, .data, .data], laidTests := true, laidLooks := .later }
def FnExactPlaceInCatalogueUptoCardSaid : Prop := Claim7.holds Tryd.pinned (.plain (OpenSpec.upto fnExactPlaceInCatalogueSpec)) fnExactPlaceInCatalogueUptoCard

/-- THE SECOND FORM's CARD OF 'laws.FnExactShapesIn'. -/
def fnExactShapesInUptoCard : Claim7 := { stood := { row := fnExactShapesInUptoRow, standIns := [], harness := (true, "aa27ccc726a778c1bb5099d2a442409e0236101cc60fdf871d058e8a339af2ca"), looks := false }, kinds := [], alts := [], laidByText := true, laidKinds := [.data, .data, .data], laidTests := true, laidLooks := .later }
def FnExactShapesInUptoCardSaid : Prop := Claim7.holds Tryd.pinned (.plain (OpenSpec.upto fnExactShapesInSpec)) fnExactShapesInUptoCard

/-- THE SECOND FORM's CARD OF 'laws.FnExactCatalogueOf'. -/
def fnExactCatalogueOfUptoCard : Claim7 := { stood := { row := fnExactCatalogueOfUptoRow, standIns := [], harness := (true, "aa27ccc726a778c1bb5099d2a442409e0236101cc60fdf871d058e8a339af2ca"), looks := false }, kinds := [], alts := [], laidByText := true, laidKinds := [.data, .data, .data], laidTests := true, laidLooks := .later }
def FnExactCatalogueOfUptoCardSaid : Prop := Claim7.holds Tryd.pinned (.plain (OpenSpec.upto fnExactCatalogueOfSpec)) fnExactCatalogueOfUptoCard

/-- THE SECOND FORM's CARD OF 'laws.FnExactMergeCatalogues'. -/
def fnExactMergeCataloguesUptoCard : Claim7 := { stood := { row := fnExactMergeCataloguesUptoRow, standIns := [], harness := (true, "aa27ccc726a778c1bb5099d2a442409e0236101cc60fdf871d058e8a339af2ca"), looks := false }, kinds := [], alts := [], laidByText := true, laidKinds := [.data, .data, .data], laidTests := true, laidLooks := .later }
def FnExactMergeCataloguesUptoCardSaid : Prop := Claim7.holds Tryd.pinned (.plain (OpenSpec.upto fnExactMergeCataloguesSpec)) fnExactMergeCataloguesUptoCard
end Rows
end Go.Proofs.YtfgpmjboplollaaDoor
