/-
  DERIVED. GIVEN WITH THE SEED: THE CARDS: each row of YtpimjkhfookipaaDoorRows.lean that lists a variable, with what it lists TIED to the program's text (the seventh form; the later family's looks); each row that meets fmt, with fmt's text TOLD by the authors' own Lean function (tested against real Go, not proved from fmt's source: count such statements apart). THE CARD IS WHAT COUNTS. Prove the row's statement (the work); the ties are given (YtpimjkhfookipaaDoorTie.lean); close each card by the builder's one call (the guide's Derived/Test/ToyasCard.lean, 'card_holds'). Laid BY PROGRAM, IN A SANDBOX (cutbox-door.mjs). By AI agents, Wed Nov 11 2026. No macro, syntax, notation, axiom, sorry.
-/
import Derived.Test.YtpimjkhfookipaaDoorRows
import GoSem.ClaimSeven
namespace Go.Proofs.YtpimjkhfookipaaDoor
namespace Rows

/-- THE TIED CARD OF 'laws.FnExactShapesIn'. -/
def fnExactShapesInCard : Claim7 := { stood := { row := fnExactShapesInRow, standIns := [], harness := (true, "3460c45e173b04a87c34d193a719c7b4e102ea7165a629c3dbf853b6166f0f2a"), looks := false }, kinds := [], alts := [], laidByText := true, laidKinds := [.data, .data, .data], laidTests := true, laidLooks := .later }
def FnExactShapesInCardSaid : Prop := Claim7.holds Tryd.pinned (.plain (OpenSpec.ofChange fnExactShapesInSpec)) fnExactShapesInCard

/-- THE TIED CARD OF 'laws.FnExactCatalogueOf'. -/
def fnExactCatalogueOfCard : Claim7 := { stood := { row := fnExactCatalogueOfRow, standIns := [], harness := (true, "3460c45e173b04a87c34d193a719c7b4e102ea7165a629c3dbf853b6166f0f2a"), looks := false }, kinds := [], alts := [], laidByText := true, laidKinds := [.data, .data, .data], laidTests := true, laidLooks := .later }
def FnExactCatalogueOfCardSaid : Prop := Claim7.holds Tryd.pinned (.plain (OpenSpec.ofChange fnExactCatalogueOfSpec)) fnExactCatalogueOfCard

/-- THE TIED CARD OF 'laws.FnExactMergeCatalogues'. -/
def fnExactMergeCataloguesCard : Claim7 := { stood := { row := fnExactMergeCataloguesRow, standIns := [], harness := (true, "3460c45e173b04a87c34d193a719c7b4e102ea7165a629c3dbf853b6166f0f2a"), looks := false }, kinds := [], alts := [], laidByText := true, laidKinds := [.data, .data, .data], laidTests := true, laidLooks := .later }
def FnExactMergeCataloguesCardSaid : Prop := Claim7.holds Tryd.pinned (.plain (OpenSpec.ofChange fnExactMergeCataloguesSpec)) fnExactMergeCataloguesCard

/-- THE TIED CARD OF 'laws.FnPictures'. -/
def fnPicturesCard : Claim7 := { stood := { row := fnPicturesRow, standIns := [], harness := (true, "3460c45e173b04a87c34d193a719c7b4e102ea7165a629c3dbf853b6166f0f2a"), looks := false }, kinds := [], alts := [], laidByText := true, laidKinds := [.data, .pinned], laidTests := true, laidLooks := .later }
def FnPicturesCardSaid : Prop := Claim7.holds Tryd.pinned (.plain (OpenSpec.ofChange fnPicturesSpec)) fnPicturesCard

/-- THE SECOND FORM's CARD OF 'laws.FnExactShapesIn'. -/
def fnExactShapesInUptoCard : Claim7 := { stood := { row := fnExactShapesInUptoRow, standIns := [], harness := (true, "3460c45e173b04a87c34d193a719c7b4e102ea7165a629c3dbf853b6166f0f2a"), looks := false }, kinds := [], alts := [], laidByText := true, laidKinds := [.data, .data, .data], laidTests := true, laidLooks := .later }
def FnExactShapesInUptoCardSaid : Prop := Claim7.holds Tryd.pinned (.plain (OpenSpec.upto fnExactShapesInSpec)) fnExactShapesInUptoCard

/-- THE SECOND FORM's CARD OF 'laws.FnExactCatalogueOf'. -/
def fnExactCatalogueOfUptoCard : Claim7 := { stood := { row := fnExactCatalogueOfUptoRow, standIns := [], harness := (true, "3460c45e173b04a87c34d193a719c7b4e102ea7165a629c3dbf853b6166f0f2a"), looks := false }, kinds := [], alts := [], laidByText := true, laidKinds := [.data, .data, .data], laidTests := true, laidLooks := .later }
def FnExactCatalogueOfUptoCardSaid : Prop := Claim7.holds Tryd.pinned (.plain (OpenSpec.upto fnExactCatalogueOfSpec)) fnExactCatalogueOfUptoCard

/-- THE SECOND FORM's CARD OF 'laws.FnExactMergeCatalogues'. -/
def fnExactMergeCataloguesUptoCard : Claim7 := { stood := { row := fnExactMergeCataloguesUptoRow, standIns := [], harness := (true, "3460c45e173b04a87c34d193a719c7b4e102ea7165a629c3dbf853b6166f0f2a"), looks := false }, kinds := [], alts := [], laidByText := true, laidKinds := [.data, .data, .data], laidTests := true, laidLooks := .later }
def FnExactMergeCataloguesUptoCardSaid : Prop := Claim7.holds Tryd.pinned (.plain (OpenSpec.upto fnExactMergeCataloguesSpec)) fnExactMergeCataloguesUptoCard

/-- THE SECOND FORM's CARD OF 'laws.FnPictures'. -/
def fnPicturesUptoCard : Claim7 := { stood := { row := fnPicturesUptoRow, standIns := [], harness := (true, "3460c45e173b04a87c34d193a719c7b4e102ea7165a629c3dbf853b6166f0f2a"), looks := false }, kinds := [], alts := [], laidByText := true, laidKinds := [.data, .pinned], laidTests := true, laidLooks := .later }
def FnPicturesUptoCardSaid : Prop := Claim7.holds Tryd.pinned (.plain (OpenSpec.upto fnPicturesSpec)) fnPicturesUptoCard
end Rows
end Go.Proofs.YtpimjkhfookipaaDoor
