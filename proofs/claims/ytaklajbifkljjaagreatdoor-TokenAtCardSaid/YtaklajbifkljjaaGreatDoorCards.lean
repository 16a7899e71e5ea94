/-
  DERIVED. GIVEN WITH THE SEED: THE CARDS: each row of YtaklajbifkljjaaGreatDoorRows.lean that lists a variable, with what it lists TIED to the program's text (the seventh form; the later family's looks); each row that meets fmt, with fmt's text TOLD by the authors' own Lean function (tested against real Go, not proved from fmt's source: count such statements apart). THE CARD IS WHAT COUNTS. Prove the row's statement (the work); the ties are given (YtaklajbifkljjaaGreatDoorTie.lean); close each card by the builder's one call (the guide's Derived/Test/ToyasCard.lean, 'card_holds'). Laid BY PROGRAM, IN A SANDBOX (cutbox-door.mjs). By AI agents, Wed Nov 11 2026. No macro, syntax, notation, axiom, sorry.
-/
import Derived.Test.YtaklajbifkljjaaGreatDoorRows
import GoSem.ClaimSeven
namespace Go.Proofs.YtaklajbifkljjaaGreatDoor
namespace Rows

/-- THE TIED CARD OF 'virgulelaw23.ExtractTakes'. -/
def extractTakesCard : Claim7 := { stood := { row := extractTakesRow, standIns := [], harness := (true, "ddc4714b3e833aa5a193efae83c67e00500729d68a95648a60584ab8137a4f8a"), looks := true }, kinds := [], alts := [], laidByText := true, laidKinds := [.data, .data, .data, .sentinel, .sentinel, .listed, .data], laidTests := true, laidLooks := .later }
def ExtractTakesCardSaid : Prop := Claim7.holds Tryz.pinned (.plain (OpenSpec.ofChange extractTakesSpec)) extractTakesCard

/-- THE TIED CARD OF 'virgulelaw23.ExtractAll'. -/
def extractAllCard : Claim7 := { stood := { row := extractAllRow, standIns := [], harness := (true, "ddc4714b3e833aa5a193efae83c67e00500729d68a95648a60584ab8137a4f8a"), looks := true }, kinds := [], alts := [], laidByText := true, laidKinds := [.data, .data, .data, .sentinel, .sentinel, .listed, .data], laidTests := true, laidLooks := .later }
def ExtractAllCardSaid : Prop := Claim7.holds Tryz.pinned (.plain (OpenSpec.ofChange extractAllSpec)) extractAllCard

/-- THE TIED CARD OF 'virgulelaw23.ExtractPlain'. -/
def extractPlainCard : Claim7 := { stood := { row := extractPlainRow, standIns := [], harness := (true, "ddc4714b3e833aa5a193efae83c67e00500729d68a95648a60584ab8137a4f8a"), looks := true }, kinds := [], alts := [], laidByText := true, laidKinds := [.data, .data, .data, .sentinel, .sentinel, .listed, .data], laidTests := true, laidLooks := .later }
def ExtractPlainCardSaid : Prop := Claim7.holds Tryz.pinned (.plain (OpenSpec.ofChange extractPlainSpec)) extractPlainCard

/-- THE TIED CARD OF 'virgulelaw23.ExtractRises'. -/
def extractRisesCard : Claim7 := { stood := { row := extractRisesRow, standIns := [], harness := (true, "ddc4714b3e833aa5a193efae83c67e00500729d68a95648a60584ab8137a4f8a"), looks := true }, kinds := [], alts := [], laidByText := true, laidKinds := [.data, .data, .data, .sentinel, .sentinel, .listed, .data], laidTests := true, laidLooks := .later }
def ExtractRisesCardSaid : Prop := Claim7.holds Tryz.pinned (.plain (OpenSpec.ofChange extractRisesSpec)) extractRisesCard

/-- THE TIED CARD OF 'virgulelaw19.TokenAll'. -/
def tokenAllCard : Claim7 := { stood := { row := tokenAllRow, standIns := [], harness := (true, "ddc4714b3e833aa5a193efae83c67e00500729d68a95648a60584ab8137a4f8a"), looks := true }, kinds := [], alts := [], laidByText := true, laidKinds := [.data, .data, .data, .data, .sentinel, .sentinel, .pinned, .pinned], laidTests := true, laidLooks := .later }
def TokenAllCardSaid : Prop := Claim7.holds Tryz.pinned (.plain (OpenSpec.ofChange tokenAllSpec)) tokenAllCard

/-- THE TIED CARD OF 'virgulelaw19.TokenTiles'. -/
def tokenTilesCard : Claim7 := { stood := { row := tokenTilesRow, standIns := [], harness := (true, "ddc4714b3e833aa5a193efae83c67e00500729d68a95648a60584ab8137a4f8a"), looks := true }, kinds := [], alts := [], laidByText := true, laidKinds := [.data, .data, .data, .data, .sentinel, .sentinel, .pinned, .pinned], laidTests := true, laidLooks := .later }
def TokenTilesCardSaid : Prop := Claim7.holds Tryz.pinned (.plain (OpenSpec.ofChange tokenTilesSpec)) tokenTilesCard

/-- THE TIED CARD OF 'virgulelaw19.TokenPrints'. -/
def tokenPrintsCard : Claim7 := { stood := { row := tokenPrintsRow, standIns := [], harness := (true, "ddc4714b3e833aa5a193efae83c67e00500729d68a95648a60584ab8137a4f8a"), looks := true }, kinds := [], alts := [], laidByText := true, laidKinds := [.data, .data, .data, .data, .sentinel, .sentinel, .pinned, .pinned], laidTests := true, laidLooks := .later }
def TokenPrintsCardSaid : Prop := Claim7.holds Tryz.pinned (.plain (OpenSpec.ofChange tokenPrintsSpec)) tokenPrintsCard

/-- THE TIED CARD OF 'virgulelaw19.TokenParts'. -/
def tokenPartsCard : Claim7 := { stood := { row := tokenPartsRow, standIns := [], harness := (true, "ddc4714b3e833aa5a193efae83c67e00500729d68a95648a60584ab8137a4f8a"), looks := true }, kinds := [], alts := [], laidByText := true, laidKinds := [.data, .data, .data, .data, .sentinel, .sentinel, .pinned, .pinned], laidTests := true, laidLooks := .later }
def TokenPartsCardSaid : Prop := Claim7.holds Tryz.pinned (.plain (OpenSpec.ofChange tokenPartsSpec)) tokenPartsCard

/-- THE TIED CARD OF 'virgulelaw19.TokenAt'. -/
def tokenAtCard : Claim7 := { stood := { row := tokenAtRow, standIns := [], harness := (true, "ddc4714b3e833aa5a193efae83c67e00500729d68a95648a60584ab8137a4f8a"), looks := true }, kinds := [], alts := [], laidByText := true, laidKinds := [.data, .data, .data, .data, .sentinel, .sentinel, .pinned, .pinned], laidTests := true, laidLooks := .later }
def TokenAtCardSaid : Prop := Claim7.holds Tryz.pinned (.plain (OpenSpec.ofChange tokenAtSpec)) tokenAtCard

/-- THE SECOND FORM's CARD OF 'virgulelaw23.ExtractTakes'. -/
def extractTakesUptoCard : Claim7 := { stood := { row := extractTakesUptoRow, standIns := [], harness := (true, "ddc4714b3e833aa5a193efae83c67e00500729d68a95648a60584ab8137a4f8a"), looks := true }, kinds := [], alts := [], laidByText := true, laidKinds := [.data, .data, .data, .sentinel, .sentinel, .listed, .data], laidTests := true, laidLooks := .later }
def ExtractTakesUptoCardSaid : Prop := Claim7.holds Tryz.pinned (.plain (OpenSpec.upto extractTakesSpec)) extractTakesUptoCard

/-- THE SECOND FORM's CARD OF 'virgulelaw23.ExtractAll'. -/
def extractAllUptoCard : Claim7 := { stood := { row := extractAllUptoRow, standIns := [], harness := (true, "ddc4714b3e833aa5a193efae83c67e00500729d68a95648a60584ab8137a4f8a"), looks := true }, kinds := [], alts := [], laidByText := true, laidKinds := [.data, .data, .data, .sentinel, .sentinel, .listed, .data], laidTests := true, laidLooks := .later }
def ExtractAllUptoCardSaid : Prop := Claim7.holds Tryz.pinned (.plain (OpenSpec.upto extractAllSpec)) extractAllUptoCard

/-- THE SECOND FORM's CARD OF 'virgulelaw23.ExtractPlain'. -/
def extractPlainUptoCard : Claim7 := { stood := { row := extractPlainUptoRow, standIns := [], harness := (true, "ddc4714b3e833aa5a193efae83c67e00500729d68a95648a60584ab8137a4f8a"), looks := true }, kinds := [], alts := [], laidByText := true, laidKinds := [.data, .data, .data, .sentinel, .sentinel, .listed, .data], laidTests := true, laidLooks := .later }
def ExtractPlainUptoCardSaid : Prop := Claim7.holds Tryz.pinned (.plain (OpenSpec.upto extractPlainSpec)) extractPlainUptoCard

/-- THE SECOND FORM's CARD OF 'virgulelaw23.ExtractRises'. -/
def extractRisesUptoCard : Claim7 := { stood := { row := extractRisesUptoRow, standIns := [], harness := (true, "ddc4714b3e833aa5a193efae83c67e00500729d68a95648a60584ab8137a4f8a"), looks := true }, kinds := [], alts := [], laidByText := true, laidKinds := [.data, .data, .data, .sentinel, .sentinel, .listed, .data], laidTests := true, laidLooks := .later }
def ExtractRisesUptoCardSaid : Prop := Claim7.holds Tryz.pinned (.plain (OpenSpec.upto extractRisesSpec)) extractRisesUptoCard

/-- THE SECOND FORM's CARD OF 'virgulelaw19.TokenAll'. -/
def tokenAllUptoCard : Claim7 := { stood := { row := tokenAllUptoRow, standIns := [], harness := (true, "ddc4714b3e833aa5a193efae83c67e00500729d68a95648a60584ab8137a4f8a"), looks := true }, kinds := [], alts := [], laidByText := true, laidKinds := [.data, .data, .data, .data, .sentinel, .sentinel, .pinned, .pinned], laidTests := true, laidLooks := .later }
def TokenAllUptoCardSaid : Prop := Claim7.holds Tryz.pinned (.plain (OpenSpec.upto tokenAllSpec)) tokenAllUptoCard

/-- THE SECOND FORM's CARD OF 'virgulelaw19.TokenTiles'. -/
def tokenTilesUptoCard : Claim7 := { stood := { row := tokenTilesUptoRow, standIns := [], harness := (true, "ddc4714b3e833aa5a193efae83c67e00500729d68a95648a60584ab8137a4f8a"), looks := true }, kinds := [], alts := [], laidByText := true, laidKinds := [.data, .data, .data, .data, .sentinel, .sentinel, .pinned, .pinned], laidTests := true, laidLooks := .later }
def TokenTilesUptoCardSaid : Prop := Claim7.holds Tryz.pinned (.plain (OpenSpec.upto tokenTilesSpec)) tokenTilesUptoCard

/-- THE SECOND FORM's CARD OF 'virgulelaw19.TokenPrints'. -/
def tokenPrintsUptoCard : Claim7 := { stood := { row := tokenPrintsUptoRow, standIns := [], harness := (true, "ddc4714b3e833aa5a193efae83c67e00500729d68a95648a60584ab8137a4f8a"), looks := true }, kinds := [], alts := [], laidByText := true, laidKinds := [.data, .data, .data, .data, .sentinel, .sentinel, .pinned, .pinned], laidTests := true, laidLooks := .later }
def TokenPrintsUptoCardSaid : Prop := Claim7.holds Tryz.pinned (.plain (OpenSpec.upto tokenPrintsSpec)) tokenPrintsUptoCard

/-- THE SECOND FORM's CARD OF 'virgulelaw19.TokenParts'. -/
def tokenPartsUptoCard : Claim7 := { stood := { row := tokenPartsUptoRow, standIns := [], harness := (true, "ddc4714b3e833aa5a193efae83c67e00500729d68a95648a60584ab8137a4f8a"), looks := true }, kinds := [], alts := [], laidByText := true, laidKinds := [.data, .data, .data, .data, .sentinel, .sentinel, .pinned, .pinned], laidTests := true, laidLooks := .later }
def TokenPartsUptoCardSaid : Prop := Claim7.holds Tryz.pinned (.plain (OpenSpec.upto tokenPartsSpec)) tokenPartsUptoCard

/-- THE SECOND FORM's CARD OF 'virgulelaw19.TokenAt'. -/
def tokenAtUptoCard : Claim7 := { stood := { row := tokenAtUptoRow, standIns := [], harness := (true, "ddc4714b3e833aa5a193efae83c67e00500729d68a95648a60584ab8137a4f8a"), looks := true }, kinds := [], alts := [], laidByText := true, laidKinds := [.data, .data, .data, .data, .sentinel, .sentinel, .pinned, .pinned], laidTests := true, laidLooks := .later }
def TokenAtUptoCardSaid : Prop := Claim7.holds Tryz.pinned (.plain (OpenSpec.upto tokenAtSpec)) tokenAtUptoCard
end Rows
end Go.Proofs.YtaklajbifkljjaaGreatDoor
