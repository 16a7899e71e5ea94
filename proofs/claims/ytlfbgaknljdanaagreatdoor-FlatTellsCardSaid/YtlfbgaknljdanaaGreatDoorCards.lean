/-
  DERIVED. GIVEN WITH THE SEED: THE CARDS: each row of YtlfbgaknljdanaaGreatDoorRows.lean that lists a variable, with what it lists TIED to the program's text (the seventh form; the later family's looks); each row that meets fmt, with fmt's text TOLD by the authors' own Lean function (tested against real Go, not proved from fmt's source: count such statements apart). THE CARD IS WHAT COUNTS. Prove the row's statement (the work); the ties are given (YtlfbgaknljdanaaGreatDoorTie.lean); close each card by the builder's one call (the guide's Derived/Test/ToyasCard.lean, 'card_holds'). Laid BY PROGRAM, IN A SANDBOX (cutbox-door.mjs). By AI agents, Wed Nov 11 2026. No macro, syntax, notation, axiom, sorry.
-/
import Derived.Test.YtlfbgaknljdanaaGreatDoorRows
import GoSem.ClaimSeven
namespace Go.Proofs.YtlfbgaknljdanaaGreatDoor
namespace Rows

/-- THE TIED CARD OF 'virgulelaw23.ExtractTakes'. -/
def extractTakesCard : Claim7 := { stood := { row := extractTakesRow, standIns := [], harness := (true, "6d59ca8530594cd82feede9e5f1329db8905bdfb7577c820385a2a539e980b0c"), looks := true }, kinds := [], alts := [], laidByText := true, laidKinds := [.data, .data, .data, .sentinel, .sentinel, .listed, .data], laidTests := true, laidLooks := .later }
def ExtractTakesCardSaid : Prop := Claim7.holds Tryz.pinned (.plain (OpenSpec.ofChange extractTakesSpec)) extractTakesCard

/-- THE TIED CARD OF 'virgulelaw23.ExtractAll'. -/
def extractAllCard : Claim7 := { stood := { row := extractAllRow, standIns := [], harness := (true, "6d59ca8530594cd82feede9e5f1329db8905bdfb7577c820385a2a539e980b0c"), looks := true }, kinds := [], alts := [], laidByText := true, laidKinds := [.data, .data, .data, .sentinel, .sentinel, .listed, .data], laidTests := true, laidLooks := .later }
def ExtractAllCardSaid : Prop := Claim7.holds Tryz.pinned (.plain (OpenSpec.ofChange extractAllSpec)) extractAllCard

/-- THE TIED CARD OF 'virgulelaw23.ExtractPlain'. -/
def extractPlainCard : Claim7 := { stood := { row := extractPlainRow, standIns := [], harness := (true, "6d59ca8530594cd82feede9e5f1329db8905bdfb7577c820385a2a539e980b0c"), looks := true }, kinds := [], alts := [], laidByText := true, laidKinds := [.data, .data, .data, .sentinel, .sentinel, .listed, .data], laidTests := true, laidLooks := .later }
def ExtractPlainCardSaid : Prop := Claim7.holds Tryz.pinned (.plain (OpenSpec.ofChange extractPlainSpec)) extractPlainCard

/-- THE TIED CARD OF 'virgulelaw23.ExtractRises'. -/
def extractRisesCard : Claim7 := { stood := { row := extractRisesRow, standIns := [], harness := (true, "6d59ca8530594cd82feede9e5f1329db8905bdfb7577c820385a2a539e980b0c"), looks := true }, kinds := [], alts := [], laidByText := true, laidKinds := [.data, .data, .data, .sentinel, .sentinel, .listed, .data], laidTests := true, laidLooks := .later }
def ExtractRisesCardSaid : Prop := Claim7.holds Tryz.pinned (.plain (OpenSpec.ofChange extractRisesSpec)) extractRisesCard

/-- THE TIED CARD OF 'virgulelaw24.FlatPlain'. -/
def flatPlainCard : Claim7 := { stood := { row := flatPlainRow, standIns := [], harness := (true, "6d59ca8530594cd82feede9e5f1329db8905bdfb7577c820385a2a539e980b0c"), looks := true }, kinds := [], alts := [], laidByText := true, laidKinds := [.data, .data, .data, .sentinel, .sentinel, .listed, .data], laidTests := true, laidLooks := .later }
def FlatPlainCardSaid : Prop := Claim7.holds Tryz.pinned (.plain (OpenSpec.ofChange flatPlainSpec)) flatPlainCard

/-- THE TIED CARD OF 'virgulelaw24.FlatRaw'. -/
def flatRawCard : Claim7 := { stood := { row := flatRawRow, standIns := [], harness := (true, "6d59ca8530594cd82feede9e5f1329db8905bdfb7577c820385a2a539e980b0c"), looks := true }, kinds := [], alts := [], laidByText := true, laidKinds := [.data, .data, .data, .sentinel, .sentinel, .listed, .data], laidTests := true, laidLooks := .later }
def FlatRawCardSaid : Prop := Claim7.holds Tryz.pinned (.plain (OpenSpec.ofChange flatRawSpec)) flatRawCard

/-- THE TIED CARD OF 'virgulelaw24.FlatBack'. -/
def flatBackCard : Claim7 := { stood := { row := flatBackRow, standIns := [], harness := (true, "6d59ca8530594cd82feede9e5f1329db8905bdfb7577c820385a2a539e980b0c"), looks := true }, kinds := [], alts := [], laidByText := true, laidKinds := [.data, .data, .data, .sentinel, .sentinel, .listed, .data], laidTests := true, laidLooks := .later }
def FlatBackCardSaid : Prop := Claim7.holds Tryz.pinned (.plain (OpenSpec.ofChange flatBackSpec)) flatBackCard

/-- THE TIED CARD OF 'virgulelaw24.FlatTells'. -/
def flatTellsCard : Claim7 := { stood := { row := flatTellsRow, standIns := [], harness := (true, "6d59ca8530594cd82feede9e5f1329db8905bdfb7577c820385a2a539e980b0c"), looks := true }, kinds := [], alts := [], laidByText := true, laidKinds := [.data, .data, .data, .sentinel, .sentinel, .listed, .data], laidTests := true, laidLooks := .later }
def FlatTellsCardSaid : Prop := Claim7.holds Tryz.pinned (.plain (OpenSpec.ofChange flatTellsSpec)) flatTellsCard

/-- THE TIED CARD OF 'virgulelaw24.FlatNone'. -/
def flatNoneCard : Claim7 := { stood := { row := flatNoneRow, standIns := [], harness := (true, "6d59ca8530594cd82feede9e5f1329db8905bdfb7577c820385a2a539e980b0c"), looks := true }, kinds := [], alts := [], laidByText := true, laidKinds := [.data, .data, .data, .sentinel, .sentinel, .listed, .data], laidTests := true, laidLooks := .later }
def FlatNoneCardSaid : Prop := Claim7.holds Tryz.pinned (.plain (OpenSpec.ofChange flatNoneSpec)) flatNoneCard

/-- THE SECOND FORM's CARD OF 'virgulelaw23.ExtractTakes'. -/
def extractTakesUptoCard : Claim7 := { stood := { row := extractTakesUptoRow, standIns := [], harness := (true, "6d59ca8530594cd82feede9e5f1329db8905bdfb7577c820385a2a539e980b0c"), looks := true }, kinds := [], alts := [], laidByText := true, laidKinds := [.data, .data, .data, .sentinel, .sentinel, .listed, .data], laidTests := true, laidLooks := .later }
def ExtractTakesUptoCardSaid : Prop := Claim7.holds Tryz.pinned (.plain (OpenSpec.upto extractTakesSpec)) extractTakesUptoCard

/-- THE SECOND FORM's CARD OF 'virgulelaw23.ExtractAll'. -/
def extractAllUptoCard : Claim7 := { stood := { row := extractAllUptoRow, standIns := [], harness := (true, "6d59ca8530594cd82feede9e5f1329db8905bdfb7577c820385a2a539e980b0c"), looks := true }, kinds := [], alts := [], laidByText := true, laidKinds := [.data, .data, .data, .sentinel, .sentinel, .listed, .data], laidTests := true, laidLooks := .later }
def ExtractAllUptoCardSaid : Prop := Claim7.holds Tryz.pinned (.plain (OpenSpec.upto extractAllSpec)) extractAllUptoCard

/-- THE SECOND FORM's CARD OF 'virgulelaw23.ExtractPlain'. -/
def extractPlainUptoCard : Claim7 := { stood := { row := extractPlainUptoRow, standIns := [], harness := (true, "6d59ca8530594cd82feede9e5f1329db8905bdfb7577c820385a2a539e980b0c"), looks := true }, kinds := [], alts := [], laidByText := true, laidKinds := [.data, .data, .data, .sentinel, .sentinel, .listed, .data], laidTests := true, laidLooks := .later }
def ExtractPlainUptoCardSaid : Prop := Claim7.holds Tryz.pinned (.plain (OpenSpec.upto extractPlainSpec)) extractPlainUptoCard

/-- THE SECOND FORM's CARD OF 'virgulelaw23.ExtractRises'. -/
def extractRisesUptoCard : Claim7 := { stood := { row := extractRisesUptoRow, standIns := [], harness := (true, "6d59ca8530594cd82feede9e5f1329db8905bdfb7577c820385a2a539e980b0c"), looks := true }, kinds := [], alts := [], laidByText := true, laidKinds := [.data, .data, .data, .sentinel, .sentinel, .listed, .data], laidTests := true, laidLooks := .later }
def ExtractRisesUptoCardSaid : Prop := Claim7.holds Tryz.pinned (.plain (OpenSpec.upto extractRisesSpec)) extractRisesUptoCard

/-- THE SECOND FORM's CARD OF 'virgulelaw24.FlatPlain'. -/
def flatPlainUptoCard : Claim7 := { stood := { row := flatPlainUptoRow, standIns := [], harness := (true, "6d59ca8530594cd82feede9e5f1329db8905bdfb7577c820385a2a539e980b0c"), looks := true }, kinds := [], alts := [], laidByText := true, laidKinds := [.data, .data, .data, .sentinel, .sentinel, .listed, .data], laidTests := true, laidLooks := .later }
def FlatPlainUptoCardSaid : Prop := Claim7.holds Tryz.pinned (.plain (OpenSpec.upto flatPlainSpec)) flatPlainUptoCard

/-- THE SECOND FORM's CARD OF 'virgulelaw24.FlatRaw'. -/
def flatRawUptoCard : Claim7 := { stood := { row := flatRawUptoRow, standIns := [], harness := (true, "6d59ca8530594cd82feede9e5f1329db8905bdfb7577c820385a2a539e980b0c"), looks := true }, kinds := [], alts := [], laidByText := true, laidKinds := [.data, .data, .data, .sentinel, .sentinel, .listed, .data], laidTests := true, laidLooks := .later }
def FlatRawUptoCardSaid : Prop := Claim7.holds Tryz.pinned (.plain (OpenSpec.upto flatRawSpec)) flatRawUptoCard

/-- THE SECOND FORM's CARD OF 'virgulelaw24.FlatBack'. -/
def flatBackUptoCard : Claim7 := { stood := { row := flatBackUptoRow, standIns := [], harness := (true, "6d59ca8530594cd82feede9e5f1329db8905bdfb7577c820385a2a539e980b0c"), looks := true }, kinds := [], alts := [], laidByText := true, laidKinds := [.data, .data, .data, .sentinel, .sentinel, .listed, .data], laidTests := true, laidLooks := .later }
def FlatBackUptoCardSaid : Prop := Claim7.holds Tryz.pinned (.plain (OpenSpec.upto flatBackSpec)) flatBackUptoCard

/-- THE SECOND FORM's CARD OF 'virgulelaw24.FlatTells'. -/
def flatTellsUptoCard : Claim7 := { stood := { row := flatTellsUptoRow, standIns := [], harness := (true, "6d59ca8530594cd82feede9e5f1329db8905bdfb7577c820385a2a539e980b0c"), looks := true }, kinds := [], alts := [], laidByText := true, laidKinds := [.data, .data, .data, .sentinel, .sentinel, .listed, .data], laidTests := true, laidLooks := .later }
def FlatTellsUptoCardSaid : Prop := Claim7.holds Tryz.pinned (.plain (OpenSpec.upto flatTellsSpec)) flatTellsUptoCard

/-- THE SECOND FORM's CARD OF 'virgulelaw24.FlatNone'. -/
def flatNoneUptoCard : Claim7 := { stood := { row := flatNoneUptoRow, standIns := [], harness := (true, "6d59ca8530594cd82feede9e5f1329db8905bdfb7577c820385a2a539e980b0c"), looks := true }, kinds := [], alts := [], laidByText := true, laidKinds := [.data, .data, .data, .sentinel, .sentinel, .listed, .data], laidTests := true, laidLooks := .later }
def FlatNoneUptoCardSaid : Prop := Claim7.holds Tryz.pinned (.plain (OpenSpec.upto flatNoneSpec)) flatNoneUptoCard
end Rows
end Go.Proofs.YtlfbgaknljdanaaGreatDoor
