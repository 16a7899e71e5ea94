/-
  DERIVED. GIVEN WITH THE SEED: THE CARDS: each row of YtpnbkecchfhimaaGreatDoorRows.lean that lists a variable, with what it lists TIED to the program's text (the seventh form; the later family's looks); each row that meets fmt, with fmt's text TOLD by the authors' own Lean function (tested against real Go, not proved from fmt's source: count such statements apart). THE CARD IS WHAT COUNTS. Prove the row's statement (the work); the ties are given (YtpnbkecchfhimaaGreatDoorTie.lean); close each card by the builder's one call (the guide's Derived/Test/ToyasCard.lean, 'card_holds'). Laid BY PROGRAM, IN A SANDBOX (cutbox-door.mjs). By AI agents, Wed Nov 11 2026. No macro, syntax, notation, axiom, sorry.
-/
import Derived.Test.YtpnbkecchfhimaaGreatDoorRows
import GoSem.ClaimSeven
namespace Go.Proofs.YtpnbkecchfhimaaGreatDoor
namespace Rows

/-- THE TIED CARD OF 'virgulelaw20.FeedHolds'. -/
def feedHoldsCard : Claim7 := { stood := { row := feedHoldsRow, standIns := [], harness := (true, "63b168af70466cf188b9763b4e19a0364f65cd77626141b7df34f75931325e5b"), looks := true }, kinds := [], alts := [], laidByText := true, laidKinds := [.data, .data, .data, .data, .sentinel, .sentinel, .pinned, .pinned], laidTests := true, laidLooks := .later }
def FeedHoldsCardSaid : Prop := Claim7.holds Tryz.pinned (.plain (OpenSpec.ofChange feedHoldsSpec)) feedHoldsCard

/-- THE TIED CARD OF 'virgulelaw20.FeedPieces'. -/
def feedPiecesCard : Claim7 := { stood := { row := feedPiecesRow, standIns := [], harness := (true, "63b168af70466cf188b9763b4e19a0364f65cd77626141b7df34f75931325e5b"), looks := true }, kinds := [], alts := [], laidByText := true, laidKinds := [.data, .data, .data, .data, .sentinel, .sentinel, .pinned, .pinned], laidTests := true, laidLooks := .later }
def FeedPiecesCardSaid : Prop := Claim7.holds Tryz.pinned (.plain (OpenSpec.ofChange feedPiecesSpec)) feedPiecesCard

/-- THE TIED CARD OF 'virgulelaw20.FeedPlays'. -/
def feedPlaysCard : Claim7 := { stood := { row := feedPlaysRow, standIns := [], harness := (true, "63b168af70466cf188b9763b4e19a0364f65cd77626141b7df34f75931325e5b"), looks := true }, kinds := [], alts := [], laidByText := true, laidKinds := [.data, .data, .data, .data, .sentinel, .sentinel, .pinned, .pinned], laidTests := true, laidLooks := .later }
def FeedPlaysCardSaid : Prop := Claim7.holds Tryz.pinned (.plain (OpenSpec.ofChange feedPlaysSpec)) feedPlaysCard

/-- THE TIED CARD OF 'virgulelaw20.FeedNone'. -/
def feedNoneCard : Claim7 := { stood := { row := feedNoneRow, standIns := [], harness := (true, "63b168af70466cf188b9763b4e19a0364f65cd77626141b7df34f75931325e5b"), looks := true }, kinds := [], alts := [], laidByText := true, laidKinds := [.data, .data, .data, .data, .sentinel, .sentinel, .pinned, .pinned], laidTests := true, laidLooks := .later }
def FeedNoneCardSaid : Prop := Claim7.holds Tryz.pinned (.plain (OpenSpec.ofChange feedNoneSpec)) feedNoneCard

/-- THE TIED CARD OF 'virgulelaw30.LintRises'. -/
def lintRisesCard : Claim7 := { stood := { row := lintRisesRow, standIns := [], harness := (true, "63b168af70466cf188b9763b4e19a0364f65cd77626141b7df34f75931325e5b"), looks := true }, kinds := [], alts := [], laidByText := true, laidKinds := [.data, .data, .data, .sentinel, .sentinel, .listed, .data], laidTests := true, laidLooks := .later }
def LintRisesCardSaid : Prop := Claim7.holds Tryz.pinned (.plain (OpenSpec.ofChange lintRisesSpec)) lintRisesCard

/-- THE TIED CARD OF 'virgulelaw30.LintPrints'. -/
def lintPrintsCard : Claim7 := { stood := { row := lintPrintsRow, standIns := [], harness := (true, "63b168af70466cf188b9763b4e19a0364f65cd77626141b7df34f75931325e5b"), looks := true }, kinds := [], alts := [], laidByText := true, laidKinds := [.data, .data, .data, .sentinel, .sentinel, .listed, .data], laidTests := true, laidLooks := .later }
def LintPrintsCardSaid : Prop := Claim7.holds Tryz.pinned (.plain (OpenSpec.ofChange lintPrintsSpec)) lintPrintsCard

/-- THE TIED CARD OF 'virgulelaw30.LintPlain'. -/
def lintPlainCard : Claim7 := { stood := { row := lintPlainRow, standIns := [], harness := (true, "63b168af70466cf188b9763b4e19a0364f65cd77626141b7df34f75931325e5b"), looks := true }, kinds := [], alts := [], laidByText := true, laidKinds := [.data, .data, .data, .sentinel, .sentinel, .listed, .data], laidTests := true, laidLooks := .later }
def LintPlainCardSaid : Prop := Claim7.holds Tryz.pinned (.plain (OpenSpec.ofChange lintPlainSpec)) lintPlainCard

/-- THE SECOND FORM's CARD OF 'virgulelaw20.FeedHolds'. -/
def feedHoldsUptoCard : Claim7 := { stood := { row := feedHoldsUptoRow, standIns := [], harness := (true, "63b168af70466cf188b9763b4e19a0364f65cd77626141b7df34f75931325e5b"), looks := true }, kinds := [], alts := [], laidByText := true, laidKinds := [.data, .data, .data, .data, .sentinel, .sentinel, .pinned, .pinned], laidTests := true, laidLooks := .later }
def FeedHoldsUptoCardSaid : Prop := Claim7.holds Tryz.pinned (.plain (OpenSpec.upto feedHoldsSpec)) feedHoldsUptoCard

/-- THE SECOND FORM's CARD OF 'virgulelaw20.FeedPieces'. -/
def feedPiecesUptoCard : Claim7 := { stood := { row := feedPiecesUptoRow, standIns := [], harness := (true, "63b168af70466cf188b9763b4e19a0364f65cd77626141b7df34f75931325e5b"), looks := true }, kinds := [], alts := [], laidByText := true, laidKinds := [.data, .data, .data, .data, .sentinel, .sentinel, .pinned, .pinned], laidTests := true, laidLooks := .later }
def FeedPiecesUptoCardSaid : Prop := Claim7.holds Tryz.pinned (.plain (OpenSpec.upto feedPiecesSpec)) feedPiecesUptoCard

/-- THE SECOND FORM's CARD OF 'virgulelaw20.FeedPlays'. -/
def feedPlaysUptoCard : Claim7 := { stood := { row := feedPlaysUptoRow, standIns := [], harness := (true, "63b168af70466cf188b9763b4e19a0364f65cd77626141b7df34f75931325e5b"), looks := true }, kinds := [], alts := [], laidByText := true, laidKinds := [.data, .data, .data, .data, .sentinel, .sentinel, .pinned, .pinned], laidTests := true, laidLooks := .later }
def FeedPlaysUptoCardSaid : Prop := Claim7.holds Tryz.pinned (.plain (OpenSpec.upto feedPlaysSpec)) feedPlaysUptoCard

/-- THE SECOND FORM's CARD OF 'virgulelaw20.FeedNone'. -/
def feedNoneUptoCard : Claim7 := { stood := { row := feedNoneUptoRow, standIns := [], harness := (true, "63b168af70466cf188b9763b4e19a0364f65cd77626141b7df34f75931325e5b"), looks := true }, kinds := [], alts := [], laidByText := true, laidKinds := [.data, .data, .data, .data, .sentinel, .sentinel, .pinned, .pinned], laidTests := true, laidLooks := .later }
def FeedNoneUptoCardSaid : Prop := Claim7.holds Tryz.pinned (.plain (OpenSpec.upto feedNoneSpec)) feedNoneUptoCard

/-- THE SECOND FORM's CARD OF 'virgulelaw30.LintRises'. -/
def lintRisesUptoCard : Claim7 := { stood := { row := lintRisesUptoRow, standIns := [], harness := (true, "63b168af70466cf188b9763b4e19a0364f65cd77626141b7df34f75931325e5b"), looks := true }, kinds := [], alts := [], laidByText := true, laidKinds := [.data, .data, .data, .sentinel, .sentinel, .listed, .data], laidTests := true, laidLooks := .later }
def LintRisesUptoCardSaid : Prop := Claim7.holds Tryz.pinned (.plain (OpenSpec.upto lintRisesSpec)) lintRisesUptoCard

/-- THE SECOND FORM's CARD OF 'virgulelaw30.LintPrints'. -/
def lintPrintsUptoCard : Claim7 := { stood := { row := lintPrintsUptoRow, standIns := [], harness := (true, "63b168af70466cf188b9763b4e19a0364f65cd77626141b7df34f75931325e5b"), looks := true }, kinds := [], alts := [], laidByText := true, laidKinds := [.data, .data, .data, .sentinel, .sentinel, .listed, .data], laidTests := true, laidLooks := .later }
def LintPrintsUptoCardSaid : Prop := Claim7.holds Tryz.pinned (.plain (OpenSpec.upto lintPrintsSpec)) lintPrintsUptoCard

/-- THE SECOND FORM's CARD OF 'virgulelaw30.LintPlain'. -/
def lintPlainUptoCard : Claim7 := { stood := { row := lintPlainUptoRow, standIns := [], harness := (true, "63b168af70466cf188b9763b4e19a0364f65cd77626141b7df34f75931325e5b"), looks := true }, kinds := [], alts := [], laidByText := true, laidKinds := [.data, .data, .data, .sentinel, .sentinel, .listed, .data], laidTests := true, laidLooks := .later }
def LintPlainUptoCardSaid : Prop := Claim7.holds Tryz.pinned (.plain (OpenSpec.upto lintPlainSpec)) lintPlainUptoCard
end Rows
end Go.Proofs.YtpnbkecchfhimaaGreatDoor
