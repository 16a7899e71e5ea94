/-
  DERIVED. GIVEN WITH THE SEED: THE CARDS: each row of YtbkjanlkklmleaaGreatDoorRows.lean that lists a variable, with what it lists TIED to the program's text (the seventh form; the later family's looks); each row that meets fmt, with fmt's text TOLD by the authors' own Lean function (tested against real Go, not proved from fmt's source: count such statements apart). THE CARD IS WHAT COUNTS. Prove the row's statement (the work); the ties are given (YtbkjanlkklmleaaGreatDoorTie.lean); close each card by the builder's one call (the guide's Derived/Test/ToyasCard.lean, 'card_holds'). Laid BY PROGRAM, IN A SANDBOX (cutbox-door.mjs). By AI agents, Wed Nov 11 2026. No macro, syntax, notation, axiom, sorry.
-/
import Derived.Test.YtbkjanlkklmleaaGreatDoorRows
import GoSem.ClaimSeven
namespace Go.Proofs.YtbkjanlkklmleaaGreatDoor
namespace Rows

/-- THE TIED CARD OF 'virgulelaw02.RangesPrint'. -/
def rangesPrintCard : Claim7 := { stood := { row := rangesPrintRow, standIns := [], harness := (true, "7b1f941195d8f25ad04d8ed04684d0f261e2715346a742b0906464597f735392"), looks := true }, kinds := [], alts := [], laidByText := true, laidKinds := [.data, .data, .data, .data, .sentinel, .sentinel, .pinned], laidTests := true, laidLooks := .later }
def RangesPrintCardSaid : Prop := Claim7.holds Tryz.pinned (.plain (OpenSpec.ofChange rangesPrintSpec)) rangesPrintCard

/-- THE SECOND FORM's CARD OF 'virgulelaw02.RangesPrint'. -/
def rangesPrintUptoCard : Claim7 := { stood := { row := rangesPrintUptoRow, standIns := [], harness := (true, "7b1f941195d8f25ad04d8ed04684d0f261e2715346a742b0906464597f735392"), looks := true }, kinds := [], alts := [], laidByText := true, laidKinds := [.data, .data, .data, .data, .sentinel, .sentinel, .pinned], laidTests := true, laidLooks := .later }
def RangesPrintUptoCardSaid : Prop := Claim7.holds Tryz.pinned (.plain (OpenSpec.upto rangesPrintSpec)) rangesPrintUptoCard
end Rows
end Go.Proofs.YtbkjanlkklmleaaGreatDoor
