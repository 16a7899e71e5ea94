/-
  DERIVED. GIVEN WITH THE SEED: THE CARDS: each row of YteddhjfbnanplaaDoorRows.lean that lists a variable, with what it lists TIED to the program's text (the seventh form; the later family's looks); each row that meets fmt, with fmt's text TOLD by the authors' own Lean function (tested against real Go, not proved from fmt's source: count such statements apart). THE CARD IS WHAT COUNTS. Prove the row's statement (the work); the ties are given (YteddhjfbnanplaaDoorTie.lean); close each card by the builder's one call (the guide's Derived/Test/ToyasCard.lean, 'card_holds'). Laid BY PROGRAM, IN A SANDBOX (cutbox-door.mjs). By AI agents, Wed Nov 11 2026. No macro, syntax, notation, axiom, sorry.
-/
import Derived.Test.YteddhjfbnanplaaDoorRows
import GoSem.ClaimSeven
namespace Go.Proofs.YteddhjfbnanplaaDoor
namespace Rows

/-- THE TIED CARD OF 'virgulelaw02.RangesMake'. -/
def rangesMakeCard : Claim7 := { stood := { row := rangesMakeRow, standIns := [], harness := (true, "febb28cb2894821fe86a3fa05b279ae7f3be1c620ed214014afff816cafc0bba"), looks := false }, kinds := [], alts := [], laidByText := true, laidKinds := [.data, .data, .data], laidTests := true, laidLooks := .later }
def RangesMakeCardSaid : Prop := Claim7.holds Tryd.pinned (.plain (OpenSpec.ofChange rangesMakeSpec)) rangesMakeCard

/-- THE TIED CARD OF 'virgulelaw02.RangesMany'. -/
def rangesManyCard : Claim7 := { stood := { row := rangesManyRow, standIns := [], harness := (true, "febb28cb2894821fe86a3fa05b279ae7f3be1c620ed214014afff816cafc0bba"), looks := false }, kinds := [], alts := [], laidByText := true, laidKinds := [.data, .data, .data], laidTests := true, laidLooks := .later }
def RangesManyCardSaid : Prop := Claim7.holds Tryd.pinned (.plain (OpenSpec.ofChange rangesManySpec)) rangesManyCard

/-- THE TIED CARD OF 'virgulelaw02.RangesJoin'. -/
def rangesJoinCard : Claim7 := { stood := { row := rangesJoinRow, standIns := [], harness := (true, "febb28cb2894821fe86a3fa05b279ae7f3be1c620ed214014afff816cafc0bba"), looks := false }, kinds := [], alts := [], laidByText := true, laidKinds := [.data, .data, .data], laidTests := true, laidLooks := .later }
def RangesJoinCardSaid : Prop := Claim7.holds Tryd.pinned (.plain (OpenSpec.ofChange rangesJoinSpec)) rangesJoinCard

/-- THE TIED CARD OF 'virgulelaw02.RangesLaws'. -/
def rangesLawsCard : Claim7 := { stood := { row := rangesLawsRow, standIns := [], harness := (true, "febb28cb2894821fe86a3fa05b279ae7f3be1c620ed214014afff816cafc0bba"), looks := false }, kinds := [], alts := [], laidByText := true, laidKinds := [.data, .data, .data], laidTests := true, laidLooks := .later }
def RangesLawsCardSaid : Prop := Claim7.holds Tryd.pinned (.plain (OpenSpec.ofChange rangesLawsSpec)) rangesLawsCard

/-- THE SECOND FORM's CARD OF 'virgulelaw02.RangesMake'. -/
def rangesMakeUptoCard : Claim7 := { stood := { row := rangesMakeUptoRow, standIns := [], harness := (true, "febb28cb2894821fe86a3fa05b279ae7f3be1c620ed214014afff816cafc0bba"), looks := false }, kinds := [], alts := [], laidByText := true, laidKinds := [.data, .data, .data], laidTests := true, laidLooks := .later }
def RangesMakeUptoCardSaid : Prop := Claim7.holds Tryd.pinned (.plain (OpenSpec.upto rangesMakeSpec)) rangesMakeUptoCard

/-- THE SECOND FORM's CARD OF 'virgulelaw02.RangesMany'. -/
def rangesManyUptoCard : Claim7 := { stood := { row := rangesManyUptoRow, standIns := [], harness := (true, "febb28cb2894821fe86a3fa05b279ae7f3be1c620ed214014afff816cafc0bba"), looks := false }, kinds := [], alts := [], laidByText := true, laidKinds := [.data, .data, .data], laidTests := true, laidLooks := .later }
def RangesManyUptoCardSaid : Prop := Claim7.holds Tryd.pinned (.plain (OpenSpec.upto rangesManySpec)) rangesManyUptoCard

/-- THE SECOND FORM's CARD OF 'virgulelaw02.RangesJoin'. -/
def rangesJoinUptoCard : Claim7 := { stood := { row := rangesJoinUptoRow, standIns := [], harness := (true, "febb28cb2894821fe86a3fa05b279ae7f3be1c620ed214014afff816cafc0bba"), looks := false }, kinds := [], alts := [], laidByText := true, laidKinds := [.data, .data, .data], laidTests := true, laidLooks := .later }
def RangesJoinUptoCardSaid : Prop := Claim7.holds Tryd.pinned (.plain (OpenSpec.upto rangesJoinSpec)) rangesJoinUptoCard

/-- THE SECOND FORM's CARD OF 'virgulelaw02.RangesLaws'. -/
def rangesLawsUptoCard : Claim7 := { stood := { row := rangesLawsUptoRow, standIns := [], harness := (true, "febb28cb2894821fe86a3fa05b279ae7f3be1c620ed214014afff816cafc0bba"), looks := false }, kinds := [], alts := [], laidByText := true, laidKinds := [.data, .data, .data], laidTests := true, laidLooks := .later }
def RangesLawsUptoCardSaid : Prop := Claim7.holds Tryd.pinned (.plain (OpenSpec.upto rangesLawsSpec)) rangesLawsUptoCard
end Rows
end Go.Proofs.YteddhjfbnanplaaDoor
