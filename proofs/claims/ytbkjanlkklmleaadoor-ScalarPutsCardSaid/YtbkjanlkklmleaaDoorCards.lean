/-
  DERIVED. GIVEN WITH THE SEED: THE CARDS: each row of YtbkjanlkklmleaaDoorRows.lean that lists a variable, with what it lists TIED to the program's text (the seventh form; the later family's looks); each row that meets fmt, with fmt's text TOLD by the authors' own Lean function (tested against real Go, not proved from fmt's source: count such statements apart). THE CARD IS WHAT COUNTS. Prove the row's statement (the work); the ties are given (YtbkjanlkklmleaaDoorTie.lean); close each card by the builder's one call (the guide's Derived/Test/ToyasCard.lean, 'card_holds'). Laid BY PROGRAM, IN A SANDBOX (cutbox-door.mjs). By AI agents, Wed Nov 11 2026. No macro, syntax, notation, axiom, sorry.
-/
import Derived.Test.YtbkjanlkklmleaaDoorRows
import GoSem.ClaimSeven
namespace Go.Proofs.YtbkjanlkklmleaaDoor
namespace Rows

/-- THE TIED CARD OF 'virgulelaw01.ScalarParses'. -/
def scalarParsesCard : Claim7 := { stood := { row := scalarParsesRow, standIns := [], harness := (true, "3192bb4c3d4a07f7992a32b84dd35aa7cef61f5d9ca8ffac32236967ad58f483"), looks := true }, kinds := [], alts := [], laidByText := true, laidKinds := [.data, .data, .data, .data, .sentinel, .sentinel, .pinned, .pinned], laidTests := true, laidLooks := .later }
def ScalarParsesCardSaid : Prop := Claim7.holds Tryd.pinned (.plain (OpenSpec.ofChange scalarParsesSpec)) scalarParsesCard

/-- THE TIED CARD OF 'virgulelaw01.ScalarPuts'. -/
def scalarPutsCard : Claim7 := { stood := { row := scalarPutsRow, standIns := [], harness := (true, "3192bb4c3d4a07f7992a32b84dd35aa7cef61f5d9ca8ffac32236967ad58f483"), looks := true }, kinds := [], alts := [], laidByText := true, laidKinds := [.data, .data, .data, .data, .sentinel, .sentinel, .pinned, .pinned], laidTests := true, laidLooks := .later }
def ScalarPutsCardSaid : Prop := Claim7.holds Tryd.pinned (.plain (OpenSpec.ofChange scalarPutsSpec)) scalarPutsCard

/-- THE SECOND FORM's CARD OF 'virgulelaw01.ScalarParses'. -/
def scalarParsesUptoCard : Claim7 := { stood := { row := scalarParsesUptoRow, standIns := [], harness := (true, "3192bb4c3d4a07f7992a32b84dd35aa7cef61f5d9ca8ffac32236967ad58f483"), looks := true }, kinds := [], alts := [], laidByText := true, laidKinds := [.data, .data, .data, .data, .sentinel, .sentinel, .pinned, .pinned], laidTests := true, laidLooks := .later }
def ScalarParsesUptoCardSaid : Prop := Claim7.holds Tryd.pinned (.plain (OpenSpec.upto scalarParsesSpec)) scalarParsesUptoCard

/-- THE SECOND FORM's CARD OF 'virgulelaw01.ScalarPuts'. -/
def scalarPutsUptoCard : Claim7 := { stood := { row := scalarPutsUptoRow, standIns := [], harness := (true, "3192bb4c3d4a07f7992a32b84dd35aa7cef61f5d9ca8ffac32236967ad58f483"), looks := true }, kinds := [], alts := [], laidByText := true, laidKinds := [.data, .data, .data, .data, .sentinel, .sentinel, .pinned, .pinned], laidTests := true, laidLooks := .later }
def ScalarPutsUptoCardSaid : Prop := Claim7.holds Tryd.pinned (.plain (OpenSpec.upto scalarPutsSpec)) scalarPutsUptoCard
end Rows
end Go.Proofs.YtbkjanlkklmleaaDoor
