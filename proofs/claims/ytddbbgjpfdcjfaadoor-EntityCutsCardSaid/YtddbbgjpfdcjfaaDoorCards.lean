/-
  DERIVED. GIVEN WITH THE SEED: THE CARDS: each row of YtddbbgjpfdcjfaaDoorRows.lean that lists a variable, with what it lists TIED to the program's text (the seventh form; the later family's looks); each row that meets fmt, with fmt's text TOLD by the authors' own Lean function (tested against real Go, not proved from fmt's source: count such statements apart). THE CARD IS WHAT COUNTS. Prove the row's statement (the work); the ties are given (YtddbbgjpfdcjfaaDoorTie.lean); close each card by the builder's one call (the guide's Derived/Test/ToyasCard.lean, 'card_holds'). Laid BY PROGRAM, IN A SANDBOX (cutbox-door.mjs). By AI agents, Wed Nov 11 2026. No macro, syntax, notation, axiom, sorry.
-/
import Derived.Test.YtddbbgjpfdcjfaaDoorRows
import GoSem.ClaimSeven
namespace Go.Proofs.YtddbbgjpfdcjfaaDoor
namespace Rows

/-- THE TIED CARD OF 'virgulelaw16.EntityReads'. -/
def entityReadsCard : Claim7 := { stood := { row := entityReadsRow, standIns := [], harness := (true, "9c9a6b5c55b60c1b3e273c05394af9dfdc3e4dc9ce51bd2bf571aa49e43c9930"), looks := true }, kinds := [], alts := [], laidByText := true, laidKinds := [.data, .data, .data, .sentinel, .sentinel], laidTests := true, laidLooks := .later }
def EntityReadsCardSaid : Prop := Claim7.holds Tryd.pinned (.plain (OpenSpec.ofChange entityReadsSpec)) entityReadsCard

/-- THE TIED CARD OF 'virgulelaw16.EntityOpens'. -/
def entityOpensCard : Claim7 := { stood := { row := entityOpensRow, standIns := [], harness := (true, "9c9a6b5c55b60c1b3e273c05394af9dfdc3e4dc9ce51bd2bf571aa49e43c9930"), looks := true }, kinds := [], alts := [], laidByText := true, laidKinds := [.data, .data, .data, .sentinel, .sentinel], laidTests := true, laidLooks := .later }
def EntityOpensCardSaid : Prop := Claim7.holds Tryd.pinned (.plain (OpenSpec.ofChange entityOpensSpec)) entityOpensCard

/-- THE TIED CARD OF 'virgulelaw16.EntityNames'. -/
def entityNamesCard : Claim7 := { stood := { row := entityNamesRow, standIns := [], harness := (true, "9c9a6b5c55b60c1b3e273c05394af9dfdc3e4dc9ce51bd2bf571aa49e43c9930"), looks := true }, kinds := [], alts := [], laidByText := true, laidKinds := [.data, .data, .data, .sentinel, .sentinel], laidTests := true, laidLooks := .later }
def EntityNamesCardSaid : Prop := Claim7.holds Tryd.pinned (.plain (OpenSpec.ofChange entityNamesSpec)) entityNamesCard

/-- THE TIED CARD OF 'virgulelaw16.EntityWrites'. -/
def entityWritesCard : Claim7 := { stood := { row := entityWritesRow, standIns := [], harness := (true, "9c9a6b5c55b60c1b3e273c05394af9dfdc3e4dc9ce51bd2bf571aa49e43c9930"), looks := true }, kinds := [], alts := [], laidByText := true, laidKinds := [.data, .data, .data, .sentinel, .sentinel], laidTests := true, laidLooks := .later }
def EntityWritesCardSaid : Prop := Claim7.holds Tryd.pinned (.plain (OpenSpec.ofChange entityWritesSpec)) entityWritesCard

/-- THE TIED CARD OF 'virgulelaw16.EntityCuts'. -/
def entityCutsCard : Claim7 := { stood := { row := entityCutsRow, standIns := [], harness := (true, "9c9a6b5c55b60c1b3e273c05394af9dfdc3e4dc9ce51bd2bf571aa49e43c9930"), looks := true }, kinds := [], alts := [], laidByText := true, laidKinds := [.data, .data, .data, .sentinel, .sentinel], laidTests := true, laidLooks := .later }
def EntityCutsCardSaid : Prop := Claim7.holds Tryd.pinned (.plain (OpenSpec.ofChange entityCutsSpec)) entityCutsCard

/-- THE SECOND FORM's CARD OF 'virgulelaw16.EntityReads'. -/
def entityReadsUptoCard : Claim7 := { stood := { row := entityReadsUptoRow, standIns := [], harness := (true, "9c9a6b5c55b60c1b3e273c05394af9dfdc3e4dc9ce51bd2bf571aa49e43c9930"), looks := true }, kinds := [], alts := [], laidByText := true, laidKinds := [.data, .data, .data, .sentinel, .sentinel], laidTests := true, laidLooks := .later }
def EntityReadsUptoCardSaid : Prop := Claim7.holds Tryd.pinned (.plain (OpenSpec.upto entityReadsSpec)) entityReadsUptoCard

/-- THE SECOND FORM's CARD OF 'virgulelaw16.EntityOpens'. -/
def entityOpensUptoCard : Claim7 := { stood := { row := entityOpensUptoRow, standIns := [], harness := (true, "9c9a6b5c55b60c1b3e273c05394af9dfdc3e4dc9ce51bd2bf571aa49e43c9930"), looks := true }, kinds := [], alts := [], laidByText := true, laidKinds := [.data, .data, .data, .sentinel, .sentinel], laidTests := true, laidLooks := .later }
def EntityOpensUptoCardSaid : Prop := Claim7.holds Tryd.pinned (.plain (OpenSpec.upto entityOpensSpec)) entityOpensUptoCard

/-- THE SECOND FORM's CARD OF 'virgulelaw16.EntityNames'. -/
def entityNamesUptoCard : Claim7 := { stood := { row := entityNamesUptoRow, standIns := [], harness := (true, "9c9a6b5c55b60c1b3e273c05394af9dfdc3e4dc9ce51bd2bf571aa49e43c9930"), looks := true }, kinds := [], alts := [], laidByText := true, laidKinds := [.data, .data, .data, .sentinel, .sentinel], laidTests := true, laidLooks := .later }
def EntityNamesUptoCardSaid : Prop := Claim7.holds Tryd.pinned (.plain (OpenSpec.upto entityNamesSpec)) entityNamesUptoCard

/-- THE SECOND FORM's CARD OF 'virgulelaw16.EntityWrites'. -/
def entityWritesUptoCard : Claim7 := { stood := { row := entityWritesUptoRow, standIns := [], harness := (true, "9c9a6b5c55b60c1b3e273c05394af9dfdc3e4dc9ce51bd2bf571aa49e43c9930"), looks := true }, kinds := [], alts := [], laidByText := true, laidKinds := [.data, .data, .data, .sentinel, .sentinel], laidTests := true, laidLooks := .later }
def EntityWritesUptoCardSaid : Prop := Claim7.holds Tryd.pinned (.plain (OpenSpec.upto entityWritesSpec)) entityWritesUptoCard

/-- THE SECOND FORM's CARD OF 'virgulelaw16.EntityCuts'. -/
def entityCutsUptoCard : Claim7 := { stood := { row := entityCutsUptoRow, standIns := [], harness := (true, "9c9a6b5c55b60c1b3e273c05394af9dfdc3e4dc9ce51bd2bf571aa49e43c9930"), looks := true }, kinds := [], alts := [], laidByText := true, laidKinds := [.data, .data, .data, .sentinel, .sentinel], laidTests := true, laidLooks := .later }
def EntityCutsUptoCardSaid : Prop := Claim7.holds Tryd.pinned (.plain (OpenSpec.upto entityCutsSpec)) entityCutsUptoCard
end Rows
end Go.Proofs.YtddbbgjpfdcjfaaDoor
