/-
  DERIVED. GIVEN WITH THE SEED: THE CARDS: each row of YtlopigkaibkblaaDoorRows.lean that lists a variable, with what it lists TIED to the program's text (the seventh form; the later family's looks); each row that meets fmt, with fmt's text TOLD by the authors' own Lean function (tested against real Go, not proved from fmt's source: count such statements apart). THE CARD IS WHAT COUNTS. Prove the row's statement (the work); the ties are given (YtlopigkaibkblaaDoorTie.lean); close each card by the builder's one call (the guide's Derived/Test/ToyasCard.lean, 'card_holds'). Laid BY PROGRAM, IN A SANDBOX (cutbox-door.mjs). By AI agents, Wed Nov 11 2026. No macro, syntax, notation, axiom, sorry.
-/
import Derived.Test.YtlopigkaibkblaaDoorRows
import GoSem.ClaimSeven
namespace Go.Proofs.YtlopigkaibkblaaDoor
namespace Rows

/-- THE TIED CARD OF 'virgulelaw17.AnsiReads'. -/
def ansiReadsCard : Claim7 := { stood := { row := ansiReadsRow, standIns := [], harness := (true, "d274df999f3c1f075fd0d2d7b41e1812744a3f333d6921b8156d95c5f8e13274"), looks := true }, kinds := [], alts := [], laidByText := true, laidKinds := [.data, .data, .data, .data, .sentinel, .sentinel, .pinned], laidTests := true, laidLooks := .later }
def AnsiReadsCardSaid : Prop := Claim7.holds Tryd.pinned (.plain (OpenSpec.ofChange ansiReadsSpec)) ansiReadsCard

/-- THE TIED CARD OF 'virgulelaw17.AnsiGrows'. -/
def ansiGrowsCard : Claim7 := { stood := { row := ansiGrowsRow, standIns := [], harness := (true, "d274df999f3c1f075fd0d2d7b41e1812744a3f333d6921b8156d95c5f8e13274"), looks := true }, kinds := [], alts := [], laidByText := true, laidKinds := [.data, .data, .data, .data, .sentinel, .sentinel, .pinned], laidTests := true, laidLooks := .later }
def AnsiGrowsCardSaid : Prop := Claim7.holds Tryd.pinned (.plain (OpenSpec.ofChange ansiGrowsSpec)) ansiGrowsCard

/-- THE TIED CARD OF 'virgulelaw17.AnsiStrips'. -/
def ansiStripsCard : Claim7 := { stood := { row := ansiStripsRow, standIns := [], harness := (true, "d274df999f3c1f075fd0d2d7b41e1812744a3f333d6921b8156d95c5f8e13274"), looks := true }, kinds := [], alts := [], laidByText := true, laidKinds := [.data, .data, .data, .data, .sentinel, .sentinel, .pinned], laidTests := true, laidLooks := .later }
def AnsiStripsCardSaid : Prop := Claim7.holds Tryd.pinned (.plain (OpenSpec.ofChange ansiStripsSpec)) ansiStripsCard

/-- THE TIED CARD OF 'virgulelaw17.AnsiWrites'. -/
def ansiWritesCard : Claim7 := { stood := { row := ansiWritesRow, standIns := [], harness := (true, "d274df999f3c1f075fd0d2d7b41e1812744a3f333d6921b8156d95c5f8e13274"), looks := true }, kinds := [], alts := [], laidByText := true, laidKinds := [.data, .data, .data, .data, .sentinel, .sentinel, .pinned], laidTests := true, laidLooks := .later }
def AnsiWritesCardSaid : Prop := Claim7.holds Tryd.pinned (.plain (OpenSpec.ofChange ansiWritesSpec)) ansiWritesCard

/-- THE TIED CARD OF 'virgulelaw17.AnsiLeaves'. -/
def ansiLeavesCard : Claim7 := { stood := { row := ansiLeavesRow, standIns := [], harness := (true, "d274df999f3c1f075fd0d2d7b41e1812744a3f333d6921b8156d95c5f8e13274"), looks := true }, kinds := [], alts := [], laidByText := true, laidKinds := [.data, .data, .data, .data, .sentinel, .sentinel, .pinned], laidTests := true, laidLooks := .later }
def AnsiLeavesCardSaid : Prop := Claim7.holds Tryd.pinned (.plain (OpenSpec.ofChange ansiLeavesSpec)) ansiLeavesCard

/-- THE SECOND FORM's CARD OF 'virgulelaw17.AnsiReads'. -/
def ansiReadsUptoCard : Claim7 := { stood := { row := ansiReadsUptoRow, standIns := [], harness := (true, "d274df999f3c1f075fd0d2d7b41e1812744a3f333d6921b8156d95c5f8e13274"), looks := true }, kinds := [], alts := [], laidByText := true, laidKinds := [.data, .data, .data, .data, .sentinel, .sentinel, .pinned], laidTests := true, laidLooks := .later }
def AnsiReadsUptoCardSaid : Prop := Claim7.holds Tryd.pinned (.plain (OpenSpec.upto ansiReadsSpec)) ansiReadsUptoCard

/-- THE SECOND FORM's CARD OF 'virgulelaw17.AnsiGrows'. -/
def ansiGrowsUptoCard : Claim7 := { stood := { row := ansiGrowsUptoRow, standIns := [], harness := (true, "d274df999f3c1f075fd0d2d7b41e1812744a3f333d6921b8156d95c5f8e13274"), looks := true }, kinds := [], alts := [], laidByText := true, laidKinds := [.data, .data, .data, .data, .sentinel, .sentinel, .pinned], laidTests := true, laidLooks := .later }
def AnsiGrowsUptoCardSaid : Prop := Claim7.holds Tryd.pinned (.plain (OpenSpec.upto ansiGrowsSpec)) ansiGrowsUptoCard

/-- THE SECOND FORM's CARD OF 'virgulelaw17.AnsiStrips'. -/
def ansiStripsUptoCard : Claim7 := { stood := { row := ansiStripsUptoRow, standIns := [], harness := (true, "d274df999f3c1f075fd0d2d7b41e1812744a3f333d6921b8156d95c5f8e13274"), looks := true }, kinds := [], alts := [], laidByText := true, laidKinds := [.data, .data, .data, .data, .sentinel, .sentinel, .pinned], laidTests := true, laidLooks := .later }
def AnsiStripsUptoCardSaid : Prop := Claim7.holds Tryd.pinned (.plain (OpenSpec.upto ansiStripsSpec)) ansiStripsUptoCard

/-- THE SECOND FORM's CARD OF 'virgulelaw17.AnsiWrites'. -/
def ansiWritesUptoCard : Claim7 := { stood := { row := ansiWritesUptoRow, standIns := [], harness := (true, "d274df999f3c1f075fd0d2d7b41e1812744a3f333d6921b8156d95c5f8e13274"), looks := true }, kinds := [], alts := [], laidByText := true, laidKinds := [.data, .data, .data, .data, .sentinel, .sentinel, .pinned], laidTests := true, laidLooks := .later }
def AnsiWritesUptoCardSaid : Prop := Claim7.holds Tryd.pinned (.plain (OpenSpec.upto ansiWritesSpec)) ansiWritesUptoCard

/-- THE SECOND FORM's CARD OF 'virgulelaw17.AnsiLeaves'. -/
def ansiLeavesUptoCard : Claim7 := { stood := { row := ansiLeavesUptoRow, standIns := [], harness := (true, "d274df999f3c1f075fd0d2d7b41e1812744a3f333d6921b8156d95c5f8e13274"), looks := true }, kinds := [], alts := [], laidByText := true, laidKinds := [.data, .data, .data, .data, .sentinel, .sentinel, .pinned], laidTests := true, laidLooks := .later }
def AnsiLeavesUptoCardSaid : Prop := Claim7.holds Tryd.pinned (.plain (OpenSpec.upto ansiLeavesSpec)) ansiLeavesUptoCard
end Rows
end Go.Proofs.YtlopigkaibkblaaDoor
