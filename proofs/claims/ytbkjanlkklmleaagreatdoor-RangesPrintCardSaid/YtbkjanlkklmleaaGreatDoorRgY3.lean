/- Chapter 02: Minus, Same, Has: the walks. -/
import Derived.Test.YtbkjanlkklmleaaGreatDoorRgY2
import Derived.Test.YtbkjanlkklmleaaGreatDoorRgE
import Derived.Outline
namespace Go.Proofs.YtbkjanlkklmleaaGreatDoor
open Go.RowKit
open Go.Lib (hid)
set_option linter.unusedVariables false
set_option maxRecDepth 100000

theorem in32_of_ok {l : List Rg} (h : ∀ x ∈ l, okR x) : In32 l := fun x hx => by
  obtain ⟨a, b, c⟩ := h x hx
  exact ⟨⟨by omega, by omega⟩, ⟨by omega, by omega⟩⟩
end Go.Proofs.YtbkjanlkklmleaaGreatDoor
