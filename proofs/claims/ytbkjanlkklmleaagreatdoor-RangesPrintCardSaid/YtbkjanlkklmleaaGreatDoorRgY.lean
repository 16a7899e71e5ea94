/- Chapter 02: Not: the walk. -/
import Derived.Test.YtbkjanlkklmleaaGreatDoorRgX
namespace Go.Proofs.YtbkjanlkklmleaaGreatDoor
open Go.RowKit
open Go.Lib (hid)
set_option linter.unusedVariables false
set_option maxRecDepth 100000

theorem notF_fold_len (l : List Rg) (s : List Rg × Int) : (l.foldl notS s).1.length ≤ s.1.length + l.length := by
  induction l generalizing s with
  | nil => exact Nat.le_refl _
  | cons x l ih =>
    rw [List.foldl_cons]
    refine Nat.le_trans (ih _) ?_
    unfold notS
    simp only [List.length_cons]
    split
    · rw [List.length_append, List.length_singleton]; omega
    · omega
end Go.Proofs.YtbkjanlkklmleaaGreatDoor
