/- Chapter 17: of what is laid: the table of powers of ten. -/
import Derived.Test.YtlopigkaibkblaaDoorAnLaid
import Derived.Test.YtlopigkaibkblaaDoorAnW2
namespace Go.Proofs.YtlopigkaibkblaaDoor
set_option linter.unusedVariables false
theorem tab_of_laid {W : World} (h : laidMetH Tryd.prog Rows.ansiWritesRow.laid W) : Tab W := by
  rw [MakeChecks.laidMetH_plain _ _ _ (by kernel_rfl)] at h
  have h1 := h.tail.tail
  exact Lib.tabIs_of_head (g := Tryd.laysM171_ren.g 17) (t := 107) (e := 89) (n := 20) (by kernel_rfl) (by kernel_rfl) Tryd.underlying107 Tryd.underlying89 (by kernel_rfl) (by kernel_rfl) h1
end Go.Proofs.YtlopigkaibkblaaDoor
