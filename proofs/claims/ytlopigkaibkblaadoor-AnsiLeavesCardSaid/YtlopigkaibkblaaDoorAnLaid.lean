/- Chapter 17: of what is laid: the variable of syntax errors holds a pointer. -/
import Derived.Test.YtlopigkaibkblaaDoorRows
import Derived.Test.YtlopigkaibkblaaDoorAnShelf
import Derived.Stop.LaidErr
import Derived.LaidMore
import Derived.KernelRfl
namespace Go.Proofs.YtlopigkaibkblaaDoor
set_option linter.unusedVariables false
theorem starE : ("*errors.errorString" : String) = "*" ++ "errors.errorString" := by decide
theorem rowE (u : TypeId) (h : Tryd.prog.typeName? 3 u = some "*errors.errorString") : u = 120 :=
  typeName_ptr_named (P := Tryd.prog) (nm := "errors.errorString") (by rw [← starE]; kernel_rfl) (by kernel_rfl) (by decide) u (by rw [← starE]; exact h)
theorem err_of_laid {W : World} (h : laidMetH Tryd.prog Rows.ansiGrowsRow.laid W) : ∃ pe, W.cell? ⟨Tryd.laysC172_ren.g 15, 0, none⟩ = some (.iface 120 pe) := by
  rw [MakeChecks.laidMetH_plain _ _ _ (by kernel_rfl)] at h
  have h1 := h.tail.tail.tail.tail.tail
  obtain ⟨a, s, hv, _⟩ := laid_sentinel h1 (show Tryd.prog.globalNamed "strconv.ErrSyntax" = some (Tryd.laysC172_ren.g 15) by kernel_rfl) (show (Tryd.prog.globals[Tryd.laysC172_ren.g 15]?).map (·.type) = some 56 by kernel_rfl) Tryd.underlying56 rowE Tryd.underlying120 Tryd.underlying122 rfl rfl Tryd.underlying9 (by kernel_rfl) (by kernel_rfl)
  have := World.var?_cell (show Tryd.prog.globalNamed "strconv.ErrSyntax" = some (Tryd.laysC172_ren.g 15) by kernel_rfl) hv 0
  exact ⟨_, by simpa using this⟩
end Go.Proofs.YtlopigkaibkblaaDoor
