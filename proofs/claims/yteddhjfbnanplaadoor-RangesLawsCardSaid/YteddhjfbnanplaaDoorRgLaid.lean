/- Chapter 02: of what is laid: the table that sixteen reads. -/
import Derived.Test.YteddhjfbnanplaaDoorRows
import Derived.Test.YteddhjfbnanplaaDoorHxQ
import Derived.LaidMore
import Derived.Stop.LaidErr
import Derived.Lib.LaidTab
import Derived.Lib.TrailingZeros
import Derived.KernelRfl
namespace Go.Proofs.YteddhjfbnanplaaDoor
set_option linter.unusedVariables false
def dbTab : List Int := Lib.deBruijn64tab.map fun (n : Nat) => (n : Int)
theorem db_of {W : World} {rest : List (String × DataW Unit)} (h : laidMet Tryd.prog (("math/bits.deBruijn64tab", Lib.tabData .u8 dbTab) :: rest) W) : Db W := by
  have ht := Lib.tabIs_of_head (g := 3) (t := 126) (e := 5) (n := 64) (by kernel_rfl) (by kernel_rfl) Tryd.underlying126 Tryd.underlying5 (by kernel_rfl) (by kernel_rfl) h
  have := ht.cell (g := 3) (by kernel_rfl) 15 (by decide)
  exact this
theorem db_of_make {W : World} (h : laidMetH Tryd.prog Rows.rangesMakeRow.laid W) : Db W := by
  rw [MakeChecks.laidMetH_plain _ _ _ (by kernel_rfl)] at h
  exact db_of h.tail
theorem db_of_many {W : World} (h : laidMetH Tryd.prog Rows.rangesManyRow.laid W) : Db W := by
  rw [MakeChecks.laidMetH_plain _ _ _ (by kernel_rfl)] at h
  exact db_of h.tail
theorem db_of_join {W : World} (h : laidMetH Tryd.prog Rows.rangesJoinRow.laid W) : Db W := by
  rw [MakeChecks.laidMetH_plain _ _ _ (by kernel_rfl)] at h
  exact db_of h.tail
theorem db_of_laws {W : World} (h : laidMetH Tryd.prog Rows.rangesLawsRow.laid W) : Db W := by
  rw [MakeChecks.laidMetH_plain _ _ _ (by kernel_rfl)] at h
  exact db_of h.tail
end Go.Proofs.YteddhjfbnanplaaDoor
