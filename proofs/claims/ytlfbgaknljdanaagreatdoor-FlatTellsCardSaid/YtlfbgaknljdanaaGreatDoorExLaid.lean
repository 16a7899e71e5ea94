/- Chapters 23, 24: of what is laid: the table of blanks; the bound of bytes.Index. -/
import Derived.Test.YtlfbgaknljdanaaGreatDoorRows
import Derived.Test.YtlfbgaknljdanaaGreatDoorElC
import Derived.Test.YtlfbgaknljdanaaGreatDoorTkC
import Derived.LaidMore
import Derived.Stop.LaidErr
import Derived.Lib.LaidTab
import Derived.KernelRfl
namespace Go.Proofs.YtlfbgaknljdanaaGreatDoor
set_option linter.unusedVariables false
set_option maxRecDepth 100000
theorem tabSp_of {W : World} {rest : List (String × DataW Unit)} (h : laidMet Tryz.prog (("strings.asciiSpace", Lib.tabData .u8 Lib.asciiSpaceTab) :: rest) W) : TabSp W :=
  Lib.tabIs_of_head (g := 0) (t := 184) (e := 5) (n := 256) (by kernel_rfl) (by kernel_rfl) Tryz.underlying184 Tryz.underlying5 (by kernel_rfl) (by kernel_rfl) h
theorem mx_of {W : World} (h : W.ShapedOpen Tryz.prog) : Mx W := by
  obtain ⟨m, hml⟩ := Tryz.laysM185.s1_3 W h
  exact ⟨m, hml⟩
theorem sp_extractTakes {W : World} (h : laidMetH Tryz.prog Rows.extractTakesRow.laid W) : TabSp W := by
  rw [MakeChecks.laidMetH_plain _ _ _ (by kernel_rfl)] at h
  exact tabSp_of h.tail.tail.tail.tail.tail.tail
theorem sp_extractAll {W : World} (h : laidMetH Tryz.prog Rows.extractAllRow.laid W) : TabSp W := by
  rw [MakeChecks.laidMetH_plain _ _ _ (by kernel_rfl)] at h
  exact tabSp_of h.tail.tail.tail.tail.tail.tail
theorem sp_extractPlain {W : World} (h : laidMetH Tryz.prog Rows.extractPlainRow.laid W) : TabSp W := by
  rw [MakeChecks.laidMetH_plain _ _ _ (by kernel_rfl)] at h
  exact tabSp_of h.tail.tail.tail.tail.tail.tail
theorem sp_extractRises {W : World} (h : laidMetH Tryz.prog Rows.extractRisesRow.laid W) : TabSp W := by
  rw [MakeChecks.laidMetH_plain _ _ _ (by kernel_rfl)] at h
  exact tabSp_of h.tail.tail.tail.tail.tail.tail
theorem sp_flatPlain {W : World} (h : laidMetH Tryz.prog Rows.flatPlainRow.laid W) : TabSp W := by
  rw [MakeChecks.laidMetH_plain _ _ _ (by kernel_rfl)] at h
  exact tabSp_of h.tail.tail.tail.tail.tail.tail
theorem sp_flatRaw {W : World} (h : laidMetH Tryz.prog Rows.flatRawRow.laid W) : TabSp W := by
  rw [MakeChecks.laidMetH_plain _ _ _ (by kernel_rfl)] at h
  exact tabSp_of h.tail.tail.tail.tail.tail.tail
theorem sp_flatBack {W : World} (h : laidMetH Tryz.prog Rows.flatBackRow.laid W) : TabSp W := by
  rw [MakeChecks.laidMetH_plain _ _ _ (by kernel_rfl)] at h
  exact tabSp_of h.tail.tail.tail.tail.tail.tail
theorem sp_flatTells {W : World} (h : laidMetH Tryz.prog Rows.flatTellsRow.laid W) : TabSp W := by
  rw [MakeChecks.laidMetH_plain _ _ _ (by kernel_rfl)] at h
  exact tabSp_of h.tail.tail.tail.tail.tail.tail
theorem sp_flatNone {W : World} (h : laidMetH Tryz.prog Rows.flatNoneRow.laid W) : TabSp W := by
  rw [MakeChecks.laidMetH_plain _ _ _ (by kernel_rfl)] at h
  exact tabSp_of h.tail.tail.tail.tail.tail.tail
end Go.Proofs.YtlfbgaknljdanaaGreatDoor
