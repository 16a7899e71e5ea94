/- Chapter 20: of what is laid: the table that sixteen reads, the table of powers of ten; the bound of bytes.Index. -/
import Derived.Test.YtpnbkecchfhimaaGreatDoorRows
import Derived.Test.YtpnbkecchfhimaaGreatDoorFdH
import Derived.LaidMore
import Derived.Stop.LaidErr
import Derived.Lib.LaidTab
import Derived.Lib.TrailingZeros
import Derived.KernelRfl
namespace Go.Proofs.YtpnbkecchfhimaaGreatDoor
set_option linter.unusedVariables false
def dbTab19 : List Int := Lib.deBruijn64tab.map fun (n : Nat) => (n : Int)
def Tab19 (w : World) : Prop := Lib.TabIs Tryz.prog w "internal/strconv.uint64pow10" .u64 Lib.pow10Tab
theorem db_of19 {W : World} {rest : List (String × DataW Unit)} (h : laidMet Tryz.prog (("math/bits.deBruijn64tab", Lib.tabData .u8 dbTab19) :: rest) W) : Hx.Db W := by
  have ht := Lib.tabIs_of_head (g := 8) (t := 339) (e := 5) (n := 64) (by kernel_rfl) (by kernel_rfl) Tryz.underlying339 Tryz.underlying5 (by kernel_rfl) (by kernel_rfl) h
  have := ht.cell (g := 8) (by kernel_rfl) 15 (by decide)
  exact this
theorem tab_of19 {W : World} {rest : List (String × DataW Unit)} (h : laidMet Tryz.prog (("internal/strconv.uint64pow10", Lib.tabData .u64 Lib.pow10Tab) :: rest) W) : Tab19 W :=
  Lib.tabIs_of_head (g := 1) (t := 283) (e := 181) (n := 20) (by kernel_rfl) (by kernel_rfl) Tryz.underlying283 Tryz.underlying181 (by kernel_rfl) (by kernel_rfl) h
theorem mx_of {W : World} (h : W.ShapedOpen Tryz.prog) : Mx W := by
  obtain ⟨m, hml⟩ := Tryz.laysM185.s1_3 W h
  exact ⟨m, hml⟩
theorem db_feedHolds {W : World} (h : laidMetH Tryz.prog Rows.feedHoldsRow.laid W) : Hx.Db W := by
  rw [MakeChecks.laidMetH_plain _ _ _ (by kernel_rfl)] at h
  exact db_of19 h.tail
theorem db_feedPieces {W : World} (h : laidMetH Tryz.prog Rows.feedPiecesRow.laid W) : Hx.Db W := by
  rw [MakeChecks.laidMetH_plain _ _ _ (by kernel_rfl)] at h
  exact db_of19 h.tail
theorem db_feedPlays {W : World} (h : laidMetH Tryz.prog Rows.feedPlaysRow.laid W) : Hx.Db W := by
  rw [MakeChecks.laidMetH_plain _ _ _ (by kernel_rfl)] at h
  exact db_of19 h.tail
theorem db_feedNone {W : World} (h : laidMetH Tryz.prog Rows.feedNoneRow.laid W) : Hx.Db W := by
  rw [MakeChecks.laidMetH_plain _ _ _ (by kernel_rfl)] at h
  exact db_of19 h.tail
end Go.Proofs.YtpnbkecchfhimaaGreatDoor
