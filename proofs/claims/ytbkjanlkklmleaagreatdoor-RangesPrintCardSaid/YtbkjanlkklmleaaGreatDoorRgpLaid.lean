/- Chapter 02: of what is laid: the table that sixteen reads; the variables of the reader's errors hold errors. -/
import Derived.Test.YtbkjanlkklmleaaGreatDoorRows
import Derived.Test.YtbkjanlkklmleaaGreatDoorRgL
import Derived.LaidMore
import Derived.Stop.LaidErr
import Derived.Lib.LaidTab
import Derived.Lib.TrailingZeros
import Derived.KernelRfl
namespace Go.Proofs.YtbkjanlkklmleaaGreatDoor
set_option linter.unusedVariables false
def dbTab : List Int := Lib.deBruijn64tab.map fun (n : Nat) => (n : Int)
theorem db_of {W : World} {rest : List (String × DataW Unit)} (h : laidMet Tryz.prog (("math/bits.deBruijn64tab", Lib.tabData .u8 dbTab) :: rest) W) : Db W := by
  have ht := Lib.tabIs_of_head (g := 7) (t := 147) (e := 5) (n := 64) (by kernel_rfl) (by kernel_rfl) Tryz.underlying147 Tryz.underlying5 (by kernel_rfl) (by kernel_rfl) h
  have := ht.cell (g := 7) (by kernel_rfl) 15 (by decide)
  exact this
theorem starE : ("*errors.errorString" : String) = "*" ++ "errors.errorString" := by decide
theorem rowE (u : TypeId) (h : Tryz.prog.typeName? 3 u = some "*errors.errorString") : u = 140 :=
  typeName_ptr_named (P := Tryz.prog) (nm := "errors.errorString") (by rw [← starE]; kernel_rfl) (by kernel_rfl) (by decide) u (by rw [← starE]; exact h)
theorem errs_of {W : World} {x y z : String × DataW Unit} {rest : List (String × DataW Unit)} (h : laidMet Tryz.prog (x :: y :: z :: ("unicode/utf8.acceptRanges", Rows.laid_unicode_utf8_acceptRanges) :: ("strconv.ErrRange", Rows.laid_strconv_ErrRange) :: ("strconv.ErrSyntax", Rows.laid_strconv_ErrSyntax) :: rest) W) : ErrV W := by
  have h1 := h.tail.tail.tail.tail.tail
  have h2 := h.tail.tail.tail.tail
  obtain ⟨a, s, hv, _⟩ := laid_sentinel h1 (show Tryz.prog.globalNamed "strconv.ErrSyntax" = some (Tryz.laysPi245_ren.g 15) by kernel_rfl) (show (Tryz.prog.globals[Tryz.laysPi245_ren.g 15]?).map (·.type) = some 62 by kernel_rfl) Tryz.underlying62 rowE Tryz.underlying140 Tryz.underlying142 rfl rfl Tryz.underlying9 (by kernel_rfl) (by kernel_rfl)
  obtain ⟨a2, s2, hv2, _⟩ := laid_sentinel h2 (show Tryz.prog.globalNamed "strconv.ErrRange" = some (Tryz.laysPi245_ren.g 16) by kernel_rfl) (show (Tryz.prog.globals[Tryz.laysPi245_ren.g 16]?).map (·.type) = some 62 by kernel_rfl) Tryz.underlying62 rowE Tryz.underlying140 Tryz.underlying142 rfl rfl Tryz.underlying9 (by kernel_rfl) (by kernel_rfl)
  have c1 := World.var?_cell (show Tryz.prog.globalNamed "strconv.ErrSyntax" = some (Tryz.laysPi245_ren.g 15) by kernel_rfl) hv 0
  have c2 := World.var?_cell (show Tryz.prog.globalNamed "strconv.ErrRange" = some (Tryz.laysPi245_ren.g 16) by kernel_rfl) hv2 0
  exact ⟨⟨_, _, by simpa using c1⟩, _, _, by simpa using c2⟩
theorem laid_print {W : World} (h : laidMetH Tryz.prog Rows.rangesPrintRow.laid W) : Db W ∧ ErrV W := by
  rw [MakeChecks.laidMetH_plain _ _ _ (by kernel_rfl)] at h
  exact ⟨db_of h.tail, errs_of h⟩
end Go.Proofs.YtbkjanlkklmleaaGreatDoor
