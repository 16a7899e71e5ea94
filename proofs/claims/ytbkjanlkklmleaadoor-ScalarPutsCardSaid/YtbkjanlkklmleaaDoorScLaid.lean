/- Chapter 01: of what is laid: the table that sixteen reads; the variables of the reader's errors hold errors. -/
import Derived.Test.YtbkjanlkklmleaaDoorRows
import Derived.Test.YtbkjanlkklmleaaDoorScA
import Derived.LaidMore
import Derived.Stop.LaidErr
import Derived.Lib.LaidTab
import Derived.Lib.TrailingZeros
import Derived.KernelRfl
namespace Go.Proofs.YtbkjanlkklmleaaDoor
open Hx
set_option linter.unusedVariables false
def dbTab : List Int := Lib.deBruijn64tab.map fun (n : Nat) => (n : Int)
theorem db_of {W : World} {rest : List (String × DataW Unit)} (h : laidMet Tryd.prog (("math/bits.deBruijn64tab", Lib.tabData .u8 dbTab) :: rest) W) : Db W := by
  have ht := Lib.tabIs_of_head (g := 8) (t := 126) (e := 5) (n := 64) (by kernel_rfl) (by kernel_rfl) Tryd.underlying126 Tryd.underlying5 (by kernel_rfl) (by kernel_rfl) h
  have := ht.cell (g := 8) (by kernel_rfl) 15 (by decide)
  exact this
theorem starE : ("*errors.errorString" : String) = "*" ++ "errors.errorString" := by decide
theorem rowE (u : TypeId) (h : Tryd.prog.typeName? 3 u = some "*errors.errorString") : u = 114 :=
  typeName_ptr_named (P := Tryd.prog) (nm := "errors.errorString") (by rw [← starE]; kernel_rfl) (by kernel_rfl) (by decide) u (by rw [← starE]; exact h)
theorem errs_of {W : World} {x y z : String × DataW Unit} {rest : List (String × DataW Unit)} (h : laidMet Tryd.prog (x :: y :: z :: ("unicode/utf8.acceptRanges", Rows.laid_unicode_utf8_acceptRanges) :: ("strconv.ErrRange", Rows.laid_strconv_ErrRange) :: ("strconv.ErrSyntax", Rows.laid_strconv_ErrSyntax) :: rest) W) : ErrV W := by
  have h1 := h.tail.tail.tail.tail.tail
  have h2 := h.tail.tail.tail.tail
  obtain ⟨a, s, hv, _⟩ := laid_sentinel h1 (show Tryd.prog.globalNamed "strconv.ErrSyntax" = some (Tryd.laysPi245_ren.g 15) by kernel_rfl) (show (Tryd.prog.globals[Tryd.laysPi245_ren.g 15]?).map (·.type) = some 37 by kernel_rfl) Tryd.underlying37 rowE Tryd.underlying114 Tryd.underlying116 rfl rfl Tryd.underlying9 (by kernel_rfl) (by kernel_rfl)
  obtain ⟨a2, s2, hv2, _⟩ := laid_sentinel h2 (show Tryd.prog.globalNamed "strconv.ErrRange" = some (Tryd.laysPi245_ren.g 16) by kernel_rfl) (show (Tryd.prog.globals[Tryd.laysPi245_ren.g 16]?).map (·.type) = some 37 by kernel_rfl) Tryd.underlying37 rowE Tryd.underlying114 Tryd.underlying116 rfl rfl Tryd.underlying9 (by kernel_rfl) (by kernel_rfl)
  have c1 := World.var?_cell (show Tryd.prog.globalNamed "strconv.ErrSyntax" = some (Tryd.laysPi245_ren.g 15) by kernel_rfl) hv 0
  have c2 := World.var?_cell (show Tryd.prog.globalNamed "strconv.ErrRange" = some (Tryd.laysPi245_ren.g 16) by kernel_rfl) hv2 0
  exact ⟨⟨_, _, by simpa using c1⟩, _, _, by simpa using c2⟩
theorem laid_parses {W : World} (h : laidMetH Tryd.prog Rows.scalarParsesRow.laid W) : Db W ∧ ErrV W := by
  rw [MakeChecks.laidMetH_plain _ _ _ (by kernel_rfl)] at h
  exact ⟨db_of h.tail, errs_of h⟩
theorem laid_puts {W : World} (h : laidMetH Tryd.prog Rows.scalarPutsRow.laid W) : Db W ∧ ErrV W := by
  rw [MakeChecks.laidMetH_plain _ _ _ (by kernel_rfl)] at h
  exact ⟨db_of h.tail, errs_of h⟩
end Go.Proofs.YtbkjanlkklmleaaDoor
