/- Chapter 30: of what is laid: the table of blanks; the powers of ten; the bound of bytes.Index. -/
import Derived.Test.YtpnbkecchfhimaaGreatDoorFdM4
import Derived.Test.YtpnbkecchfhimaaGreatDoorElM1
import Derived.Lib.AppendIntMem
namespace Go.Proofs.YtpnbkecchfhimaaGreatDoor
open Go.RowKit Go.Shelf
set_option linter.unusedVariables false
set_option maxRecDepth 100000
theorem tabSp_of {W : World} {rest : List (String × DataW Unit)} (h : laidMet Tryz.prog (("strings.asciiSpace", Lib.tabData .u8 Lib.asciiSpaceTab) :: rest) W) : TabSp W :=
  Lib.tabIs_of_head (g := 3) (t := 244) (e := 5) (n := 256) (by kernel_rfl) (by kernel_rfl) Tryz.underlying244 Tryz.underlying5 (by kernel_rfl) (by kernel_rfl) h
theorem sp_lintRises {W : World} (h : laidMetH Tryz.prog Rows.lintRisesRow.laid W) : TabSp W := by
  rw [MakeChecks.laidMetH_plain _ _ _ (by kernel_rfl)] at h
  exact tabSp_of h.tail.tail.tail.tail.tail.tail
theorem sp_lintPrints {W : World} (h : laidMetH Tryz.prog Rows.lintPrintsRow.laid W) : TabSp W ∧ Tab19 W := by
  rw [MakeChecks.laidMetH_plain _ _ _ (by kernel_rfl)] at h
  exact ⟨tabSp_of h.tail.tail.tail.tail.tail.tail, tab_of19 h.tail.tail⟩
theorem sp_lintPlain {W : World} (h : laidMetH Tryz.prog Rows.lintPlainRow.laid W) : TabSp W := by
  rw [MakeChecks.laidMetH_plain _ _ _ (by kernel_rfl)] at h
  exact tabSp_of h.tail.tail.tail.tail.tail.tail
theorem Tab19.below {w w' : World} {B : Nat} (h : Tab19 w) (hb : Below B w w') (hB : w.heap.size ≤ B) : Tab19 w' := by
  unfold Tab19 Lib.TabIs World.var? at *
  cases hg : Tryz.prog.globalNamed "internal/strconv.uint64pow10" with
  | none => simp [hg] at h
  | some g =>
    simp only [hg, Option.bind_some] at h ⊢
    have hlt : g < w.heap.size := by
      rcases Nat.lt_or_ge g w.heap.size with h' | h'
      · exact h'
      · rw [Array.getElem?_eq_none h'] at h; simp at h
    rw [hb.block g (by omega)]
    exact h
theorem itoa_all (n : Int) (h0 : -9223372036854775808 ≤ n) (h1 : n ≤ 9223372036854775807) (w : World) (ht : Tab19 w) : Calls Tryz.prog 50 #[.int .i64 n] w fun e w' => e = .returned (.string (itoaB n)) ∧ Below w.heap.size w w' := by
  refine (Any.strconv_Itoa (P := Tryz.prog) Tryz.laysHx171 n h0 h1 w ht).mono ?_
  rintro e w' ⟨rfl, k, os, hw⟩
  refine ⟨rfl, ?_⟩
  rw [hw]
  exact Lib.below_grow _ _ (Nat.le_refl _) _ _
end Go.Proofs.YtpnbkecchfhimaaGreatDoor
