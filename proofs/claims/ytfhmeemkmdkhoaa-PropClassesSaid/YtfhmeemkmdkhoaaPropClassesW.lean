/- The walk of the law PropClasses. -/
import Derived.Test.YtfhmeemkmdkhoaaProg
import Derived.Test.YtfhmeemkmdkhoaaNames2
namespace Go.Proofs.Ytfhmeemkmdkhoaa.propClasses
open Go.RowKit
open Go.Lib
set_option linter.unusedVariables false

theorem walk (r : Int) (w : World) (w0 : (Lit.int .i32 r).wf = true) :
    Calls Try.prog 6 #[.int .i32 r] w fun e w' => e = .returned (.bool true) ∧ Below w.heap.size w w' := by
  clear w0
  have h1 := class_any r
  rw [cls_eq] at h1
  have H1 := Lib.hid h1
  clear h1
  go_enter Try.func6, Try.ntmps6
  go_wp2_with fail
  refine (H1.out _).mono ?_
  rintro e w1 ⟨rfl, hb1⟩
  have HB1 := Lib.hid hb1
  clear hb1
  go_wp2_with fail
  refine (refclass_any _ _).mono ?_
  rintro e w2 ⟨rfl, hb2⟩
  have HB2 := Lib.hid hb2
  clear hb2
  go_wp2_with fail
  refine (awake04_any _).mono ?_
  rintro e w3 ⟨rfl, hb3⟩
  have HB3 := Lib.hid hb3
  clear hb3
  go_wp2
  go_ret
  have s1 := HB1.out.size
  have s2 := HB2.out.size
  exact ⟨rfl, (HB1.out.trans (HB2.out.mono (by omega))).trans (HB3.out.mono (by omega))⟩
end Go.Proofs.Ytfhmeemkmdkhoaa.propClasses
