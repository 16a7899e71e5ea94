/- The walk of the law ScalarParses. -/
import Derived.Test.YtbkjanlkklmleaaDoorScA
import Derived.Test.YtbkjanlkklmleaaDoorAwake01
namespace Go.Proofs.YtbkjanlkklmleaaDoor.scalarParses
open Go.RowKit
open Go.Lib Hx
set_option linter.unusedVariables false
set_option maxRecDepth 100000

theorem prB_two {v y : Int} {s : ByteArray} (h1 : s = prB v) (h2 : s = prB y) : v = y := prB_inj (h1.symm.trans h2)
set_option maxHeartbeats 2000000 in
theorem walk (s : ByteArray) (w : World) (w0 : s.size ≤ maxLen) (hdb : Db w) (hev : ErrV w) :
    Calls Tryd.prog 3 #[.string s] w fun e w' => e = .returned (.bool true) ∧ Below w.heap.size w w' := by
  have hs : (s.size : Int) ≤ 9223372036854775807 := by unfold maxLen at w0; omega
  have HAW := hid (fun W => awake01_any W)
  by_cases h100 : 100 < s.size
  · have h100' : 100 < (s.size : Int) := by omega
    clear w0 hdb hev
    go_enter Tryd.func3, Tryd.ntmps3
    go_wp2_with fail
    refine (HAW.out _).mono ?_
    rintro e w2 ⟨rfl, hb2⟩
    have HB2 := hid hb2
    clear hb2
    go_wp2_with fail
    go_ret
    exact ⟨rfl, HB2.out⟩
  · have h100' : ¬ 100 < (s.size : Int) := by omega
    have HPA := hid (scparse_any s (by omega) w hev hdb)
    have HRP := hid (fun W => refparse_any s (by omega) W)
    clear w0 hdb hev h100
    go_enter Tryd.func3, Tryd.ntmps3
    go_wp2_with fail
    refine HPA.out.mono ?_
    rintro e w2 ⟨⟨v, er, rfl, hp⟩, hb2⟩
    have HB2 := hid hb2
    have HP := hid hp
    clear hb2 hp
    go_wp2_with fail
    refine (HRP.out _).mono ?_
    rintro e w3 ⟨⟨y, rfl, hy⟩, hw3⟩
    obtain rfl : w2 = w3 := hw3.symm
    rcases hy with ⟨hr, hsy⟩ | ⟨rfl, hno⟩
    · have hy0 : ¬ y < 0 := by have := scR_bd hr; omega
      rcases HP.out with ⟨_, hsv, he⟩ | ⟨_, _, hno⟩
      · obtain rfl := prB_two hsv hsy
        subst he
        have hbb : (v == v) = true := by simp
        clear hsy hsv hr
        go_wp2_with fail
        refine (HAW.out _).mono ?_
        rintro e w4 ⟨rfl, hb4⟩
        have HB4 := hid (HB2.out.trans (hb4.mono HB2.out.size))
        clear hb4
        go_wp2_with fail
        go_ret
        exact ⟨rfl, HB4.out⟩
      · exact absurd hsy (hno y hr)
    · rcases HP.out with ⟨hr, hsv, _⟩ | ⟨hv, he, _⟩
      · exact absurd hsv (hno v hr)
      · subst hv he
        clear hno
        go_wp2_with fail
        refine (HAW.out _).mono ?_
        rintro e w4 ⟨rfl, hb4⟩
        have HB4 := hid (HB2.out.trans (hb4.mono HB2.out.size))
        clear hb4
        go_wp2_with fail
        go_ret
        exact ⟨rfl, HB4.out⟩
end Go.Proofs.YtbkjanlkklmleaaDoor.scalarParses
