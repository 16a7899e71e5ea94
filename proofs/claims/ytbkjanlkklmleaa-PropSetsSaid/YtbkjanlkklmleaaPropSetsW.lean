/- The walk of the law PropSets. -/
import Derived.Test.YtbkjanlkklmleaaPsC
import Derived.Test.YtbkjanlkklmleaaRgE
namespace Go.Proofs.Ytbkjanlkklmleaa.propSets
open Go.RowKit
open Go.Lib
set_option linter.unusedVariables false
set_option maxRecDepth 100000

theorem walk (c : Int) (w : World) (w0 : (Lit.int .i64 c).wf = true) :
    Calls Try.prog 3 #[.int .i64 c] w fun e w' => e = .returned (.bool true) ∧ Below w.heap.size w w' := by
  have hb : -9223372036854775808 ≤ c ∧ c ≤ 9223372036854775807 := by
    simp only [Lit.wf, IntKind.min, IntKind.max, IntKind.signed, IntKind.bits, Bool.and_eq_true] at w0
    simp at w0
    omega
  have HSE := hid (set_any c hb.1 hb.2 w)
  clear w0
  by_cases hc : 0 ≤ c ∧ c < 36
  · obtain ⟨n, rfl⟩ : ∃ n : Nat, c = (n : Int) := ⟨c.toNat, by omega⟩
    have hn : n < 36 := by omega
    have HSI := hid (show setI n = setL n by unfold setI; rw [if_pos hc, Int.toNat_natCast])
    have hn35 : ¬ (35 : Int) < (n : Int) := by omega
    have hn0 : ¬ (n : Int) < 0 := by omega
    have HRS := hid (fun W => refset_any n hn W)
    have HLEN := hid (set_len n hn)
    clear hc hb
    go_enter Try.func3, Try.ntmps3
    go_wp2_with fail
    refine HSE.out.mono ?_
    rintro e w1 ⟨A1, n1, c1, rfl, hr1, hb1⟩
    rw [HSI.out] at hr1
    have HR1 := hid hr1
    have HB1 := hid hb1
    clear hr1 hb1
    go_wp2_with fail
    refine (HRS.out _).mono ?_
    rintro e w2 ⟨A2, n2, c2, rfl, hr2, hb2⟩
    have HR2 := hid hr2
    have HR12 := hid (HR1.out.below hb2 (Nat.le_refl _))
    have HB2 := hid (HB1.out.trans (hb2.mono HB1.out.size))
    have hn2 : n2 ≤ 1000000 := by have := hr2.1; have := HLEN.out; omega
    clear hr2 hb2
    go_wp2_with fail
    refine (is_any A1 n1 c1 (setL n) A2 n2 c2 (setL n) w2 HR12.out HR2.out hn2).mono ?_
    rintro e w3 ⟨rfl, hb3⟩
    have HB3 := hid (HB2.out.trans (hb3.mono HB2.out.size))
    have hsame : sameB (setL n) (setL n) = true := decide_eq_true rfl
    rw [hsame]
    clear hb3 hsame
    go_wp2_with fail
    refine (C4.awake04_any _).mono ?_
    rintro e w4 ⟨rfl, hb4⟩
    have HB4 := hid (HB3.out.trans (hb4.mono HB3.out.size))
    clear hb4
    go_wp2_with fail
    go_ret
    exact ⟨rfl, HB4.out⟩
  · have HSI := hid (show setI c = [] from if_neg hc)
    by_cases hc0 : c < 0
    · clear hc hb
      go_enter Try.func3, Try.ntmps3
      go_wp2_with fail
      refine HSE.out.mono ?_
      rintro e w1 ⟨A1, n1, c1, rfl, hr1, hb1⟩
      rw [HSI.out] at hr1
      have HB1 := hid hb1
      have hn1 := hr1.1
      obtain rfl : n1 = 0 := hn1
      clear hr1 hb1
      go_wp2_with fail
      refine (C4.awake04_any _).mono ?_
      rintro e w4 ⟨rfl, hb4⟩
      have HB4 := hid (HB1.out.trans (hb4.mono HB1.out.size))
      clear hb4
      go_wp2_with fail
      go_ret
      exact ⟨rfl, HB4.out⟩
    · have hc35 : 35 < c := by omega
      clear hc hb
      go_enter Try.func3, Try.ntmps3
      go_wp2_with fail
      refine HSE.out.mono ?_
      rintro e w1 ⟨A1, n1, c1, rfl, hr1, hb1⟩
      rw [HSI.out] at hr1
      have HB1 := hid hb1
      have hn1 := hr1.1
      obtain rfl : n1 = 0 := hn1
      clear hr1 hb1
      go_wp2_with fail
      refine (C4.awake04_any _).mono ?_
      rintro e w4 ⟨rfl, hb4⟩
      have HB4 := hid (HB1.out.trans (hb4.mono HB1.out.size))
      clear hb4
      go_wp2_with fail
      go_ret
      exact ⟨rfl, HB4.out⟩
end Go.Proofs.Ytbkjanlkklmleaa.propSets
