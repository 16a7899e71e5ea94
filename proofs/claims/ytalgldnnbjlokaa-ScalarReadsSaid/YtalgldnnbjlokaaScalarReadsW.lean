/- The walk of the law ScalarReads. -/
import Derived.Test.YtalgldnnbjlokaaProg
import Derived.Test.YtalgldnnbjlokaaAwake01
import Derived.Test.YtalgldnnbjlokaaAt
import Derived.Test.YtalgldnnbjlokaaScalRef
import Derived.Test.YtalgldnnbjlokaaOpen
import Derived.Test.YtalgldnnbjlokaaOpenSB
namespace Go.Proofs.Ytalgldnnbjlokaa.scalarReads
open Go.RowKit
open Go.Lib (hid)
set_option linter.unusedVariables false

set_option maxHeartbeats 4000000 in
theorem walk (b : Option Addr) (bLen bCap : Nat) (bD : List Int) (i : Int) (w : World) (w0 : IsRow .u8 w b bLen bCap bD) (w1 : (Lit.int .i64 i).wf = true) :
    Calls Try.prog 3 #[.slice b bLen bCap, .int .i64 i] w fun e w' => e = .returned (.bool true) ∧ Below w.heap.size w w' := by
  clear w1
  obtain ⟨zs, rfl, hs⟩ := sb_of w0
  clear w0
  have hcap := hs.2.1
  by_cases hbig : 300 < zs.length
  · have hbig' : (300 : Int) < (zs.length : Int) := by omega
    clear hs
    go_enter Try.func3, Try.ntmps3
    go_wp2_with (go_at_call 7; refine (awake01_any _).mono ?_; rintro e w3 ⟨rfl, hb3⟩)
    go_ret
    exact ⟨rfl, by assumption⟩
  · have hbig' : ¬ (300 : Int) < (zs.length : Int) := by omega
    have HS := hid hs
    have h1 := next_any b bCap zs i w hs
    have H1 := hid h1
    have hl0 := hs.1
    clear h1 hs
    by_cases hout : i < 0 ∨ (zs.length : Int) ≤ i
    · have hra : readAt zs i = (0, 0, false) := by rw [readAt, if_neg (by omega)]
      rw [hra] at H1
      clear hra
      rcases hout with h | h
      all_goals
        go_enter Try.func3, Try.ntmps3
        go_wp2_with (first
          | (go_at_call 8; refine H1.out.mono ?_; rintro e w' ⟨rfl, q, rfl⟩)
          | (go_at_call 7; refine (awake01_any _).mono ?_; rintro e w3 ⟨rfl, hb3⟩))
        go_ret
        exact ⟨rfl, (below_drewN _ _ _).trans (by assumption)⟩
    · obtain ⟨k, rfl⟩ := Int.eq_ofNat_of_zero_le (by omega : 0 ≤ i)
      have hk : k < zs.length := by omega
      have hra : readAt zs k = readF (zs.drop k) := by rw [readAt, if_pos (by omega), Int.toNat_natCast]
      have hat : ∀ W, Below w.heap.size w W → _ := fun W hW => at_any b bCap zs k W (HS.out.below hW (Nat.le_refl _)) hk
      rw [atF_eq _ (by simp; omega) (HS.out.2.2.1.drop k)] at hat
      rw [hra] at H1
      clear hra
      have HAT := hid hat
      clear hat
      generalize readF (zs.drop k) = p at *
      obtain ⟨r, n, whole⟩ := p
      simp only at H1 HAT
      have hk' : ¬ (zs.length : Int) ≤ (k : Int) := by omega
      clear hout
      go_enter Try.func3, Try.ntmps3
      go_wp2_with fail
      refine H1.out.mono ?_
      rintro e w' ⟨rfl, q, rfl⟩
      go_wp2_with fail
      refine (HAT.out _ (below_drewN _ _ _)).mono ?_
      rintro e w2 ⟨rfl, hb2⟩
      have HB2 := hid ((below_drewN w.heap.size w q).trans hb2)
      clear hb2
      go_wp2_with fail
      refine (awake01_any _).mono ?_
      rintro e w3 ⟨rfl, hb3⟩
      have hsz := HB2.out.size
      have HB3 := hid ((HB2.out.alloc hsz _).trans (hb3.mono (by simp; omega)))
      clear hb3
      go_wp2_with fail
      go_ret
      exact ⟨rfl, HB3.out⟩
end Go.Proofs.Ytalgldnnbjlokaa.scalarReads
