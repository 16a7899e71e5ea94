/- Walk of the document's Class. -/
import Derived.Test.YtfhmeemkmdkhoaaProg
import Derived.Test.YtfhmeemkmdkhoaaIn
import Derived.Test.YtfhmeemkmdkhoaaCls
namespace Go.Proofs.Ytfhmeemkmdkhoaa
open Go.RowKit
open Go.Lib

theorem refLen : ((List.range 36).all fun c => decide ((refList c).length < 100)) = true := by decide +kernel
theorem refLen_lt (c : Nat) (h : c < 36) : (refList c).length < 100 := by
  have := refLen
  rw [List.all_eq_true] at this
  simpa using this c (by simpa using h)

theorem refFrom_yes {r : Int} {n c : Nat} (h : inB (refList c) r = true) : refFrom r (n + 1) c = c := by
  show (if _ then _ else _) = _
  rw [if_pos h]
theorem refFrom_no {r : Int} {n c : Nat} (h : inB (refList c) r = false) : refFrom r (n + 1) c = refFrom r n (c + 1) := by
  show (if _ then _ else _) = _
  rw [if_neg (by simp [h])]

set_option maxHeartbeats 1000000 in
theorem refclass_any (r : Int) (w : World) : Calls Try.prog 14 #[.int .i32 r] w fun e w' => e = .returned (.int .i64 (refCls r)) ∧ Below w.heap.size w w' := by
  by_cases hh : hanB r = true
  · have hb : 44032 ≤ r ∧ r ≤ 55203 := by simpa [hanB] using hh
    obtain ⟨hb1, hb2⟩ := hb
    have HH := Lib.hid hh
    clear hh
    by_cases hm : (r - 44032) % 28 = 0
    · have HM := Lib.hid hm
      have hm1 : ((r - 44032) % 28 == 0) = true := by simpa using hm
      clear hm
      go_enter Try.func14, Try.ntmps14
      go_wp2
      go_ret
      exact ⟨ret_int (by rw [refCls, if_pos HH.out, if_pos HM.out]), Below.refl _ _⟩
    · have HM := Lib.hid hm
      have hm1 : ((r - 44032) % 28 == 0) = false := by simpa using hm
      clear hm
      go_enter Try.func14, Try.ntmps14
      go_wp2
      go_ret
      exact ⟨ret_int (by rw [refCls, if_pos HH.out, if_neg HM.out]), Below.refl _ _⟩
  · have hh : hanB r = false := by simpa using hh
    have HH := Lib.hid hh
    have hcls : refCls r = refFrom r 35 1 := by rw [refCls, hh]; rfl
    have HC := Lib.hid hcls
    clear hcls
    have hor : r < 44032 ∨ 55203 < r := by
      simp [hanB] at hh
      omega
    clear hh
    rcases hor with h1 | h1
    case' inl => have hd1 : decide (44032 ≤ r) = false := by simp; omega
    case' inr =>
      have hd0 : decide (44032 ≤ r) = true := by simp; omega
      have hd1 : decide (r ≤ 55203) = false := by simp; omega
    all_goals
      go_enter Try.func14, Try.ntmps14
      go_wp2
      go_loopw [3] (fun i wr => ∃ c : Nat, 1 ≤ c ∧ c ≤ 36 ∧ i = .int .i64 c ∧ Hid (refCls r = refFrom r (36 - c) c) ∧ Below w.heap.size w wr) (fun i _ => 36 - (RowKit.intOf i).toNat)
      case atStart => exact ⟨1, by omega, by omega, rfl, HC, Below.refl _ _⟩
      case round =>
        obtain ⟨c, hc1, hc2, rfl, HR, hB⟩ := hrel
        have HB := Lib.hid hB
        have hsz := hB.size
        clear hB HC
        by_cases hlt : c ≤ 35
        · have hc1' : (1 : Int) ≤ (c : Int) := by omega
          have hc2' : (c : Int) ≤ 35 := by omega
          go_wp2_with fail
          refine (reflist_any (c : Int) (by omega) (by omega) _).mono ?_
          rintro e w1 ⟨v, rfl, hv, hb⟩
          rw [Int.toNat_natCast] at hv
          have HV := Lib.hid hv
          have HB1 := Lib.hid hb
          have hs1 := hb.size
          clear hv hb
          cases hin : inB (refList c) r
          · go_wp2_with (go_at_call 29; refine (refin_any v (refList c) r _ _ (refLen_lt c (by omega)) HV.out).mono ?_; rw [hin]; rintro e w2 ⟨rfl, hb2⟩)
            have HB2 := Lib.hid hb2
            clear hb2
            go_roundw
            case rel => exact ⟨c + 1, by omega, by omega, by go_num, by
              show refCls r = _
              rw [HR.out, show 36 - c = (36 - (c + 1)) + 1 by omega, refFrom_no hin], (HB.out.trans (HB1.out.mono (by omega))).trans (HB2.out.mono (by omega))⟩
            case measure => simp [RowKit.intOf]; omega
          · go_wp2_with (go_at_call 29; refine (refin_any v (refList c) r _ _ (refLen_lt c (by omega)) HV.out).mono ?_; rw [hin]; rintro e w2 ⟨rfl, hb2⟩)
            have HB2 := Lib.hid hb2
            clear hb2
            go_ret
            exact ⟨ret_int (by rw [HR.out, show 36 - c = (36 - (c + 1)) + 1 by omega, refFrom_yes hin]), (HB.out.trans (HB1.out.mono (by omega))).trans (HB2.out.mono (by omega))⟩
        · obtain rfl : c = 36 := by omega
          go_wp2
          go_ret
          exact ⟨ret_int (by rw [HR.out]; rfl), HB.out⟩
end Go.Proofs.Ytfhmeemkmdkhoaa
