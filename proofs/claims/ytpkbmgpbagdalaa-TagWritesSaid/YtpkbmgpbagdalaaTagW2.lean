/- Chapter 18: the program's plain words: the walk. -/
import Derived.Test.YtpkbmgpbagdalaaTagW1
namespace Go.Proofs.Ytpkbmgpbagdalaa
open Go.RowKit
open Go.Lib (hid)
set_option linter.unusedVariables false

theorem letter_small {c : Int} (h : letterB c = true) (hn : ¬ (65 ≤ c ∧ c ≤ 90)) : 97 ≤ c ∧ c ≤ 122 := by
  unfold letterB at h
  simp only [Bool.or_eq_true, decide_eq_true_eq] at h
  omega
theorem small_letter {c : Int} (h : 97 ≤ c ∧ c ≤ 122) : letterB c = true := by
  unfold letterB
  simp only [Bool.or_eq_true, decide_eq_true_eq]
  omega
theorem plain_of {s : ByteArray} (h0 : 0 < s.size) (h1 : letterB (byt s 0) = true) (h2 : lowerB s = s) (h3 : ∀ i, i < s.size → letterB (byt s i) = true ∨ digitB (byt s i) = true) : PlainP s := by
  refine ⟨h0, fun i hi => ?_⟩
  by_cases hi0 : i = 0
  · subst hi0
    exact .inl (letter_small h1 (low_plain h2 0 hi))
  · rcases h3 i hi with h | h
    · exact .inl (letter_small h (low_plain h2 i hi))
    · unfold digitB at h
      exact .inr ⟨hi0, of_decide_eq_true h⟩
theorem plain_first {s : ByteArray} (h : PlainP s) : letterB (byt s 0) = true := by
  rcases h.2 0 h.1 with h | h
  · exact small_letter h
  · exact absurd rfl h.1
theorem plain_lower {s : ByteArray} (h : PlainP s) : lowerB s = s := plain_low fun i hi => by
  rcases h.2 i hi with h | h <;> omega
theorem plain_each {s : ByteArray} (h : PlainP s) (i : Nat) (hi : i < s.size) : letterB (byt s i) = true ∨ digitB (byt s i) = true := by
  rcases h.2 i hi with h | h
  · exact .inl (small_letter h)
  · right
    unfold digitB
    exact decide_eq_true h.2

set_option maxRecDepth 100000 in
set_option maxHeartbeats 4000000 in
theorem tagplain_any (s : ByteArray) (hs : s.size ≤ 1048576) (w : World) :
    Calls Try.prog 26 #[.string s] w fun e w' => e = .returned (.bool (plainB s)) ∧ Below w.heap.size w w' := by
  by_cases h0 : s.size = 0
  · obtain rfl : s = ⟨#[]⟩ := by
      apply ext_byt h0
      intro i hi
      omega
    have HN := hid (show plainB ⟨#[]⟩ = false from plainB_no fun h => absurd h.1 (by decide))
    clear h0 hs
    go_enter Try.func26, Try.ntmps26
    go_wp2_with fail
    go_ret
    rw [HN.out]
    exact ⟨rfl, Below.refl _ _⟩
  have hpos : 0 < s.size := by omega
  have hne : (s.toList == []) = false := by
    cases he : (s.toList == [])
    · rfl
    · have : s.toList = [] := by simpa using he
      have h2 : s.data.toList = [] := by rw [← Lib.toList_data]; exact this
      exact absurd (show s.size = 0 by show s.data.size = 0; rw [← Array.length_toList, h2]; rfl) h0
  have hne2 : ¬ s.toList = [] := by simpa using hne
  have hne3 : s.toList.isEmpty = false := by simpa [List.isEmpty_iff] using hne2
  have hidx0 : ((s[0].toNat : Nat) : Int) = byt s 0 := by
    have := getB s 0 hpos
    have h0 := byt_nonneg s 0
    omega
  have hl := fun W => letter_any (byt s 0) W
  have hlow := fun W => lower_any s (by omega) W
  have HLOW := hid hlow
  have HP0 := hid (show PlainP s → letterB (byt s 0) = true from plain_first)
  have HP1 := hid (show PlainP s → lowerB s = s from plain_lower)
  have hof := fun h => plain_of (s := s) hpos h
  have HOF := hid hof
  clear h0 hlow hof
  generalize byt s 0 = c0 at *
  cases hlc : letterB c0
  · have HN := hid (plainB_no fun h => by have := HP0.out h; rw [hlc] at this; cases this)
    rw [hlc] at hl
    have HL := hid hl
    clear hl hlc
    go_enter Try.func26, Try.ntmps26
    go_wp2_with fail
    refine (HL.out _).mono ?_
    rintro e w2 ⟨rfl, rfl⟩
    go_wp2_with fail
    go_ret
    rw [HN.out]
    exact ⟨rfl, Below.refl _ _⟩
  rw [hlc] at hl HOF
  have HL := hid hl
  clear hl hlc
  have hss : lowerB s = s ↔ (s.toList == (lowerB s).toList) = true := by
    rw [beq_iff_eq, str_toList_inj]
    exact ⟨fun h => h.symm, fun h => h.symm⟩
  have hlet := fun (i : Nat) W => letter_any (byt s i) W
  have hdig := fun (i : Nat) W => digit_any (byt s i) W
  have HLET := hid hlet
  have HDIG := hid hdig
  clear hlet hdig
  cases hsl : (s.toList == (lowerB s).toList)
  · have HN := hid (plainB_no fun h => by have := hss.1 (HP1.out h); rw [hsl] at this; cases this)
    have hsl2 : (s.toList != (lowerB s).toList) = true := by rw [bne, hsl]; rfl
    have hsl3 : ¬ s.toList = (lowerB s).toList := by simpa using hsl
    generalize lowerB s = ls at *
    clear hss
    go_enter Try.func26, Try.ntmps26
    go_wp2_with fail
    refine (HL.out _).mono ?_
    rintro e w2 ⟨rfl, hw⟩
    obtain rfl : w = w2 := hw.symm
    go_wp2_with fail
    refine (HLOW.out _).mono ?_
    rintro e w2 ⟨rfl, hb⟩
    go_wp2_with fail
    go_ret
    rw [HN.out]
    exact ⟨rfl, hb⟩
  have HEQ := hid (hss.2 hsl)
  have hsl2 : (s.toList != (lowerB s).toList) = false := by rw [bne, hsl]; rfl
  rw [HEQ.out] at HLOW hsl2
  clear hss hsl
  go_enter Try.func26, Try.ntmps26
  go_wp2_with fail
  refine (HL.out _).mono ?_
  rintro e w2 ⟨rfl, hw⟩
  obtain rfl : w = w2 := hw.symm
  go_wp2_with fail
  refine (HLOW.out _).mono ?_
  rintro e w2 ⟨rfl, hb⟩
  have HB := hid hb
  clear hb
  go_wp2_with fail
  go_loopg [20] s.size (fun kx s20 wr => ∃ (i : Nat), s20 = .int .i64 i ∧ i ≤ s.size ∧ s.size - i ≤ kx ∧ wr = w2 ∧ Hid (∀ j, j < i → letterB (byt s j) = true ∨ digitB (byt s j) = true))
  case atStart => exact ⟨0, rfl, Nat.zero_le _, by omega, rfl, fun j h => absurd h (Nat.not_lt_zero _)⟩
  case round =>
    obtain ⟨i, rfl, hi, hk, hw, HA⟩ := hrel
    obtain rfl : w2 = wr := hw.symm
    by_cases hlt : i < s.size
    · have hlt' : (i : Int) < (s.size : Int) := by omega
      have hidx : ((s[i].toNat : Nat) : Int) = byt s i := by
        have := getB s i hlt
        have h0 := byt_nonneg s i
        omega
      have hi1 : (i : Int) + 1 ≤ 9223372036854775807 := by omega
      have hno : ¬ (letterB (byt s i) = true ∨ digitB (byt s i) = true) → ¬ PlainP s := fun h hp => h (plain_each hp i hlt)
      have hyes : (letterB (byt s i) = true ∨ digitB (byt s i) = true) → ∀ j, j < i + 1 → letterB (byt s j) = true ∨ digitB (byt s j) = true := fun h j hj => by
        by_cases e : j = i
        · rw [e]; exact h
        · exact HA.out j (by omega)
      have HNO := hid hno
      have HYES := hid hyes
      have hle := HLET.out i
      have hdi := HDIG.out i
      clear hno hyes hsl2 hidx0 hne hne2 hne3
      generalize byt s i = c at *
      cases hlc : letterB c
      · rw [hlc] at hle
        have HLE := hid hle
        cases hdc : digitB c
        · rw [hdc] at hdi
          have HDI := hid hdi
          have HN := hid (plainB_no (HNO.out (by rw [hlc, hdc]; simp)))
          clear hle hdi hlc hdc
          go_wp2_with fail
          refine (HLE.out _).mono ?_
          rintro e w3 ⟨rfl, hw⟩
          obtain rfl : w2 = w3 := hw.symm
          go_wp2_with fail
          refine (HDI.out _).mono ?_
          rintro e w3 ⟨rfl, hw⟩
          obtain rfl : w2 = w3 := hw.symm
          go_wp2_with fail
          go_ret
          rw [HN.out]
          exact ⟨rfl, HB.out⟩
        · rw [hdc] at hdi
          have HDI := hid hdi
          have HN := hid (HYES.out (.inr hdc))
          clear hle hdi hlc hdc
          go_wp2_with fail
          refine (HLE.out _).mono ?_
          rintro e w3 ⟨rfl, hw⟩
          obtain rfl : w2 = w3 := hw.symm
          go_wp2_with fail
          refine (HDI.out _).mono ?_
          rintro e w3 ⟨rfl, hw⟩
          obtain rfl : w2 = w3 := hw.symm
          go_wp2_with fail
          go_roundg (s.size - (i + 1))
          case measure => omega
          case rel => exact ⟨i + 1, rfl, by omega, Nat.le_refl _, rfl, HN⟩
      · rw [hlc] at hle
        have HLE := hid hle
        have HN := hid (HYES.out (.inl hlc))
        clear hle hdi hlc
        go_wp2_with fail
        refine (HLE.out _).mono ?_
        rintro e w3 ⟨rfl, hw⟩
        obtain rfl : w2 = w3 := hw.symm
        go_wp2_with fail
        go_roundg (s.size - (i + 1))
        case measure => omega
        case rel => exact ⟨i + 1, rfl, by omega, Nat.le_refl _, rfl, HN⟩
    · have hlt' : ¬ (i : Int) < (s.size : Int) := by omega
      have HY := hid (plainB_yes (HOF.out trivial HEQ.out fun j hj => HA.out j (by omega)))
      go_wp2_with fail
      go_ret
      rw [HY.out]
      exact ⟨rfl, HB.out⟩
end Go.Proofs.Ytpkbmgpbagdalaa
