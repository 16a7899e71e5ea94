/- The walk of the law ScalarStarts. -/
import Derived.Test.YtalgldnnbjlokaaProg
import Derived.Test.YtalgldnnbjlokaaAwake01
import Derived.Test.YtalgldnnbjlokaaStart
import Derived.Test.YtalgldnnbjlokaaStarts
import Derived.Test.YtalgldnnbjlokaaOpenSB
namespace Go.Proofs.Ytalgldnnbjlokaa.scalarStarts
open Go.RowKit
open Go.Lib (hid)
set_option linter.unusedVariables false

set_option maxRecDepth 100000 in
set_option maxHeartbeats 8000000 in
theorem walk (b : Option Addr) (bLen bCap : Nat) (bD : List Int) (at_ : Int) (w : World) (w0 : IsRow .u8 w b bLen bCap bD) (w1 : (Lit.int .i64 at_).wf = true) :
    Calls Try.prog 6 #[.slice b bLen bCap, .int .i64 at_] w fun e w' => e = .returned (.bool true) ∧ Below w.heap.size w w' := by
  clear w1
  obtain ⟨zs, rfl, hs⟩ := sb_of w0
  clear w0
  have hcap := hs.2.1
  by_cases hbig : 300 < zs.length
  · have hbig' : (300 : Int) < (zs.length : Int) := by omega
    clear hs
    go_enter Try.func6, Try.ntmps6
    go_wp2_with (go_at_call 7; refine (awake01_any _).mono ?_; rintro e w3 ⟨rfl, hb3⟩)
    go_ret
    exact ⟨rfl, by assumption⟩
  have hbig' : ¬ (300 : Int) < (zs.length : Int) := by omega
  have HS := hid hs
  have hl0 := hs.1
  clear hs
  by_cases hout : ¬ (0 ≤ at_ ∧ at_ < zs.length)
  · have H1 := hid (fun W => start_out b bCap zs at_ W (by omega) hout)
    have hor : at_ < 0 ∨ (0 ≤ at_ ∧ (zs.length : Int) ≤ at_) := by omega
    have HOUT := hid hout
    clear hout
    rcases hor with h | ⟨h, h'⟩
    all_goals
      go_enter Try.func6, Try.ntmps6
      go_wp2_with fail
      refine (awake01_any _).mono ?_
      rintro e w1 ⟨rfl, hb1⟩
      have HB1 := hid hb1
      clear hb1
      go_wp2_with fail
      refine (H1.out _).mono ?_
      rintro e w2 ⟨n, ok, rfl, hst, hb2⟩
      have HB2 := hid (HB1.out.trans (hb2.mono HB1.out.size))
      obtain ⟨rfl, rfl⟩ : n = 0 ∧ ok = false := by
        rcases hst with ⟨_, h1, h2⟩ | ⟨h1, h2, _⟩
        · exact ⟨h1, h2⟩
        · exact absurd ⟨h1, h2⟩ HOUT.out
      clear hb2 hst
      go_wp2_with fail
      go_ret
      exact ⟨rfl, HB2.out⟩
  obtain ⟨k, rfl⟩ := Int.eq_ofNat_of_zero_le (by omega : 0 ≤ at_)
  have hk : k < zs.length := by omega
  have hk' : ¬ (zs.length : Int) ≤ (k : Int) := by omega
  clear hout
  go_enter Try.func6, Try.ntmps6
  go_wp2_with fail
  refine (awake01_any _).mono ?_
  rintro e w1 ⟨rfl, hb1⟩
  have HB1 := hid hb1
  have z1 := hb1.size
  clear hb1
  go_wp2_with fail
  refine (start_in b bCap zs k _ (HS.out.below HB1.out (Nat.le_refl _)) hk (by omega)).mono ?_
  rintro e w2 ⟨n, ok, rfl, hst, hb2⟩
  have HB2 := hid (HB1.out.trans (hb2.mono z1))
  have z2 := HB2.out.size
  clear hb2 HB1
  rcases hst with ⟨h1, _⟩ | ⟨_, _, rfl, A, p, B, hin, rfl⟩
  · exact absurd ⟨by omega, by omega⟩ h1
  rw [Int.toNat_natCast] at hin
  have hle := hin.le
  have hlt := hin.lt
  have hat := pcs_at hin.eq
  have hpl : p.at_ < zs.length := hat.2.2.1
  have hra : readAt zs (p.at_ : Int) = readF (zs.drop p.at_) := by rw [readAt, if_pos (by omega), Int.toNat_natCast]
  have hsize : ((readF (zs.drop p.at_)).2.1 : Int) = (p.size : Int) := by rw [← congrArg (fun q : Pc => (q.size : Int)) hat.2.1]
  have hnx := fun W h => next_any b bCap zs (p.at_ : Int) W (HS.out.below h (Nat.le_refl _))
  rw [hra, hsize] at hnx
  have HNX := hid hnx
  have HIN := hid hin
  have hplen := pcs_length zs
  clear hra hsize hnx hat hin
  go_wp2_with fail
  refine (starts_any b bCap zs _ (HS.out.below HB2.out (Nat.le_refl _)) (by omega)).mono ?_
  rintro e w3 ⟨v2, rfl, ⟨ho2, hn2⟩, hb3⟩
  have HB3 := hid (HB2.out.trans (hb3.mono z2))
  have z3 := HB3.out.size
  simp only [List.length_map] at ho2
  obtain ⟨a2, c2, rfl, g21, g22, hc2⟩ := owns_form ho2
  obtain ⟨n, hn⟩ : ∃ n, n = (pcs zs).length := ⟨_, rfl⟩
  rw [← hn] at hc2 hplen ⊢
  have hc3 : ∀ i, i < n → ∃ g, a2 = some ⟨g, 0, none⟩ ∧ ∀ p, (pcs zs)[i]? = some p → w3.cell? ⟨g, i, none⟩ = some (.int .i64 p.at_) := by
    intro i hi
    obtain ⟨g, ha, _, hg, hc⟩ := hc2 (by omega)
    refine ⟨g, ha, fun p hp => ?_⟩
    rw [hc i (by omega)]
    simp [hp]
  have K2 := hid hc3
  have HN := hid hn
  clear hb3 HB2 ho2 hn2 g21 g22 hc2 hc3 hn z1 z2
  have hAn : A.length < n := by
    have h := HN.out
    rw [HIN.out.eq] at h
    simp at h
    omega
  go_wp2_with fail
  go_loop [8, 9] (fun s8 s9 => ∃ (i : Nat) (lastv : Int), s8 = .int .i64 lastv ∧ s9 = .int .i64 i ∧ i ≤ n ∧ Hid (A.length < i → lastv = p.at_)) (fun _ s9 => n - (intOf s9).toNat)
  case atStart => exact ⟨0, -1, rfl, rfl, Nat.zero_le _, fun h => by omega⟩
  case round =>
    obtain ⟨i, lastv, rfl, rfl, hi, HL⟩ := hrel
    by_cases hlt2 : i < n
    · obtain ⟨g, rfl, k2⟩ := K2.out i hlt2
      have hnc : (n : Int) ≤ 300 := by omega
      have hlt' : (i : Int) < (n : Int) := by omega
      have hget : ∃ y, (pcs zs)[i]? = some y := ⟨_, List.getElem?_eq_getElem (by have := HN.out; omega)⟩
      obtain ⟨y, hy⟩ := hget
      have hcy := k2 y hy
      have hyk : (y.at_ ≤ k ∧ (A.length < i + 1 → y.at_ = p.at_)) ∨ (k < y.at_ ∧ A.length < i) := by
        have hy2 := hy
        rw [HIN.out.eq] at hy2
        rcases Nat.lt_trichotomy i A.length with h | h | h
        · rw [List.getElem?_append_left h] at hy2
          have := HIN.out.ahead y (List.mem_of_getElem? hy2)
          exact .inl ⟨by omega, fun h2 => by omega⟩
        · subst h
          rw [List.getElem?_append_right (Nat.le_refl _), Nat.sub_self] at hy2
          simp at hy2
          subst hy2
          exact .inl ⟨hle, fun _ => rfl⟩
        · obtain ⟨d, hd⟩ : ∃ d, i - A.length = d + 1 := ⟨i - A.length - 1, by omega⟩
          rw [List.getElem?_append_right (by omega), hd, List.getElem?_cons_succ] at hy2
          have := pcs_behind HIN.out.eq y (List.mem_of_getElem? hy2)
          exact .inr ⟨by omega, h⟩
      clear k2 hy K2
      rcases hyk with ⟨h1, h2⟩ | ⟨h1, h2⟩
      · have h1' : (y.at_ : Int) ≤ (k : Int) := by omega
        have H2 := hid h2
        clear h2
        go_wp2_with fail
        go_round
        case rel => exact ⟨i + 1, (y.at_ : Int), rfl, by go_num, by omega, fun h => by rw [H2.out h]⟩
        case measure => simp [intOf]; omega
      · have h1' : ¬ (y.at_ : Int) ≤ (k : Int) := by omega
        go_wp2_with fail
        go_round
        case rel => exact ⟨i + 1, lastv, rfl, by go_num, by omega, fun _ => HL.out h2⟩
        case measure => simp [intOf]; omega
    · have hin2 : i = n := by omega
      have hlv : lastv = (p.at_ : Int) := HL.out (by omega)
      subst hlv
      have hge : ¬ (i : Int) < (n : Int) := by omega
      have hd : (k : Int) - (p.at_ : Int) < (p.size : Int) := by omega
      have hd0 : 0 ≤ (k : Int) - (p.at_ : Int) := by omega
      have hd1 : (k : Int) - (p.at_ : Int) ≤ 300 := by omega
      have HQ := hid (HNX.out _ HB3.out)
      clear HL HNX K2 hin2
      go_wp2_with fail
      refine HQ.out.mono ?_
      rintro e w4 ⟨rfl, q, rfl⟩
      go_wp2_with fail
      go_ret
      exact ⟨rfl, HB3.out.trans (below_drewN _ _ _)⟩
end Go.Proofs.Ytalgldnnbjlokaa.scalarStarts
