/- The walk of the law ScalarAll. -/
import Derived.Test.YtalgldnnbjlokaaProg
import Derived.Test.YtalgldnnbjlokaaAwake01
import Derived.Test.YtalgldnnbjlokaaRefAll
import Derived.Test.YtalgldnnbjlokaaStarts
import Derived.Test.YtalgldnnbjlokaaValid
import Derived.Test.YtalgldnnbjlokaaOpenSB
namespace Go.Proofs.Ytalgldnnbjlokaa.scalarAll
open Go.RowKit
open Go.Lib (hid)
set_option linter.unusedVariables false

theorem flat_get : ∀ (l : List Pc) (i : Nat) (p : Pc), l[i]? = some p → ∀ j, j < 3 → (l.flatMap refCells)[i * 3 + j]? = (refCells p)[j]?
  | [], i, p, h, _, _ => by simp at h
  | x :: l, 0, p, h, j, hj => by
    simp at h; subst h
    rw [List.flatMap_cons, Nat.zero_mul, Nat.zero_add, List.getElem?_append_left (by simpa [refCells] using hj)]
  | x :: l, i + 1, p, h, j, hj => by
    rw [List.flatMap_cons, List.getElem?_append_right (by simp [refCells]; omega)]
    have := flat_get l i p (by simpa using h) j hj
    rw [← this]
    congr 1
    simp [refCells]
    omega

theorem pcs_nil_iff (zs : List Int) : pcs zs = [] ↔ zs = [] := by
  constructor
  · intro h
    by_cases h0 : 0 < zs.length
    · have := pcsFrom_step h0
      rw [pcsFrom_zero, h] at this
      cases this
    · exact List.eq_nil_of_length_eq_zero (by omega)
  · intro h; subst h; rfl

set_option maxRecDepth 100000 in
set_option maxHeartbeats 8000000 in
theorem walk (b : Option Addr) (bLen bCap : Nat) (bD : List Int) (w : World) (w0 : IsRow .u8 w b bLen bCap bD) :
    Calls Try.prog 4 #[.slice b bLen bCap] w fun e w' => e = .returned (.bool true) ∧ Below w.heap.size w w' := by
  obtain ⟨zs, rfl, hs⟩ := sb_of w0
  clear w0
  have hcap := hs.2.1
  by_cases hbig : 300 < zs.length
  · have hbig' : (300 : Int) < (zs.length : Int) := by omega
    clear hs
    go_enter Try.func4, Try.ntmps4
    go_wp2_with (go_at_call 7; refine (awake01_any _).mono ?_; rintro e w3 ⟨rfl, hb3⟩)
    go_ret
    exact ⟨rfl, by assumption⟩
  have hbig' : ¬ (300 : Int) < (zs.length : Int) := by omega
  have HS := hid hs
  have hl0 := hs.1
  have hplen := pcs_length zs
  clear hs
  go_enter Try.func4, Try.ntmps4
  go_wp2_with fail
  refine (awake01_any _).mono ?_
  rintro e w1 ⟨rfl, hb1⟩
  have HB1 := hid hb1
  have z1 := hb1.size
  clear hb1
  go_wp2_with fail
  refine (all_any b bCap zs _ (HS.out.below HB1.out (Nat.le_refl _)) (by omega)).mono ?_
  rintro e w2 ⟨v1, rfl, ⟨ho1, hn1⟩, hb2⟩
  have HB2 := hid (HB1.out.trans (hb2.mono z1))
  have HO1 := hid ho1
  have z2 := HB2.out.size
  clear hb2 HB1 ho1 hn1
  go_wp2_with fail
  refine (starts_any b bCap zs _ (HS.out.below HB2.out (Nat.le_refl _)) (by omega)).mono ?_
  rintro e w3 ⟨v2, rfl, ⟨ho2, hn2⟩, hb3⟩
  have HO1' := hid (owns_below HO1.out hb3)
  have HB3 := hid (HB2.out.trans (hb3.mono z2))
  have HO2 := hid ho2
  have z3 := HB3.out.size
  clear hb3 HB2 ho2 hn2 HO1
  go_wp2_with fail
  refine (refall_any b bCap zs _ (HS.out.below HB3.out (Nat.le_refl _)) (by omega)).mono ?_
  rintro e w4 ⟨v3, rfl, ho3, hb4⟩
  have HO1 := hid (owns_below HO1'.out hb4)
  have HO2' := hid (owns_below HO2.out hb4)
  have HB4 := hid (HB3.out.trans (hb4.mono z3))
  have HO3 := hid ho3
  have z4 := HB4.out.size
  clear hb4 HB3 ho3 HO1' HO2 z1 z2 z3
  simp only [List.length_map] at HO1 HO2'
  have HP0 : Hid (([] : List Pc) ++ pcsFrom zs 0 = pcs zs) := rfl
  have HVAL : Hid (validF zs = (pcs zs).all (·.whole)) := rfl
  have hv := fun W h => valid_any b bCap zs W (HS.out.below h (Nat.le_refl _))
  have hct := fun W h => count_any b bCap zs W (HS.out.below h (Nat.le_refl _)) (by omega)
  have HV := hid hv
  have HCT := hid hct
  obtain ⟨a1, c1, rfl, g11, g12, hc1⟩ := owns_form HO1.out
  obtain ⟨a2, c2, rfl, g21, g22, hc2⟩ := owns_form HO2'.out
  obtain ⟨a3, c3, rfl, g31, g32, hc3⟩ := owns_form HO3.out
  have HC1 := hid hc1
  have HC2 := hid hc2
  have HC3 := hid hc3
  clear hv hct hc1 hc2 hc3 HO1 HO2' HO3 g11 g12 g21 g22 g31 g32
  obtain ⟨n, hn⟩ : ∃ n, n = (pcs zs).length := ⟨_, rfl⟩
  rw [← hn] at HC1 HC2 HC3 HCT hplen ⊢
  have HN := hid hn
  clear hn
  go_wp2_with fail
  refine (HCT.out _ HB4.out).mono ?_
  rintro e w5 ⟨rfl, hb5⟩
  have HB5 := hid (HB4.out.trans (hb5.mono z4))
  have hc1 : ∀ i, i < n → ∃ g, a1 = some ⟨g, 0, none⟩ ∧ ∀ p, (pcs zs)[i]? = some p → w5.cell? ⟨g, i, none⟩ = some (.int .i32 p.r) := by
    intro i hi
    obtain ⟨g, ha, _, hg, hc⟩ := HC1.out (by omega)
    refine ⟨g, ha, fun p hp => ?_⟩
    rw [hb5.cell (by simpa using hg), hc i (by omega)]
    simp [hp]
  have hc2 : ∀ i, i < n → ∃ g, a2 = some ⟨g, 0, none⟩ ∧ ∀ p, (pcs zs)[i]? = some p → w5.cell? ⟨g, i, none⟩ = some (.int .i64 p.at_) := by
    intro i hi
    obtain ⟨g, ha, _, hg, hc⟩ := HC2.out (by omega)
    refine ⟨g, ha, fun p hp => ?_⟩
    rw [hb5.cell (by simpa using hg), hc i (by omega)]
    simp [hp]
  have hc3 : ∀ i, i < n → ∃ g, a3 = some ⟨g, 0, none⟩ ∧ ∀ p, (pcs zs)[i]? = some p → w5.cell? ⟨g, i * 3, none⟩ = some (.int .i32 p.r) ∧ w5.cell? ⟨g, i * 3 + 1, none⟩ = some (.int .i64 p.size) ∧ w5.cell? ⟨g, i * 3 + 2, none⟩ = some (.bool p.whole) := by
    intro i hi
    obtain ⟨g, ha, _, hg, hc⟩ := HC3.out (by omega)
    refine ⟨g, ha, fun p hp => ⟨?_, ?_, ?_⟩⟩
    · rw [hb5.cell (by simpa using hg), hc (i * 3) (by omega), show i * 3 = i * 3 + 0 from rfl, flat_get _ _ _ hp 0 (by omega)]; rfl
    · rw [hb5.cell (by simpa using hg), hc (i * 3 + 1) (by omega), flat_get _ _ _ hp 1 (by omega)]; rfl
    · rw [hb5.cell (by simpa using hg), hc (i * 3 + 2) (by omega), flat_get _ _ _ hp 2 (by omega)]; rfl
  have K1 := hid hc1
  have K2 := hid hc2
  have K3 := hid hc3
  clear hc1 hc2 hc3 HC1 HC2 HC3 hb5 HB4 HCT
  go_wp2_with fail
  go_loopw [6, 7, 8] (fun s6 s7 s8 wr => ∃ (i j q : Nat) (pre : List Pc), s6 = .int .i64 j ∧ s7 = .bool (pre.all (·.whole)) ∧ s8 = .int .i64 i ∧ i ≤ n ∧ j ≤ zs.length ∧ wr = w5.drewN q ∧ Hid (pre.length = i) ∧ Hid (pre ++ pcsFrom zs j = pcs zs)) (fun _ _ s8 _ => n - (intOf s8).toNat)
  case atStart => exact ⟨0, 0, 0, [], rfl, rfl, rfl, Nat.zero_le _, Nat.zero_le _, rfl, rfl, HP0.out⟩
  case round =>
    obtain ⟨i, j, q, pre, rfl, rfl, rfl, hi, hj, rfl, HL, HP⟩ := hrel
    clear HP0
    by_cases hlt : i < n
    · have hjlt : j < zs.length := by
        rcases Nat.lt_or_ge j zs.length with h | h
        · exact h
        · have := HP.out
          rw [pcsFrom_end h, List.append_nil] at this
          have h2 := HN.out
          rw [← this, HL.out] at h2
          omega
      have hst := pcsFrom_step hjlt
      have hsz := readF_drop_size hjlt
      generalize readF (zs.drop j) = rd at *
      obtain ⟨r, size, whole⟩ := rd
      simp only at hst hsz
      obtain ⟨hs1, hs2⟩ := hsz
      have hpi : (pcs zs)[i]? = some ⟨j, size, r, whole⟩ := by
        rw [← HP.out, hst, List.getElem?_append_right (Nat.le_of_eq HL.out), HL.out, Nat.sub_self]; rfl
      obtain ⟨ga, rfl, k1⟩ := K1.out i hlt
      obtain ⟨gb, rfl, k2⟩ := K2.out i hlt
      obtain ⟨gc, rfl, k3⟩ := K3.out i hlt
      have hk1 := k1 _ hpi
      have hk2 := k2 _ hpi
      obtain ⟨hk3, hk4, hk5⟩ := k3 _ hpi
      simp only at hk1 hk2 hk3 hk4 hk5
      have HP2 : Hid ((pre ++ [⟨j, size, r, whole⟩]) ++ pcsFrom zs (j + size) = pcs zs) := by
        refine Eq.trans ?_ HP.out
        rw [hst]; simp
      have hlt' : (i : Int) < (n : Int) := by omega
      have hjs : (j : Int) + (size : Int) ≤ 300 := by omega
      have hnc : (n : Int) ≤ 300 := by omega
      have HALL : Hid ((pre ++ [(⟨j, size, r, whole⟩ : Pc)]).all (·.whole) = (pre.all (·.whole) && whole)) := by show _ = _; simp
      have HLL : Hid ((pre ++ [(⟨j, size, r, whole⟩ : Pc)]).length = i + 1) := by show _ = _; simp [HL.out]
      clear k1 k2 k3 hpi hst HP HL K1 K2 K3
      generalize (pre ++ [(⟨j, size, r, whole⟩ : Pc)]) = pre2 at *
      cases hw : pre.all (·.whole)
      all_goals
        rw [hw] at HALL
        clear hw
        go_wp2_with fail
        go_quiet (fail)
        go_wp2_with fail
        go_roundw
        case rel => exact ⟨i + 1, j + size, q + nq, pre2, by go_num, by rw [HALL.out]; rfl, by go_num, by omega, by omega, rfl, HLL, HP2⟩
        case measure => simp [intOf]; omega
    · have hin : i = n := by omega
      have hend : pcsFrom zs j = [] := by
        have h := congrArg List.length HP.out
        rw [List.length_append, HL.out, hin, ← HN.out] at h
        exact List.eq_nil_of_length_eq_zero (by omega)
      have hje : j = zs.length := by
        rcases Nat.lt_or_ge j zs.length with h | h
        · rw [pcsFrom_step h] at hend; cases hend
        · omega
      have hpre : pre = pcs zs := by
        have h := HP.out
        rwa [hend, List.append_nil] at h
      rw [hje, hpre, ← HVAL.out]
      clear hend hpre HP HL K1 K2 K3 hje hin
      have hge : ¬ (i : Int) < (n : Int) := by omega
      have hv := HV.out (w5.drewN q) (HB5.out.trans (below_drewN _ _ _))
      have HV2 := hid hv
      clear hv HV HVAL
      generalize validF zs = vv at *
      go_wp2_with fail
      refine HV2.out.mono ?_
      rintro e w6 ⟨rfl, hb6⟩
      have HB6 := hid ((HB5.out.trans (below_drewN _ _ _)).trans (hb6.mono (Nat.le_trans HB5.out.size (Nat.le_refl _))))
      clear hb6
      go_wp2_with fail
      go_ret
      exact ⟨by simp, HB6.out⟩
end Go.Proofs.Ytalgldnnbjlokaa.scalarAll
