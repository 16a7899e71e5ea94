/- The law RangesLaws: the walk. -/
import Derived.Test.YteddhjfbnanplaaDoorRgJn
namespace Go.Proofs.YteddhjfbnanplaaDoor.rangesLaws
open Go.RowKit
open Go.Lib (hid)
set_option linter.unusedVariables false
set_option maxRecDepth 100000

theorem u_one {u l : List Rg} (hl : rightR l) (hu : rightR u) (hm : ∀ r, memR u r ↔ ∃ x ∈ [l], memR (knownL x) r) : u = l := by
  refine right_unique hu hl fun r => (hm r).trans ?_
  simp [knownL_of hl]
theorem u_or {u l k : List Rg} (hl : rightR l) (hk : rightR k) (hm : ∀ r, memR u r ↔ ∃ x ∈ [l, k], memR (knownL x) r) (r : Int) : memR u r ↔ memR l r ∨ memR k r := by
  refine (hm r).trans ?_
  simp [knownL_of hl, knownL_of hk]
theorem de_morgan {u l k : List Rg} (hl : rightR l) (hk : rightR k) (hu : rightR u) (hm : ∀ r, memR u r ↔ memR l r ∨ memR k r) : notR u = cutR (notR l) (notR k) := by
  obtain ⟨n1, n2⟩ := notR_law hu
  obtain ⟨l1, l2⟩ := notR_law hl
  obtain ⟨k1, k2⟩ := notR_law hk
  obtain ⟨c1, c2⟩ := cutR_law l1 k1
  refine right_unique n1 c1 fun r => ?_
  rw [n2, c2, l2, k2, hm]
  constructor
  · rintro ⟨a, b, c⟩; exact ⟨⟨a, b, fun q => c (.inl q)⟩, a, b, fun q => c (.inr q)⟩
  · rintro ⟨⟨a, b, c⟩, _, _, d⟩; exact ⟨a, b, fun q => q.elim c d⟩
theorem not_not {l : List Rg} (hl : rightR l) : notR (notR l) = l := by
  obtain ⟨n1, n2⟩ := notR_law hl
  obtain ⟨m1, m2⟩ := notR_law n1
  refine right_unique m1 hl fun r => ?_
  rw [m2, n2]
  constructor
  · rintro ⟨a, b, c⟩
    by_cases q : memR l r
    · exact q
    · exact absurd ⟨a, b, q⟩ c
  · intro q
    exact ⟨(mem_num (right_ok hl) q).1, (mem_num (right_ok hl) q).2, fun h => h.2.2 q⟩
theorem parts_whole {l k u : List Rg} (hl : rightR l) (hk : rightR k) (hu : rightR u) (hm : ∀ r, memR u r ↔ memR (cutR l k) r ∨ memR (cutR l (notR k)) r) : u = l := by
  obtain ⟨c1, c2⟩ := cutR_law hl hk
  obtain ⟨m1, m2⟩ := minus_law hl hk
  refine right_unique hu hl fun r => ?_
  rw [hm, c2, m2]
  constructor
  · rintro (h | h) <;> exact h.1
  · intro h
    by_cases q : memR k r
    · exact .inl ⟨h, q⟩
    · exact .inr ⟨h, q⟩
theorem parts_apart {l k : List Rg} (hl : rightR l) (hk : rightR k) : cutR (cutR l k) (cutR l (notR k)) = [] := by
  obtain ⟨c1, c2⟩ := cutR_law hl hk
  obtain ⟨m1, m2⟩ := minus_law hl hk
  obtain ⟨d1, d2⟩ := cutR_law c1 m1
  refine right_none d1 fun r h => ?_
  rw [d2, c2, m2] at h
  exact h.2.2 h.1.2
theorem parts_count {l k : List Rg} (hl : rightR l) (hk : rightR k) : countR (cutR l k) + countR (cutR l (notR k)) = countR l := by
  obtain ⟨c1, c2⟩ := cutR_law hl hk
  obtain ⟨m1, m2⟩ := minus_law hl hk
  refine count_parts hl c1 m1 (fun r => ?_) (fun r => ?_)
  · rw [c2, m2]
    constructor
    · intro h
      by_cases q : memR k r
      · exact .inl ⟨h, q⟩
      · exact .inr ⟨h, q⟩
    · rintro (h | h) <;> exact h.1
  · rintro ⟨h1, h2⟩
    exact ((m2 r).1 h2).2 ((c2 r).1 h1).2
theorem not_count {l : List Rg} (hl : rightR l) : countR l + countR (notR l) = 1114112 := by
  obtain ⟨n1, n2⟩ := notR_law hl
  exact count_not hl n1 n2
set_option maxHeartbeats 4000000 in
theorem walk (a : Option Addr) (aLen aCap : Nat) (aD : List (List Value)) (b : Option Addr) (bLen bCap : Nat) (bD : List (List Value)) (w : World) (w0 : IsAggRow [.int .i32, .int .i32] w a aLen aCap aD) (w1 : IsAggRow [.int .i32, .int .i32] w b bLen bCap bD) (hdb : Db w) :
    Calls Tryd.prog 6 #[.slice a aLen aCap, .slice b bLen bCap] w fun e w' => e = .returned (.bool true) ∧ Below w.heap.size w w' := by
  obtain ⟨LA, hA, hA32⟩ := rr_of w0
  obtain ⟨LB, hB, hB32⟩ := rr_of w1
  have HAW := hid (awake_any w hdb)
  have HA := hid hA
  have HB := hid hB
  have HNA := hid hA.1
  have HNB := hid hB.1
  have HA32 := hid hA32
  have HB32 := hid hB32
  clear w0 w1 hdb hA hB hA32 hB32
  by_cases hbig : 20 < aLen ∨ 20 < bLen
  · by_cases hba : 20 < aLen
    · have hbig' : (20 : Int) < (aLen : Int) := by omega
      clear hbig
      go_enter Tryd.func6, Tryd.ntmps6
      go_wp2_with fail
      refine HAW.out.mono ?_
      rintro e w2 ⟨rfl, hb⟩
      have HBB := hid hb
      clear hb
      go_wp2_with fail
      go_ret
      exact ⟨rfl, HBB.out⟩
    · have hbig' : ¬ (20 : Int) < (aLen : Int) := by omega
      have hbig2 : (20 : Int) < (bLen : Int) := by omega
      clear hbig
      go_enter Tryd.func6, Tryd.ntmps6
      go_wp2_with fail
      refine HAW.out.mono ?_
      rintro e w2 ⟨rfl, hb⟩
      have HBB := hid hb
      clear hb
      go_wp2_with fail
      go_ret
      exact ⟨rfl, HBB.out⟩
  · have hba : aLen ≤ 20 := by omega
    have hbb : bLen ≤ 20 := by omega
    have hbig' : ¬ (20 : Int) < (aLen : Int) := by omega
    have hbig2 : ¬ (20 : Int) < (bLen : Int) := by omega
    clear hbig
    have hka := knownL_len LA
    have hkb := knownL_len LB
    rw [← HNA.out] at hka
    rw [← HNB.out] at hkb
    have HKA := hid (knownL_right LA)
    have HKB := hid (knownL_right LB)
    have HPA := hid (refknown_any a aLen aCap LA · · (by omega) HA32.out)
    have HPB := hid (refknown_any b bLen bCap LB · · (by omega) HB32.out)
    generalize knownL LA = KA at *
    generalize knownL LB = KB at *
    obtain ⟨NA, hNA⟩ : ∃ NA, NA = notR KA := ⟨_, rfl⟩
    obtain ⟨NB, hNB⟩ : ∃ NB, NB = notR KB := ⟨_, rfl⟩
    obtain ⟨BO, hBO⟩ : ∃ BO, BO = cutR KA KB := ⟨_, rfl⟩
    obtain ⟨AL, hAL⟩ : ∃ AL, AL = cutR KA NB := ⟨_, rfl⟩
    have hNAr := (notR_law HKA.out).1
    have hNBr := (notR_law HKB.out).1
    have hBOr := (cutR_law HKA.out HKB.out).1
    have hALr := (cutR_law HKA.out hNBr).1
    have hNNr := (cutR_law hNAr hNBr).1
    have hnn := not_not HKA.out
    have hpa := parts_apart HKA.out HKB.out
    have hpc := parts_count HKA.out HKB.out
    have hnc := not_count HKA.out
    have hDM := fun (u : List Rg) (h1 : rightR u) (h2 : ∀ r, memR u r ↔ ∃ x ∈ [KA, KB], memR (knownL x) r) => de_morgan HKA.out HKB.out h1 (u_or HKA.out HKB.out h2)
    have hPW := fun (u : List Rg) (h1 : rightR u) (h2 : ∀ r, memR u r ↔ ∃ x ∈ [cutR KA KB, cutR KA (notR KB)], memR (knownL x) r) => parts_whole HKA.out HKB.out h1 (u_or hBOr hALr h2)
    have lNA := notR_len KA
    have lNB := notR_len KB
    have lBO := cutR_len KA KB
    have lAL := cutR_len KA (notR KB)
    have lNN := cutR_len (notR KA) (notR KB)
    rw [← hNA] at hNAr hnn hnc lNA lNN hDM hNNr
    rw [← hNB] at hNBr hALr hpa hpc lNB lAL lNN hDM hPW hNNr
    rw [← hBO] at hBOr hpa hpc lBO hPW
    rw [← hAL] at hALr hpa hpc lAL hPW
    have HNAr := hid hNAr
    have HNBr := hid hNBr
    have HBOr := hid hBOr
    have HALr := hid hALr
    have HNNr := hid hNNr
    have HNN := hid hnn
    have HPA2 := hid hpa
    have HPC := hid hpc
    have HNC := hid hnc
    have HDM := hid hDM
    have HPW := hid hPW
    have HEA := hid hNA
    have HEB := hid hNB
    have HEBO := hid hBO
    have HEAL := hid hAL
    have HKKA := hid (knownL_of HKA.out)
    have HKKB := hid (knownL_of HKB.out)
    have HKNA := hid (knownL_of hNAr)
    have HKNB := hid (knownL_of hNBr)
    have HKBO := hid (knownL_of hBOr)
    have HKAL := hid (knownL_of hALr)
    have H3KA := hid (in32_of_ok (right_ok HKA.out))
    have H3KB := hid (in32_of_ok (right_ok HKB.out))
    have H3NA := hid (in32_of_ok (right_ok hNAr))
    have H3NB := hid (in32_of_ok (right_ok hNBr))
    have H3BO := hid (in32_of_ok (right_ok hBOr))
    have H3AL := hid (in32_of_ok (right_ok hALr))
    have cKA := countR_bound HKA.out (by decide)
    have cNA := countR_bound hNAr (by decide)
    have cBO := countR_bound hBOr (by decide)
    have cAL := countR_bound hALr (by decide)
    clear hNAr hNBr hBOr hALr hNNr hnn hpa hpc hnc hDM hPW hNA hNB hBO hAL
    go_enter Tryd.func6, Tryd.ntmps6
    go_wp2_with fail
    refine HAW.out.mono ?_
    rintro e w2 ⟨rfl, hb⟩
    have H2 := hid hb
    have s2 := hb.size
    clear hb HAW
    go_wp2_with fail
    refine (HPA.out w2 (HA.out.below H2.out (Nat.le_refl _))).mono ?_
    rintro e w3 ⟨P, pn, pc, rfl, hq, hb⟩
    have HP3 := hid hq
    have hPL : pn ≤ 1000 := by
      have h0 := hq.1

      omega
    clear hq
    have H3 := hid (H2.out.trans (hb.mono s2))
    have s3 := H3.out.size
    clear hb 
    go_wp2_with fail
    refine (to_any P pn pc KA w3 HP3.out (by omega)).mono ?_
    rintro e w4 ⟨Q, qn, qc, rfl, hq, hb⟩
    have HQ4 := hid hq
    have hQL : qn ≤ 1000 := by
      have h0 := hq.1

      omega
    clear hq
    have H4 := hid (H3.out.trans (hb.mono s3))
    have s4 := H4.out.size
    have HP4 := hid (HP3.out.below hb (Nat.le_refl _))
    clear hb HP3
    have hb : Below w4.heap.size w4 (w4.alloc (.cells #[.slice Q qn qc] 25)) := (Below.refl _ _).alloc (Nat.le_refl _) _
    have hrs := rrs_one (Blk.new w4 25 #[.slice Q qn qc]) (HQ4.out.below hb (Nat.le_refl _)) H3KA.out (by omega)
    have HRS := hid hrs
    clear hrs
    go_wp2_with fail
    have H5 := hid (H4.out.trans (hb.mono s4))
    have s5 := H5.out.size
    have HQ5 := hid (HQ4.out.below hb (Nat.le_refl _))
    clear hb HQ4
    generalize w4.alloc (.cells #[.slice Q qn qc] 25) = w5 at *
    refine (union_any _ 1 1 [KA] w5 HRS.out (by show KA.length + 0 ≤ 900000; omega) (by decide)).mono ?_
    rintro e w6 ⟨u, hu1, hu2, X, xn, xc, rfl, hq, hb⟩
    obtain rfl : KA = u := (u_one HKA.out hu1 hu2).symm
    have HX6 := hid hq
    have hXL : xn ≤ 1000 := by
      have h0 := hq.1

      omega
    clear hu1 hu2 hq HRS
    have H6 := hid (H5.out.trans (hb.mono s5))
    have s6 := H6.out.size
    have HQ6 := hid (HQ5.out.below hb (Nat.le_refl _))
    clear hb HQ5
    go_wp2_with fail
    refine (HPB.out w6 (HB.out.below H6.out (Nat.le_refl _))).mono ?_
    rintro e w7 ⟨P2, p2n, p2c, rfl, hq, hb⟩
    have HP27 := hid hq
    have hP2L : p2n ≤ 1000 := by
      have h0 := hq.1

      omega
    clear hq
    have H7 := hid (H6.out.trans (hb.mono s6))
    have s7 := H7.out.size
    have HX7 := hid (HX6.out.below hb (Nat.le_refl _))
    clear hb HX6
    go_wp2_with fail
    refine (to_any P2 p2n p2c KB w7 HP27.out (by omega)).mono ?_
    rintro e w8 ⟨Q2, q2n, q2c, rfl, hq, hb⟩
    have HQ28 := hid hq
    have hQ2L : q2n ≤ 1000 := by
      have h0 := hq.1

      omega
    clear hq
    have H8 := hid (H7.out.trans (hb.mono s7))
    have s8 := H8.out.size
    have HX8 := hid (HX7.out.below hb (Nat.le_refl _))
    have HP28 := hid (HP27.out.below hb (Nat.le_refl _))
    clear hb HX7 HP27
    have hb : Below w8.heap.size w8 (w8.alloc (.cells #[.slice Q2 q2n q2c] 25)) := (Below.refl _ _).alloc (Nat.le_refl _) _
    have hrs := rrs_one (Blk.new w8 25 #[.slice Q2 q2n q2c]) (HQ28.out.below hb (Nat.le_refl _)) H3KB.out (by omega)
    have HRS := hid hrs
    clear hrs
    go_wp2_with fail
    have H9 := hid (H8.out.trans (hb.mono s8))
    have s9 := H9.out.size
    have HX9 := hid (HX8.out.below hb (Nat.le_refl _))
    have HQ29 := hid (HQ28.out.below hb (Nat.le_refl _))
    clear hb HX8 HQ28
    generalize w8.alloc (.cells #[.slice Q2 q2n q2c] 25) = w9 at *
    refine (union_any _ 1 1 [KB] w9 HRS.out (by show KB.length + 0 ≤ 900000; omega) (by decide)).mono ?_
    rintro e w10 ⟨u, hu1, hu2, Y, yn, yc, rfl, hq, hb⟩
    obtain rfl : KB = u := (u_one HKB.out hu1 hu2).symm
    have HY10 := hid hq
    have hYL : yn ≤ 1000 := by
      have h0 := hq.1

      omega
    clear hu1 hu2 hq HRS
    have H10 := hid (H9.out.trans (hb.mono s9))
    have s10 := H10.out.size
    have HX10 := hid (HX9.out.below hb (Nat.le_refl _))
    have HQ210 := hid (HQ29.out.below hb (Nat.le_refl _))
    clear hb HX9 HQ29
    have hcb : cutR (knownL KA) (knownL KB) = BO := by rw [HKKA.out, HKKB.out, HEBO.out]
    have HCB := hid hcb
    clear hcb
    go_wp2_with fail
    refine (cut_any X xn xc KA Y yn yc KB w10 HX10.out HY10.out (by omega) (by omega) H3KA.out H3KB.out).mono ?_
    rintro e w11 ⟨B, bn, bc, rfl, hq, hb⟩
    have HB11 := hid hq
    have hBL : bn ≤ 1000 := by
      have h0 := hq.1
      rw [HCB.out] at h0
      omega
    clear hq
    have H11 := hid (H10.out.trans (hb.mono s10))
    have s11 := H11.out.size
    have HX11 := hid (HX10.out.below hb (Nat.le_refl _))
    have HY11 := hid (HY10.out.below hb (Nat.le_refl _))
    clear hb HX10 HY10
    have HB11 := hid (HCB.out ▸ HB11.out)
    have hca : cutR (knownL KA) (notR (knownL KB)) = AL := by rw [HKKA.out, HKKB.out, ← HEB.out, HEAL.out]
    have HCA := hid hca
    clear hca
    go_wp2_with fail
    refine (minus_any X xn xc KA Y yn yc KB w11 HX11.out HY11.out (by omega) (by omega) H3KA.out H3KB.out).mono ?_
    rintro e w12 ⟨L, ln, lc, rfl, hq, hb⟩
    have HL12 := hid hq
    have hLL : ln ≤ 1000 := by
      have h0 := hq.1
      rw [HCA.out] at h0
      omega
    clear hq
    have H12 := hid (H11.out.trans (hb.mono s11))
    have s12 := H12.out.size
    have HX12 := hid (HX11.out.below hb (Nat.le_refl _))
    have HY12 := hid (HY11.out.below hb (Nat.le_refl _))
    have HB12 := hid (HB11.out.below hb (Nat.le_refl _))
    clear hb HX11 HY11 HB11
    have HL12 := hid (HCA.out ▸ HL12.out)
    have hb : Below w12.heap.size w12 (w12.alloc (.cells #[.slice X xn xc, .slice Y yn yc] 25)) := (Below.refl _ _).alloc (Nat.le_refl _) _
    have hrs := rrs_two (Blk.new w12 25 #[.slice X xn xc, .slice Y yn yc]) (HX12.out.below hb (Nat.le_refl _)) (HY12.out.below hb (Nat.le_refl _)) H3KA.out H3KB.out (by omega) (by omega)
    have HRS := hid hrs
    clear hrs
    go_wp2_with fail
    have H13 := hid (H12.out.trans (hb.mono s12))
    have s13 := H13.out.size
    have HX13 := hid (HX12.out.below hb (Nat.le_refl _))
    have HY13 := hid (HY12.out.below hb (Nat.le_refl _))
    have HB13 := hid (HB12.out.below hb (Nat.le_refl _))
    have HL13 := hid (HL12.out.below hb (Nat.le_refl _))
    clear hb HX12 HY12 HB12 HL12
    generalize w12.alloc (.cells #[.slice X xn xc, .slice Y yn yc] 25) = w13 at *
    refine (union_any _ 2 2 [KA, KB] w13 HRS.out (by show KA.length + (KB.length + 0) ≤ 900000; omega) (by decide)).mono ?_
    rintro e w14 ⟨u, hu1, hu2, U, un, uc, rfl, hq, hb⟩
    have hdm := HDM.out u hu1 hu2
    have HDM2 := hid hdm
    have HUR := hid hu1
    have HKU := hid (knownL_of hu1)
    have H3U := hid (in32_of_ok (right_ok hu1))
    have hun := notR_len u
    clear hdm
    have HU14 := hid hq
    have hUL : un ≤ 1000 := by
      have h0 := hq.1
      have hx : u.length ≤ 100 := by
        have := gathR_len (knownL KA) (knownL KB) 0
        rw [← u_two hu1 hu2, List.length_append, HKKA.out, HKKB.out] at this
        omega
      omega
    clear hu1 hu2 hq HRS
    have H14 := hid (H13.out.trans (hb.mono s13))
    have s14 := H14.out.size
    have HX14 := hid (HX13.out.below hb (Nat.le_refl _))
    have HY14 := hid (HY13.out.below hb (Nat.le_refl _))
    have HB14 := hid (HB13.out.below hb (Nat.le_refl _))
    have HL14 := hid (HL13.out.below hb (Nat.le_refl _))
    clear hb HX13 HY13 HB13 HL13
    go_wp2_with fail
    refine (not_any U un uc u w14 HU14.out (by omega) H3U.out).mono ?_
    rintro e w15 ⟨N, nn, nc, rfl, hq, hb⟩
    have HN15 := hid hq
    have hNL : nn ≤ 1000 := by
      have h0 := hq.1
      rw [HKU.out, HDM2.out] at h0
      omega
    clear hq
    have H15 := hid (H14.out.trans (hb.mono s14))
    have s15 := H15.out.size
    have HX15 := hid (HX14.out.below hb (Nat.le_refl _))
    have HY15 := hid (HY14.out.below hb (Nat.le_refl _))
    have HB15 := hid (HB14.out.below hb (Nat.le_refl _))
    have HL15 := hid (HL14.out.below hb (Nat.le_refl _))
    have HU15 := hid (HU14.out.below hb (Nat.le_refl _))
    clear hb HX14 HY14 HB14 HL14 HU14
    have HN15 := hid ((show notR (knownL u) = cutR NA NB by rw [HKU.out, HDM2.out]) ▸ HN15.out)
    go_wp2_with fail
    refine (not_any X xn xc KA w15 HX15.out (by omega) H3KA.out).mono ?_
    rintro e w16 ⟨NX, nxn, nxc, rfl, hq, hb⟩
    have HNX16 := hid hq
    have hNXL : nxn ≤ 1000 := by
      have h0 := hq.1
      rw [HKKA.out, ← HEA.out] at h0
      omega
    clear hq
    have H16 := hid (H15.out.trans (hb.mono s15))
    have s16 := H16.out.size
    have HX16 := hid (HX15.out.below hb (Nat.le_refl _))
    have HY16 := hid (HY15.out.below hb (Nat.le_refl _))
    have HB16 := hid (HB15.out.below hb (Nat.le_refl _))
    have HL16 := hid (HL15.out.below hb (Nat.le_refl _))
    have HN16 := hid (HN15.out.below hb (Nat.le_refl _))
    clear hb HX15 HY15 HB15 HL15 HN15
    have HNX16 := hid ((show notR (knownL KA) = NA by rw [HKKA.out, HEA.out]) ▸ HNX16.out)
    go_wp2_with fail
    refine (not_any Y yn yc KB w16 HY16.out (by omega) H3KB.out).mono ?_
    rintro e w17 ⟨NY, nyn, nyc, rfl, hq, hb⟩
    have HNY17 := hid hq
    have hNYL : nyn ≤ 1000 := by
      have h0 := hq.1
      rw [HKKB.out, ← HEB.out] at h0
      omega
    clear hq
    have H17 := hid (H16.out.trans (hb.mono s16))
    have s17 := H17.out.size
    have HX17 := hid (HX16.out.below hb (Nat.le_refl _))
    have HY17 := hid (HY16.out.below hb (Nat.le_refl _))
    have HB17 := hid (HB16.out.below hb (Nat.le_refl _))
    have HL17 := hid (HL16.out.below hb (Nat.le_refl _))
    have HN17 := hid (HN16.out.below hb (Nat.le_refl _))
    have HNX17 := hid (HNX16.out.below hb (Nat.le_refl _))
    clear hb HX16 HY16 HB16 HL16 HN16 HNX16
    have HNY17 := hid ((show notR (knownL KB) = NB by rw [HKKB.out, HEB.out]) ▸ HNY17.out)
    go_wp2_with fail
    refine (cut_any NX nxn nxc NA NY nyn nyc NB w17 HNX17.out HNY17.out (by omega) (by omega) H3NA.out H3NB.out).mono ?_
    rintro e w18 ⟨C, cn, cc, rfl, hq, hb⟩
    have HC18 := hid hq
    have hCL : cn ≤ 1000 := by
      have h0 := hq.1
      rw [HKNA.out, HKNB.out] at h0
      omega
    clear hq
    have H18 := hid (H17.out.trans (hb.mono s17))
    have s18 := H18.out.size
    have HX18 := hid (HX17.out.below hb (Nat.le_refl _))
    have HY18 := hid (HY17.out.below hb (Nat.le_refl _))
    have HB18 := hid (HB17.out.below hb (Nat.le_refl _))
    have HL18 := hid (HL17.out.below hb (Nat.le_refl _))
    have HN18 := hid (HN17.out.below hb (Nat.le_refl _))
    have HNX18 := hid (HNX17.out.below hb (Nat.le_refl _))
    have HNY18 := hid (HNY17.out.below hb (Nat.le_refl _))
    clear hb HX17 HY17 HB17 HL17 HN17 HNX17 HNY17
    have HC18 := hid ((show cutR (knownL NA) (knownL NB) = cutR NA NB by rw [HKNA.out, HKNB.out]) ▸ HC18.out)
    have H3NN := hid (in32_of_ok (right_ok HNNr.out))
    go_wp2_with fail
    refine (same_any N nn nc (cutR NA NB) C cn cc (cutR NA NB) w18 HN18.out HC18.out (by omega) (by omega) H3NN.out H3NN.out).mono ?_
    rintro e w19 ⟨rfl, hb⟩
    have H19 := hid (H18.out.trans (hb.mono s18))
    have s19 := H19.out.size
    have HX19 := hid (HX18.out.below hb (Nat.le_refl _))
    have HY19 := hid (HY18.out.below hb (Nat.le_refl _))
    have HB19 := hid (HB18.out.below hb (Nat.le_refl _))
    have HL19 := hid (HL18.out.below hb (Nat.le_refl _))
    have HN19 := hid (HN18.out.below hb (Nat.le_refl _))
    have HC19 := hid (HC18.out.below hb (Nat.le_refl _))
    clear hb HX18 HY18 HB18 HL18 HN18 HC18
    rw [same_self]
    go_wp2_with fail
    refine (not_any X xn xc KA w19 HX19.out (by omega) H3KA.out).mono ?_
    rintro e w20 ⟨D, dn, dc, rfl, hq, hb⟩
    have HD20 := hid hq
    have hDL : dn ≤ 1000 := by
      have h0 := hq.1
      rw [HKKA.out, ← HEA.out] at h0
      omega
    clear hq
    have H20 := hid (H19.out.trans (hb.mono s19))
    have s20 := H20.out.size
    have HX20 := hid (HX19.out.below hb (Nat.le_refl _))
    have HY20 := hid (HY19.out.below hb (Nat.le_refl _))
    have HB20 := hid (HB19.out.below hb (Nat.le_refl _))
    have HL20 := hid (HL19.out.below hb (Nat.le_refl _))
    clear hb HX19 HY19 HB19 HL19
    have HD20 := hid ((show notR (knownL KA) = NA by rw [HKKA.out, HEA.out]) ▸ HD20.out)
    go_wp2_with fail
    refine (not_any D dn dc NA w20 HD20.out (by omega) H3NA.out).mono ?_
    rintro e w21 ⟨E, en, ec, rfl, hq, hb⟩
    have HE21 := hid hq
    have hEL : en ≤ 1000 := by
      have h0 := hq.1
      rw [HKNA.out, HNN.out] at h0
      omega
    clear hq
    have H21 := hid (H20.out.trans (hb.mono s20))
    have s21 := H21.out.size
    have HX21 := hid (HX20.out.below hb (Nat.le_refl _))
    have HY21 := hid (HY20.out.below hb (Nat.le_refl _))
    have HB21 := hid (HB20.out.below hb (Nat.le_refl _))
    have HL21 := hid (HL20.out.below hb (Nat.le_refl _))
    have HD21 := hid (HD20.out.below hb (Nat.le_refl _))
    clear hb HX20 HY20 HB20 HL20 HD20
    have HE21 := hid ((show notR (knownL NA) = KA by rw [HKNA.out, HNN.out]) ▸ HE21.out)
    go_wp2_with fail
    refine (same_any E en ec KA X xn xc KA w21 HE21.out HX21.out (by omega) (by omega) H3KA.out H3KA.out).mono ?_
    rintro e w22 ⟨rfl, hb⟩
    have H22 := hid (H21.out.trans (hb.mono s21))
    have s22 := H22.out.size
    have HX22 := hid (HX21.out.below hb (Nat.le_refl _))
    have HY22 := hid (HY21.out.below hb (Nat.le_refl _))
    have HB22 := hid (HB21.out.below hb (Nat.le_refl _))
    have HL22 := hid (HL21.out.below hb (Nat.le_refl _))
    have HE22 := hid (HE21.out.below hb (Nat.le_refl _))
    clear hb HX21 HY21 HB21 HL21 HE21
    rw [same_self]
    go_wp2_with fail
    have hb : Below w22.heap.size w22 (w22.alloc (.cells #[.slice B bn bc, .slice L ln lc] 25)) := (Below.refl _ _).alloc (Nat.le_refl _) _
    have hrs := rrs_two (Blk.new w22 25 #[.slice B bn bc, .slice L ln lc]) (HB22.out.below hb (Nat.le_refl _)) (HL22.out.below hb (Nat.le_refl _)) H3BO.out H3AL.out (by omega) (by omega)
    have HRS := hid hrs
    clear hrs
    go_wp2_with fail
    have H23 := hid (H22.out.trans (hb.mono s22))
    have s23 := H23.out.size
    have HX23 := hid (HX22.out.below hb (Nat.le_refl _))
    have HY23 := hid (HY22.out.below hb (Nat.le_refl _))
    have HB23 := hid (HB22.out.below hb (Nat.le_refl _))
    have HL23 := hid (HL22.out.below hb (Nat.le_refl _))
    clear hb HX22 HY22 HB22 HL22
    generalize w22.alloc (.cells #[.slice B bn bc, .slice L ln lc] 25) = w23 at *
    refine (union_any _ 2 2 [BO, AL] w23 HRS.out (by show BO.length + (AL.length + 0) ≤ 900000; omega) (by decide)).mono ?_
    rintro e w24 ⟨u, hu1, hu2, V, vn, vc, rfl, hq, hb⟩
    obtain rfl : KA = u := (HPW.out u hu1 hu2).symm
    have HV24 := hid hq
    have hVL : vn ≤ 1000 := by
      have h0 := hq.1

      omega
    clear hu1 hu2 hq HRS
    have H24 := hid (H23.out.trans (hb.mono s23))
    have s24 := H24.out.size
    have HX24 := hid (HX23.out.below hb (Nat.le_refl _))
    have HY24 := hid (HY23.out.below hb (Nat.le_refl _))
    have HB24 := hid (HB23.out.below hb (Nat.le_refl _))
    have HL24 := hid (HL23.out.below hb (Nat.le_refl _))
    clear hb HX23 HY23 HB23 HL23
    go_wp2_with fail
    refine (same_any V vn vc KA X xn xc KA w24 HV24.out HX24.out (by omega) (by omega) H3KA.out H3KA.out).mono ?_
    rintro e w25 ⟨rfl, hb⟩
    have H25 := hid (H24.out.trans (hb.mono s24))
    have s25 := H25.out.size
    have HX25 := hid (HX24.out.below hb (Nat.le_refl _))
    have HY25 := hid (HY24.out.below hb (Nat.le_refl _))
    have HB25 := hid (HB24.out.below hb (Nat.le_refl _))
    have HL25 := hid (HL24.out.below hb (Nat.le_refl _))
    have HV25 := hid (HV24.out.below hb (Nat.le_refl _))
    clear hb HX24 HY24 HB24 HL24 HV24
    rw [same_self]
    go_wp2_with fail
    refine (cut_any B bn bc BO L ln lc AL w25 HB25.out HL25.out (by omega) (by omega) H3BO.out H3AL.out).mono ?_
    rintro e w26 ⟨F, fn, fc, rfl, hq, hb⟩
    have HF26 := hid hq
    have hFL : fn ≤ 1000 := by
      have h0 := hq.1
      rw [HKBO.out, HKAL.out, HPA2.out, List.length_nil] at h0
      omega
    clear hq
    have H26 := hid (H25.out.trans (hb.mono s25))
    have s26 := H26.out.size
    have HX26 := hid (HX25.out.below hb (Nat.le_refl _))
    have HY26 := hid (HY25.out.below hb (Nat.le_refl _))
    have HB26 := hid (HB25.out.below hb (Nat.le_refl _))
    have HL26 := hid (HL25.out.below hb (Nat.le_refl _))
    clear hb HX25 HY25 HB25 HL25
    have HF26 := hid ((show cutR (knownL BO) (knownL AL) = [] by rw [HKBO.out, HKAL.out, HPA2.out]) ▸ HF26.out)
    have HCF := hid (count_any F fn fc [] w26 HF26.out (by omega) (fun x hx => by cases hx))
    rw [show countR (knownL []) = 0 from rfl] at HCF
    go_wp2_with fail
    refine (HCF.out).mono ?_
    rintro e w27 ⟨rfl, hb⟩
    have H27 := hid (H26.out.trans (hb.mono s26))
    have s27 := H27.out.size
    have HX27 := hid (HX26.out.below hb (Nat.le_refl _))
    have HY27 := hid (HY26.out.below hb (Nat.le_refl _))
    have HB27 := hid (HB26.out.below hb (Nat.le_refl _))
    have HL27 := hid (HL26.out.below hb (Nat.le_refl _))
    have HF27 := hid (HF26.out.below hb (Nat.le_refl _))
    clear hb HX26 HY26 HB26 HL26 HF26
    have HCT := hid (count_any X xn xc KA w27 HX27.out (by omega) H3KA.out)
    rw [HKKA.out] at HCT
    go_wp2_with fail
    refine (HCT.out).mono ?_
    rintro e w28 ⟨rfl, hb⟩
    have H28 := hid (H27.out.trans (hb.mono s27))
    have s28 := H28.out.size
    have HX28 := hid (HX27.out.below hb (Nat.le_refl _))
    have HY28 := hid (HY27.out.below hb (Nat.le_refl _))
    have HB28 := hid (HB27.out.below hb (Nat.le_refl _))
    have HL28 := hid (HL27.out.below hb (Nat.le_refl _))
    clear hb HX27 HY27 HB27 HL27
    clear HCT
    go_wp2_with fail
    refine (not_any X xn xc KA w28 HX28.out (by omega) H3KA.out).mono ?_
    rintro e w29 ⟨G, gn, gc, rfl, hq, hb⟩
    have HG29 := hid hq
    have hGL : gn ≤ 1000 := by
      have h0 := hq.1
      rw [HKKA.out, ← HEA.out] at h0
      omega
    clear hq
    have H29 := hid (H28.out.trans (hb.mono s28))
    have s29 := H29.out.size
    have HX29 := hid (HX28.out.below hb (Nat.le_refl _))
    have HY29 := hid (HY28.out.below hb (Nat.le_refl _))
    have HB29 := hid (HB28.out.below hb (Nat.le_refl _))
    have HL29 := hid (HL28.out.below hb (Nat.le_refl _))
    clear hb HX28 HY28 HB28 HL28
    have HG29 := hid ((show notR (knownL KA) = NA by rw [HKKA.out, HEA.out]) ▸ HG29.out)
    have e1 : IntKind.i64.wrap (countR KA + countR NA) = countR KA + countR NA := IntWalk.i64_in _ (by omega)
    have e2 : (countR KA + countR NA == 1114112) = true := by rw [HNC.out]; rfl
    have e2b : countR KA + countR NA = 1114112 := HNC.out
    have HCT := hid (count_any G gn gc NA w29 HG29.out (by omega) H3NA.out)
    rw [HKNA.out] at HCT
    go_wp2_with fail
    refine (HCT.out).mono ?_
    rintro e w30 ⟨rfl, hb⟩
    have H30 := hid (H29.out.trans (hb.mono s29))
    have s30 := H30.out.size
    have HX30 := hid (HX29.out.below hb (Nat.le_refl _))
    have HY30 := hid (HY29.out.below hb (Nat.le_refl _))
    have HB30 := hid (HB29.out.below hb (Nat.le_refl _))
    have HL30 := hid (HL29.out.below hb (Nat.le_refl _))
    have HG30 := hid (HG29.out.below hb (Nat.le_refl _))
    clear hb HX29 HY29 HB29 HL29 HG29
    clear HCT
    have HCT := hid (count_any B bn bc BO w30 HB30.out (by omega) H3BO.out)
    rw [HKBO.out] at HCT
    go_wp2_with fail
    refine (HCT.out).mono ?_
    rintro e w31 ⟨rfl, hb⟩
    have H31 := hid (H30.out.trans (hb.mono s30))
    have s31 := H31.out.size
    have HX31 := hid (HX30.out.below hb (Nat.le_refl _))
    have HY31 := hid (HY30.out.below hb (Nat.le_refl _))
    have HB31 := hid (HB30.out.below hb (Nat.le_refl _))
    have HL31 := hid (HL30.out.below hb (Nat.le_refl _))
    clear hb HX30 HY30 HB30 HL30
    clear HCT
    have e3 : IntKind.i64.wrap (countR BO + countR AL) = countR BO + countR AL := IntWalk.i64_in _ (by omega)
    have HCT := hid (count_any L ln lc AL w31 HL31.out (by omega) H3AL.out)
    rw [HKAL.out] at HCT
    go_wp2_with fail
    refine (HCT.out).mono ?_
    rintro e w32 ⟨rfl, hb⟩
    have H32 := hid (H31.out.trans (hb.mono s31))
    have s32 := H32.out.size
    have HX32 := hid (HX31.out.below hb (Nat.le_refl _))
    have HY32 := hid (HY31.out.below hb (Nat.le_refl _))
    have HB32 := hid (HB31.out.below hb (Nat.le_refl _))
    have HL32 := hid (HL31.out.below hb (Nat.le_refl _))
    clear hb HX31 HY31 HB31 HL31
    clear HCT
    have e4 : (countR BO + countR AL == countR KA) = true := by rw [HPC.out]; simp
    have e5 : countR BO + countR AL = countR KA := HPC.out
    have HCT := hid (count_any X xn xc KA w32 HX32.out (by omega) H3KA.out)
    rw [HKKA.out] at HCT
    go_wp2_with fail
    refine (HCT.out).mono ?_
    rintro e w33 ⟨rfl, hb⟩
    have H33 := hid (H32.out.trans (hb.mono s32))
    have s33 := H33.out.size
    have HX33 := hid (HX32.out.below hb (Nat.le_refl _))
    have HY33 := hid (HY32.out.below hb (Nat.le_refl _))
    have HB33 := hid (HB32.out.below hb (Nat.le_refl _))
    have HL33 := hid (HL32.out.below hb (Nat.le_refl _))
    clear hb HX32 HY32 HB32 HL32
    clear HCT
    go_wp2_with fail
    go_ret
    exact ⟨rfl, H33.out⟩
end Go.Proofs.YteddhjfbnanplaaDoor.rangesLaws
