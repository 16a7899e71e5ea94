/- The law RangesJoin: the walk. -/
import Derived.Test.YteddhjfbnanplaaDoorRgJn
namespace Go.Proofs.YteddhjfbnanplaaDoor.rangesJoin
open Go.RowKit
open Go.Lib (hid)
set_option linter.unusedVariables false
set_option maxRecDepth 100000

set_option maxHeartbeats 4000000 in
theorem walk (a : Option Addr) (aLen aCap : Nat) (aD : List (List Value)) (b : Option Addr) (bLen bCap : Nat) (bD : List (List Value)) (w : World) (w0 : IsAggRow [.int .i32, .int .i32] w a aLen aCap aD) (w1 : IsAggRow [.int .i32, .int .i32] w b bLen bCap bD) (hdb : Db w) :
    Calls Tryd.prog 5 #[.slice a aLen aCap, .slice b bLen bCap] w fun e w' => e = .returned (.bool true) ∧ Below w.heap.size w w' := by
  obtain ⟨LA, hA, hA32⟩ := rr_of w0
  obtain ⟨LB, hB, hB32⟩ := rr_of w1
  have HAW := hid (awake_any w hdb)
  have HA := hid hA
  have HB := hid hB
  have HNA := hid hA.1
  have HNB := hid hB.1
  have HA32 := hid hA32
  have HB32 := hid hB32
  clear w0 w1 hdb hA hB hA32 hB32
  by_cases hbig : 20 < aLen ∨ 20 < bLen
  · by_cases hba : 20 < aLen
    · have hbig' : (20 : Int) < (aLen : Int) := by omega
      clear hbig
      go_enter Tryd.func5, Tryd.ntmps5
      go_wp2_with fail
      refine HAW.out.mono ?_
      rintro e w2 ⟨rfl, hb⟩
      have HBB := hid hb
      clear hb
      go_wp2_with fail
      go_ret
      exact ⟨rfl, HBB.out⟩
    · have hbig' : ¬ (20 : Int) < (aLen : Int) := by omega
      have hbig2 : (20 : Int) < (bLen : Int) := by omega
      clear hbig
      go_enter Tryd.func5, Tryd.ntmps5
      go_wp2_with fail
      refine HAW.out.mono ?_
      rintro e w2 ⟨rfl, hb⟩
      have HBB := hid hb
      clear hb
      go_wp2_with fail
      go_ret
      exact ⟨rfl, HBB.out⟩
  · have hba : aLen ≤ 20 := by omega
    have hbb : bLen ≤ 20 := by omega
    have hbig' : ¬ (20 : Int) < (aLen : Int) := by omega
    have hbig2 : ¬ (20 : Int) < (bLen : Int) := by omega
    clear hbig
    have hka := knownL_len LA
    have hkb := knownL_len LB
    rw [← HNA.out] at hka
    rw [← HNB.out] at hkb
    have HKA := hid (knownL_right LA)
    have HKB := hid (knownL_right LB)
    go_enter Tryd.func5, Tryd.ntmps5
    go_wp2_with fail
    refine HAW.out.mono ?_
    rintro e w2 ⟨rfl, hb⟩
    have H2 := hid hb
    have s2 := hb.size
    clear hb HAW
    go_wp2_with fail
    refine (to_any a aLen aCap LA w2 (HA.out.below H2.out (Nat.le_refl _)) (by omega)).mono ?_
    rintro e w3 ⟨X, xn, xc, rfl, hx, hb⟩
    have H3 := hid (H2.out.trans (hb.mono s2))
    have s3 := H3.out.size
    have HX3 := hid hx
    have hxn : xn = aLen := hx.1.trans HNA.out.symm
    subst hxn
    clear hx hb
    go_wp2_with fail
    refine (to_any b bLen bCap LB w3 (HB.out.below H3.out (Nat.le_refl _)) (by omega)).mono ?_
    rintro e w4 ⟨Y, yn, yc, rfl, hy, hb⟩
    have H4 := hid (H3.out.trans (hb.mono s3))
    have s4 := H4.out.size
    have HY4 := hid hy
    have HX4 := hid (HX3.out.below hb (Nat.le_refl _))
    have hyn : yn = bLen := hy.1.trans HNB.out.symm
    subst hyn
    clear hy hb HX3
    go_wp2_with fail
    refine (refknown_any a xn aCap LA w4 (HA.out.below H4.out (Nat.le_refl _)) (by omega) HA32.out).mono ?_
    rintro e w5 ⟨K, kn, kc, rfl, hk, hb⟩
    have H5 := hid (H4.out.trans (hb.mono s4))
    have s5 := H5.out.size
    have HK5 := hid hk
    have HY5 := hid (HY4.out.below hb (Nat.le_refl _))
    have HX5 := hid (HX4.out.below hb (Nat.le_refl _))
    have hkn : kn ≤ 20 := by have := hk.1; omega
    clear hk hb HX4 HY4
    go_wp2_with fail
    refine (refknown_any b yn bCap LB w5 (HB.out.below H5.out (Nat.le_refl _)) (by omega) HB32.out).mono ?_
    rintro e w6 ⟨M, mn, mc, rfl, hm, hb⟩
    have H6 := hid (H5.out.trans (hb.mono s5))
    have s6 := H6.out.size
    have HM6 := hid hm
    have HK6 := hid (HK5.out.below hb (Nat.le_refl _))
    have HY6 := hid (HY5.out.below hb (Nat.le_refl _))
    have HX6 := hid (HX5.out.below hb (Nat.le_refl _))
    have hmn : mn ≤ 20 := by have := hm.1; omega
    clear hm hb HK5 HX5 HY5
    go_wp2_with fail
    refine (isright_any X xn xc LA w6 HX6.out (by omega) HA32.out).mono ?_
    rintro e w7 ⟨rfl, hb⟩
    have H7 := hid (H6.out.trans (hb.mono s6))
    have s7 := H7.out.size
    have HM7 := hid (HM6.out.below hb (Nat.le_refl _))
    have HK7 := hid (HK6.out.below hb (Nat.le_refl _))
    have HY7 := hid (HY6.out.below hb (Nat.le_refl _))
    have HX7 := hid (HX6.out.below hb (Nat.le_refl _))
    clear hb HK6 HX6 HY6 HM6
    go_wp2_with fail
    refine (refisright_any a xn aCap LA w7 (HA.out.below H7.out (Nat.le_refl _)) (by omega) HA32.out).mono ?_
    rintro e w8 ⟨rfl, hb⟩
    have H8 := hid (H7.out.trans (hb.mono s7))
    have s8 := H8.out.size
    have HM8 := hid (HM7.out.below hb (Nat.le_refl _))
    have HK8 := hid (HK7.out.below hb (Nat.le_refl _))
    have HY8 := hid (HY7.out.below hb (Nat.le_refl _))
    have HX8 := hid (HX7.out.below hb (Nat.le_refl _))
    clear hb HK7 HX7 HY7 HM7
    have hrr : (rightB LA != rightB LA) = false := by simp
    have HS8 := hid (same_any X xn xc LA Y yn yc LB w8 HX8.out HY8.out (by omega) (by omega) HA32.out HB32.out)
    go_wp2_with fail
    refine HS8.out.mono ?_
    rintro e w9 ⟨rfl, hb⟩
    have H9 := hid (H8.out.trans (hb.mono s8))
    have s9 := H9.out.size
    have HM9 := hid (HM8.out.below hb (Nat.le_refl _))
    have HK9 := hid (HK8.out.below hb (Nat.le_refl _))
    have HY9 := hid (HY8.out.below hb (Nat.le_refl _))
    have HX9 := hid (HX8.out.below hb (Nat.le_refl _))
    clear hb HK8 HX8 HY8 HM8 HS8
    go_wp2_with fail
    refine (refprint_any K kn kc (knownL LA) w9 HK9.out (by omega) (right_ok HKA.out)).mono ?_
    rintro e w10 ⟨rfl, hb⟩
    have H10 := hid (H9.out.trans (hb.mono s9))
    have s10 := H10.out.size
    have HM10 := hid (HM9.out.below hb (Nat.le_refl _))
    have HK10 := hid (HK9.out.below hb (Nat.le_refl _))
    have HY10 := hid (HY9.out.below hb (Nat.le_refl _))
    have HX10 := hid (HX9.out.below hb (Nat.le_refl _))
    clear hb HK9 HX9 HY9 HM9
    go_wp2_with fail
    refine (refprint_any M mn mc (knownL LB) w10 HM10.out (by omega) (right_ok HKB.out)).mono ?_
    rintro e w11 ⟨rfl, hb⟩
    have H11 := hid (H10.out.trans (hb.mono s10))
    have s11 := H11.out.size
    have HM11 := hid (HM10.out.below hb (Nat.le_refl _))
    have HK11 := hid (HK10.out.below hb (Nat.le_refl _))
    have HY11 := hid (HY10.out.below hb (Nat.le_refl _))
    have HX11 := hid (HX10.out.below hb (Nat.le_refl _))
    clear hb HK10 HX10 HY10 HM10
    have hpe : ((mkB (printD (knownL LA))).toList == (mkB (printD (knownL LB))).toList) = sameB (knownL LA) (knownL LB) := by
      unfold sameB
      by_cases e : knownL LA = knownL LB
      · rw [e, decide_eq_true rfl]; simp
      · rw [decide_eq_false e]
        simp only [beq_eq_false_iff_ne, ne_eq]
        intro h
        refine e (printD_inj (right_ok HKA.out) (right_ok HKB.out) (mkB_inj ?_))
        apply ByteArray.ext
        apply Array.toList_inj.1
        rw [← Lib.toList_data, ← Lib.toList_data]
        exact h
    generalize sameB (knownL LA) (knownL LB) = sb at *
    have hsb : (sb == sb) = true := by simp
    have HEU := hid (fun (u : List Rg) (h1 : rightR u) (h2 : ∀ r, memR u r ↔ ∃ x ∈ [LA, LB], memR (knownL x) r) => u_two h1 h2)
    have HEC := hid (cut_is HKA.out HKB.out)
    have HEM := hid (minus_is HKA.out HKB.out)
    have HEN := hid (not_is HKA.out)
    have hsum : ([LA, LB].map List.length).sum ≤ 900000 := by
      have := HNA.out
      have := HNB.out
      show LA.length + (LB.length + 0) ≤ _
      omega
    have hg0 := gathR_len (knownL LA) (knownL LB) 0
    have hg1 := gathR_len (knownL LA) (knownL LB) 1
    have hg2 := gathR_len (knownL LA) (knownL LB) 2
    have hg3 := gathR_len (knownL LA) [] 3
    rw [List.length_append] at hg0 hg1 hg2 hg3
    rw [List.length_nil] at hg3
    have HOA := hid (right_ok HKA.out)
    have HOB := hid (right_ok HKB.out)
    have hb12 : Below w.heap.size w (w11.alloc (.cells #[.slice X xn xc, .slice Y yn yc] 25)) := H11.out.alloc s11 _
    have hb11 : Below w11.heap.size w11 (w11.alloc (.cells #[.slice X xn xc, .slice Y yn yc] 25)) := (Below.refl _ _).alloc (Nat.le_refl _) _
    have hrs := rrs_two (Blk.new w11 25 #[.slice X xn xc, .slice Y yn yc]) (HX11.out.below hb11 (Nat.le_refl _)) (HY11.out.below hb11 (Nat.le_refl _)) HA32.out HB32.out (by omega) (by omega)
    have HRS := hid hrs
    have H12 := hid hb12
    have s12 := H12.out.size
    have HM12 := hid (HM11.out.below hb11 (Nat.le_refl _))
    have HK12 := hid (HK11.out.below hb11 (Nat.le_refl _))
    have HY12 := hid (HY11.out.below hb11 (Nat.le_refl _))
    have HX12 := hid (HX11.out.below hb11 (Nat.le_refl _))
    clear HM11 HK11 HY11 HX11 hrs hb11 hb12
    go_wp2_with fail
    generalize w11.alloc (.cells #[.slice X xn xc, .slice Y yn yc] 25) = w12 at *
    refine (union_any _ 2 2 [LA, LB] w12 HRS.out hsum (by decide)).mono ?_
    rintro e w13 ⟨u, hu1, hu2, U, un, uc, rfl, hu, hb⟩
    obtain rfl := HEU.out u hu1 hu2
    have HU13 := hid hu
    have HUL := hid hu.1
    clear hu1 hu2 hu
    have H13 := hid (H12.out.trans (hb.mono s12))
    have s13 := H13.out.size
    have HM13 := hid (HM12.out.below hb (Nat.le_refl _))
    have HK13 := hid (HK12.out.below hb (Nat.le_refl _))
    have HY13 := hid (HY12.out.below hb (Nat.le_refl _))
    have HX13 := hid (HX12.out.below hb (Nat.le_refl _))
    clear hb HM12 HK12 HY12 HX12
    go_wp2_with fail
    refine (refunion_any K kn kc (knownL LA) M mn mc (knownL LB) w13 HK13.out HM13.out (by omega) (by omega) HOA.out HOB.out).mono ?_
    rintro e w14 ⟨RA, ran, rac, rfl, hq, hb⟩
    have HRA14 := hid hq
    have hRAL : ran ≤ 1000 := by
      have h0 := hq.1
      
      omega
    clear hq
    have H14 := hid (H13.out.trans (hb.mono s13))
    have s14 := H14.out.size
    have HM14 := hid (HM13.out.below hb (Nat.le_refl _))
    have HK14 := hid (HK13.out.below hb (Nat.le_refl _))
    have HY14 := hid (HY13.out.below hb (Nat.le_refl _))
    have HX14 := hid (HX13.out.below hb (Nat.le_refl _))
    have HU14 := hid (HU13.out.below hb (Nat.le_refl _))
    clear hb HM13 HK13 HY13 HX13 HU13
    go_wp2_with fail
    refine (is_any U un uc (gathR (knownL LA) (knownL LB) 0) RA ran rac (gathR (knownL LA) (knownL LB) 0) w14 HU14.out HRA14.out (by omega)).mono ?_
    rintro e w15 ⟨rfl, hb⟩
    rw [same_self]
    have H15 := hid (H14.out.trans (hb.mono s14))
    have s15 := H15.out.size
    have HM15 := hid (HM14.out.below hb (Nat.le_refl _))
    have HK15 := hid (HK14.out.below hb (Nat.le_refl _))
    have HY15 := hid (HY14.out.below hb (Nat.le_refl _))
    have HX15 := hid (HX14.out.below hb (Nat.le_refl _))
    have HU15 := hid (HU14.out.below hb (Nat.le_refl _))
    have HRA15 := hid (HRA14.out.below hb (Nat.le_refl _))
    clear hb HM14 HK14 HY14 HX14 HU14 HRA14
    go_wp2_with fail
    refine (cut_any X xn xc LA Y yn yc LB w15 HX15.out HY15.out (by omega) (by omega) HA32.out HB32.out).mono ?_
    rintro e w16 ⟨CA, can, cac, rfl, hq, hb⟩
    have HCA16 := hid hq
    have hCAL : can ≤ 1000 := by
      have h0 := hq.1
      rw [HEC.out] at h0
      omega
    clear hq
    have H16 := hid (H15.out.trans (hb.mono s15))
    have s16 := H16.out.size
    have HM16 := hid (HM15.out.below hb (Nat.le_refl _))
    have HK16 := hid (HK15.out.below hb (Nat.le_refl _))
    have HY16 := hid (HY15.out.below hb (Nat.le_refl _))
    have HX16 := hid (HX15.out.below hb (Nat.le_refl _))
    clear hb HM15 HK15 HY15 HX15
    go_wp2_with fail
    refine (refcut_any K kn kc (knownL LA) M mn mc (knownL LB) w16 HK16.out HM16.out (by omega) (by omega) HOA.out HOB.out).mono ?_
    rintro e w17 ⟨CB, cbn, cbc, rfl, hq, hb⟩
    have HCB17 := hid hq
    have hCBL : cbn ≤ 1000 := by
      have h0 := hq.1
      
      omega
    clear hq
    have H17 := hid (H16.out.trans (hb.mono s16))
    have s17 := H17.out.size
    have HM17 := hid (HM16.out.below hb (Nat.le_refl _))
    have HK17 := hid (HK16.out.below hb (Nat.le_refl _))
    have HY17 := hid (HY16.out.below hb (Nat.le_refl _))
    have HX17 := hid (HX16.out.below hb (Nat.le_refl _))
    have HCA17 := hid (HCA16.out.below hb (Nat.le_refl _))
    clear hb HM16 HK16 HY16 HX16 HCA16
    have HCA17 := hid (HEC.out ▸ HCA17.out)
    go_wp2_with fail
    refine (is_any CA can cac (gathR (knownL LA) (knownL LB) 1) CB cbn cbc (gathR (knownL LA) (knownL LB) 1) w17 HCA17.out HCB17.out (by omega)).mono ?_
    rintro e w18 ⟨rfl, hb⟩
    rw [same_self]
    have H18 := hid (H17.out.trans (hb.mono s17))
    have s18 := H18.out.size
    have HM18 := hid (HM17.out.below hb (Nat.le_refl _))
    have HK18 := hid (HK17.out.below hb (Nat.le_refl _))
    have HY18 := hid (HY17.out.below hb (Nat.le_refl _))
    have HX18 := hid (HX17.out.below hb (Nat.le_refl _))
    have HCA18 := hid (HCA17.out.below hb (Nat.le_refl _))
    have HCB18 := hid (HCB17.out.below hb (Nat.le_refl _))
    clear hb HM17 HK17 HY17 HX17 HCA17 HCB17
    go_wp2_with fail
    refine (minus_any X xn xc LA Y yn yc LB w18 HX18.out HY18.out (by omega) (by omega) HA32.out HB32.out).mono ?_
    rintro e w19 ⟨MA, man, mac, rfl, hq, hb⟩
    have HMA19 := hid hq
    have hMAL : man ≤ 1000 := by
      have h0 := hq.1
      rw [HEM.out] at h0
      omega
    clear hq
    have H19 := hid (H18.out.trans (hb.mono s18))
    have s19 := H19.out.size
    have HM19 := hid (HM18.out.below hb (Nat.le_refl _))
    have HK19 := hid (HK18.out.below hb (Nat.le_refl _))
    have HY19 := hid (HY18.out.below hb (Nat.le_refl _))
    have HX19 := hid (HX18.out.below hb (Nat.le_refl _))
    clear hb HM18 HK18 HY18 HX18
    go_wp2_with fail
    refine (refminus_any K kn kc (knownL LA) M mn mc (knownL LB) w19 HK19.out HM19.out (by omega) (by omega) HOA.out HOB.out).mono ?_
    rintro e w20 ⟨MB, mbn, mbc, rfl, hq, hb⟩
    have HMB20 := hid hq
    have hMBL : mbn ≤ 1000 := by
      have h0 := hq.1
      
      omega
    clear hq
    have H20 := hid (H19.out.trans (hb.mono s19))
    have s20 := H20.out.size
    have HM20 := hid (HM19.out.below hb (Nat.le_refl _))
    have HK20 := hid (HK19.out.below hb (Nat.le_refl _))
    have HY20 := hid (HY19.out.below hb (Nat.le_refl _))
    have HX20 := hid (HX19.out.below hb (Nat.le_refl _))
    have HMA20 := hid (HMA19.out.below hb (Nat.le_refl _))
    clear hb HM19 HK19 HY19 HX19 HMA19
    have HMA20 := hid (HEM.out ▸ HMA20.out)
    go_wp2_with fail
    refine (is_any MA man mac (gathR (knownL LA) (knownL LB) 2) MB mbn mbc (gathR (knownL LA) (knownL LB) 2) w20 HMA20.out HMB20.out (by omega)).mono ?_
    rintro e w21 ⟨rfl, hb⟩
    rw [same_self]
    have H21 := hid (H20.out.trans (hb.mono s20))
    have s21 := H21.out.size
    have HM21 := hid (HM20.out.below hb (Nat.le_refl _))
    have HK21 := hid (HK20.out.below hb (Nat.le_refl _))
    have HY21 := hid (HY20.out.below hb (Nat.le_refl _))
    have HX21 := hid (HX20.out.below hb (Nat.le_refl _))
    have HMA21 := hid (HMA20.out.below hb (Nat.le_refl _))
    have HMB21 := hid (HMB20.out.below hb (Nat.le_refl _))
    clear hb HM20 HK20 HY20 HX20 HMA20 HMB20
    go_wp2_with fail
    refine (not_any X xn xc LA w21 HX21.out (by omega) HA32.out).mono ?_
    rintro e w22 ⟨NA, nan, nac, rfl, hq, hb⟩
    have HNA22 := hid hq
    have hNAL : nan ≤ 1000 := by
      have h0 := hq.1
      rw [HEN.out] at h0
      omega
    clear hq
    have H22 := hid (H21.out.trans (hb.mono s21))
    have s22 := H22.out.size
    have HM22 := hid (HM21.out.below hb (Nat.le_refl _))
    have HK22 := hid (HK21.out.below hb (Nat.le_refl _))
    have HY22 := hid (HY21.out.below hb (Nat.le_refl _))
    have HX22 := hid (HX21.out.below hb (Nat.le_refl _))
    clear hb HM21 HK21 HY21 HX21
    go_wp2_with fail
    refine (refnot_any K kn kc (knownL LA) w22 HK22.out (by omega) HOA.out).mono ?_
    rintro e w23 ⟨NB, nbn, nbc, rfl, hq, hb⟩
    have HNB23 := hid hq
    have hNBL : nbn ≤ 1000 := by
      have h0 := hq.1
      
      omega
    clear hq
    have H23 := hid (H22.out.trans (hb.mono s22))
    have s23 := H23.out.size
    have HM23 := hid (HM22.out.below hb (Nat.le_refl _))
    have HK23 := hid (HK22.out.below hb (Nat.le_refl _))
    have HY23 := hid (HY22.out.below hb (Nat.le_refl _))
    have HX23 := hid (HX22.out.below hb (Nat.le_refl _))
    have HNA23 := hid (HNA22.out.below hb (Nat.le_refl _))
    clear hb HM22 HK22 HY22 HX22 HNA22
    have HNA23 := hid (HEN.out ▸ HNA23.out)
    go_wp2_with fail
    refine (is_any NA nan nac (gathR (knownL LA) [] 3) NB nbn nbc (gathR (knownL LA) [] 3) w23 HNA23.out HNB23.out (by omega)).mono ?_
    rintro e w24 ⟨rfl, hb⟩
    rw [same_self]
    have H24 := hid (H23.out.trans (hb.mono s23))
    have s24 := H24.out.size
    have HM24 := hid (HM23.out.below hb (Nat.le_refl _))
    have HK24 := hid (HK23.out.below hb (Nat.le_refl _))
    have HY24 := hid (HY23.out.below hb (Nat.le_refl _))
    have HX24 := hid (HX23.out.below hb (Nat.le_refl _))
    have HNA24 := hid (HNA23.out.below hb (Nat.le_refl _))
    have HNB24 := hid (HNB23.out.below hb (Nat.le_refl _))
    clear hb HM23 HK23 HY23 HX23 HNA23 HNB23
    go_wp2_with fail
    go_ret
    exact ⟨rfl, H24.out⟩
end Go.Proofs.YteddhjfbnanplaaDoor.rangesJoin
