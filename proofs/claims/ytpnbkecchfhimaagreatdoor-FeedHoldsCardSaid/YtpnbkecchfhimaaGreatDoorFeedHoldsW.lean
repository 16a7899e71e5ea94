/- The walk of the law FeedHolds. -/
import Derived.Test.YtpnbkecchfhimaaGreatDoorFdLaid
import Derived.Test.YtpnbkecchfhimaaGreatDoorFdR
import Derived.StillTailTactics
import Derived.BigQuiet
import Derived.Test.YtpnbkecchfhimaaGreatDoorOpen
namespace Go.Proofs.YtpnbkecchfhimaaGreatDoor.feedHolds
open Go.RowKit Go.Shelf
open Go.Lib (hid)
set_option linter.unusedVariables false
set_option linter.unusedSimpArgs false
set_option maxRecDepth 100000

set_option maxHeartbeats 8000000 in
theorem walk (b : Option Addr) (bLen bCap : Nat) (bD : List Int) (c : Option Addr) (cLen cCap : Nat) (cD : List Int) (w : World) (w0 : IsRow .u8 w b bLen bCap bD) (w1 : IsRow .u8 w c cLen cCap cD) (hsh : w.ShapedOpen Tryz.prog) (hdb : Hx.Db w) :
    Calls Tryz.prog 3 #[.slice b bLen bCap, .slice c cLen cCap] w fun e w' => e = .returned (.bool true) ∧ Below w.heap.size w w' := by
  obtain ⟨i0, hi, hz0, hz1, hz2⟩ := info_parts info_u8
  have hmx := mx_of hsh
  obtain ⟨s, hba⟩ := ba_of w0
  obtain ⟨r, hbc⟩ := ba_of w1
  have HAW := hid (fun W (h : Below w.heap.size w W) => fdawake_any W (hdb.below h (Nat.le_refl _)) (hmx.below h (Nat.le_refl _)))
  by_cases hbig : 200 < bLen
  · have hbig' : (200 : Int) < (bLen : Int) := by omega
    clear hba hbc w0 w1
    go_enter Tryz.func3, Tryz.ntmps3
    go_wp2_with fail
    refine (HAW.out _ (Below.refl _ _)).mono ?_
    rintro e w2 ⟨rfl, hb2⟩
    have HB2 := hid hb2
    clear hb2
    go_wp2_with fail
    go_ret
    exact ⟨rfl, HB2.out⟩
  have hbig' : ¬ (200 : Int) < (bLen : Int) := by omega
  by_cases hbig2 : 200 < cLen
  · have hbig2' : (200 : Int) < (cLen : Int) := by omega
    clear hba hbc w0 w1
    go_enter Tryz.func3, Tryz.ntmps3
    go_wp2_with fail
    refine (HAW.out _ (Below.refl _ _)).mono ?_
    rintro e w2 ⟨rfl, hb2⟩
    have HB2 := hid hb2
    clear hb2
    go_wp2_with fail
    go_ret
    exact ⟨rfl, HB2.out⟩
  have hbig2' : ¬ (200 : Int) < (cLen : Int) := by omega
  have HBA := hid (fun W (h : Below w.heap.size w W) => hba.below h (Nat.le_refl _))
  have HBC := hid (fun W (h : Below w.heap.size w W) => hbc.below h (Nat.le_refl _))
  have HMX := hid hmx
  have HLS := hid hba.1
  have HLR := hid hbc.1
  have HNE := hid (show ∀ g, w.heap.size ≤ g → 0 < bLen → ∀ x o, b = some ⟨x, o, none⟩ → x ≠ g from fun g hg h0 x o e => by
    obtain ⟨b', o', e', hlt, _⟩ := hba.2.2.2 h0
    rw [e] at e'
    cases e'
    omega)
  have hpre : Pre s (s ++ r) := ⟨by rw [ByteArray.size_append]; omega, fun i hi => byt_left s r i hi⟩
  have HTK := hid (setN_take hpre)
  clear hba hbc w0 w1 hmx hdb hsh hpre
  go_enter Tryz.func3, Tryz.ntmps3
  go_wp2_with fail
  refine (HAW.out _ (Below.refl _ _)).mono ?_
  rintro e w2 ⟨rfl, hb2⟩
  have HB2 := hid hb2
  clear hb2
  go_wp2_with fail
  refine (fdNew_any w2).mono ?_
  rintro e w3 ⟨rfl, hf3, hb3⟩
  have HB3 := hid (HB2.out.trans (hb3.mono HB2.out.size))
  have hs2 := HB2.out.size
  have HF3 := hid (feed_any w2.heap.size noB s 0 0 noB 0 0 0 b bLen bCap w3 hf3 FdOk.zero (HBA.out w3 HB3.out) (HNE.out _ hs2) (HMX.out.below HB3.out (Nat.le_refl _)) (mx_ne HMX.out hs2) (by rw [ByteArray.size_append]; have := HLS.out; have : noB.size = 0 := rfl; omega) (by decide) (by decide))
  clear hb3 hf3 HAW
  go_wp2_with fail
  refine HF3.out.mono ?_
  rintro e w4 hp
  have e0 : noB ++ s = s := by
    apply ByteArray.ext
    simp [noB]
  unfold FeedPost at hp
  rw [e0] at hp
  obtain ⟨v1, m1, k1, rfl, hr1, _, _, _, hgr1⟩ := hp
  rw [Nat.zero_add, Nat.sub_zero, List.drop_zero] at hr1
  obtain ⟨A1, c1, rfl, htr1⟩ := TR.of_own hr1
  have HB4 := hid (below_new HB3.out hgr1 hs2 HB3.out.size)
  have HTR1 := hid htr1
  clear hr1 hgr1 htr1 HF3
  obtain ⟨n, hn⟩ : ∃ n, n = setN s := ⟨_, rfl⟩
  have HN := hid hn
  rw [← hn] at HTR1 HTK ⊢
  have hn200 : n ≤ 200 := by rw [hn]; have := setN_le s; have := toks_len s; have := HLS.out; omega
  clear hn
  have hs4 := HB4.out.size
  have HRC4 := hid (HBC.out w4 HB4.out)
  have HRDB := hid (HBA.out w4 HB4.out).reads
  have HRDC := hid (HBC.out w4 HB4.out).reads
  go_wp2_with (first
    | (at_builtin; refine wpList_append_any _ rfl (.tmp 24) (.tmp 25) 22 rfl w4.heap.size 5 i0 (.int .u8 0) 1 1 Tryz.underlying22 hi hz0 hz1 hz2 rfl (by decide) _ 0 [] rfl (owns_empty w4 _ 1) w4.heap.size b bLen bCap _ rfl (HRDB.out.alloc (Nat.le_refl _) _) (u8s_one _) (by unfold maxLen; omega) (by omega) (by simp) ?_; intro v6 w6 ho6 hg6 hl6; have hb6 : Below w4.heap.size w4 w6 := ((Below.refl _ w4).alloc (Nat.le_refl _) _).grown hg6 (by simp) (fun k e => by cases e; exact Nat.le_refl _))
    | (at_builtin; go_must (refine wpList_append_any _ rfl (.tmp 26) (.tmp 27) 22 rfl w4.heap.size 5 i0 (.int .u8 0) 1 1 Tryz.underlying22 hi hz0 hz1 hz2 rfl (by decide) v6 (0 + bLen) ([] ++ u8s s) rfl ho6 w4.heap.size c cLen cCap _ rfl (HRDC.out.below hb6) (u8s_one _) (by unfold maxLen; omega) (by omega) hb6.size ?_); intro v7 w7 ho7 hg7 hl7; have hb7 : Below w4.heap.size w4 w7 := hb6.grown hg7 hb6.size (fun k e => (ho6.lt k e).1)))
  have hcat : ([] ++ u8s s) ++ u8s r = u8s (s ++ r) := by rw [List.nil_append, u8s_append]
  have hlen : 0 + bLen + cLen = (s ++ r).size := by rw [ByteArray.size_append, HLS.out, HLR.out]; omega
  rw [hcat, hlen] at ho7
  have hsz : (s ++ r).size ≤ 400 := by rw [ByteArray.size_append]; have := HLS.out; have := HLR.out; omega
  obtain ⟨z, hz⟩ : ∃ z, z = s ++ r := ⟨_, rfl⟩
  rw [← hz] at ho7 hsz HTK
  obtain ⟨A7, c7, rfl⟩ := owns_slice ho7
  have HB7 := hid (HB4.out.trans (hb7.mono hs4))
  have HALL := hid (tokAll_any A7 z.size c7 z w7 (BA.of_own ho7) (HMX.out.below HB7.out (Nat.le_refl _)) (by omega))
  have HTR7 := hid (HTR1.out.below hb7 (Nat.le_refl _))
  clear hz hcat hlen ho7 hb7 ho6 hb6 hg6 hl6 hg7 hl7 HTR1 HRDB HRDC HRC4
  refine HALL.out.mono ?_
  rintro e w8 ⟨v8, rfl, hmd, hb8⟩
  obtain ⟨A8, c8, rfl, htr8, _⟩ := slice_form hmd
  have HTR1 := hid (HTR7.out.below hb8 (Nat.le_refl _))
  have HTR8 := hid htr8
  have HB8 := hid (HB7.out.trans (hb8.mono HB7.out.size))
  clear hmd hb8 htr8 HTR7 HALL
  obtain ⟨L, hL⟩ : ∃ L, L = (toks z).length := ⟨_, rfl⟩
  have HL := hid hL
  rw [← hL] at HTR8 ⊢
  obtain ⟨l1, hl1⟩ : ∃ l1, l1 = (toks s).take n := ⟨_, rfl⟩
  rw [← hl1] at HTR1 HTK
  have hn1 : n = l1.length := HTR1.out.1
  have hnL : n ≤ L := by
    have := congrArg List.length HTK.out
    rw [List.length_take] at this
    omega
  have HEQ := hid (show ∀ (i : Nat) (h1 : i < l1.length) (h2 : i < (toks z).length), l1[i] = (toks z)[i] from fun i h1 h2 => by
    have h3 := congrArg (·[i]?) HTK.out
    simp only [List.getElem?_take] at h3
    rw [if_pos (by omega), List.getElem?_eq_getElem h2, List.getElem?_eq_getElem h1] at h3
    exact (Option.some.inj h3).symm)
  have HN1 := hid hn1
  have HNL := hid hnL
  have hnL' : ¬ (L : Int) < (n : Int) := by omega
  clear hn1 hnL hL hl1
  go_wp2_with fail
  go_loopg [7] n (fun kx s7 wr => ∃ i : Nat, s7 = .int .i64 i ∧ i ≤ n ∧ n - i ≤ kx ∧ Hid (Below w8.heap.size w8 wr))
  case atStart => exact ⟨0, rfl, Nat.zero_le _, Nat.le_refl _, Below.refl _ _⟩
  case round =>
    obtain ⟨i, rfl, hi1, hg, HB⟩ := hrel
    by_cases hlt : i < n
    · have hlt' : (i : Int) < (n : Int) := by omega
      have hltL : (i : Int) < (L : Int) := by have := HNL.out; omega
      have hil1 : i < l1.length := by rw [← HN1.out]; exact hlt
      have hil2 : i < (toks z).length := by rw [← HL.out]; have := HNL.out; omega
      obtain ⟨g1, rfl, _, x0, x1, x2, x3, x4, x5⟩ := (HTR1.out.below HB.out (Nat.le_refl _)).at_ hil1
      obtain ⟨g8, rfl, _, y0, y1, y2, y3, y4, y5⟩ := (HTR8.out.below HB.out (Nat.le_refl _)).at_ hil2
      rw [HEQ.out i hil1 hil2] at x0 x1 x2 x3 x4 x5
      generalize (toks z)[i] = tk at *
      obtain ⟨uk, uf, ut, un, ur, us⟩ := tk
      simp only at x0 x1 x2 x3 x4 x5 y0 y1 y2 y3 y4 y5
      clear hil1 hil2
      go_upto_region 10 with fail
      go_quiet (fail)
      have HB2 := hid (HB.out.trans ((below_drewN wr.heap.size wr nq).mono HB.out.size))
      go_wp2_with fail
      go_roundg (n - (i + 1))
      case measure => omega
      case rel => exact ⟨i + 1, by go_num, by omega, Nat.le_refl _, HB2.out⟩
    · have hlt' : ¬ (i : Int) < (n : Int) := by omega
      clear hlt hg
      go_wp2_with fail
      go_ret
      exact ⟨rfl, HB8.out.trans (HB.out.mono HB8.out.size)⟩
end Go.Proofs.YtpnbkecchfhimaaGreatDoor.feedHolds
