/- The walk of the law LintPlain. -/
import Derived.Test.YtpnbkecchfhimaaGreatDoorLiLaid
import Derived.Test.YtpnbkecchfhimaaGreatDoorLiW1
import Derived.Test.YtpnbkecchfhimaaGreatDoorRpH
import Derived.Test.YtpnbkecchfhimaaGreatDoorLpL
import Derived.StillTailTactics
import Derived.BigQuiet
import Derived.Test.YtpnbkecchfhimaaGreatDoorOpen
namespace Go.Proofs.YtpnbkecchfhimaaGreatDoor.lintPlain
open Go.RowKit Go.Shelf
open Go.Lib (hid)
set_option linter.unusedVariables false
set_option linter.unusedSimpArgs false
set_option maxRecDepth 100000

theorem ba_conv (w : World) (s : ByteArray) (hs : s.size ≤ 80000) : BA (Lib.bytesWorld w 5 s) (some ⟨w.heap.size, 0, none⟩) s.size (grownCap w s.size 0 5) s := by
  have hge := grownCap_ge w s.size 0 5
  have hcm := grownCap_le_maxLen w s.size 0 5 (by unfold maxLen; omega)
  have hwz := Lib.bytesWorld_size w 5 s
  exact ⟨rfl, hge, by unfold maxLen at hcm; omega, fun _ => ⟨w.heap.size, 0, rfl, by omega, bytesWorld_new w 5 s⟩⟩
theorem fr_one (W : World) (k a : Int) : FR (W.alloc (.cells #[.int .i64 k, .int .i64 a] 53)) (some ⟨W.heap.size, 0, none⟩) 1 [⟨k, a⟩] := by
  have hb := Blk.new W 53 #[.int .i64 k, .int .i64 a]
  refine ⟨rfl, fun _ => ⟨W.heap.size, rfl, hb.lt, fun j hj f hf => ?_⟩⟩
  obtain rfl : j = 0 := by simpa using hj
  rw [Nat.zero_mul, Nat.zero_add]
  exact hb.cell f
theorem esc_size {s : ByteArray} (h : s.size ≤ 200) : (escB s).size ≤ 1000 := by
  unfold escB
  rw [ofInts_size]
  have := (escL_two (intsOf s)).2
  rw [intsOf_len] at this
  omega
set_option maxHeartbeats 8000000 in
theorem walk (s : ByteArray) (w : World) (w0 : s.size ≤ maxLen) (hsh : w.ShapedOpen Tryz.prog) (hts : TabSp w) :
    Calls Tryz.prog 9 #[.string s] w fun e w' => e = .returned (.bool true) ∧ Below w.heap.size w w' := by
  have hmx := mx_of hsh
  have HAW := hid (fun W (h : Below w.heap.size w W) => liawake_any W (hmx.below h (Nat.le_refl _)) (hts.below h (Nat.le_refl _)))
  by_cases hbig : 200 < s.size
  · have hbig' : (200 : Int) < (s.size : Int) := by omega
    go_enter Tryz.func9, Tryz.ntmps9
    go_wp2_with fail
    refine (HAW.out _ (Below.refl _ _)).mono ?_
    rintro e w2 ⟨rfl, hb2⟩
    have HB2 := hid hb2
    clear hb2
    go_wp2_with fail
    go_ret
    exact ⟨rfl, HB2.out⟩
  have hbig' : ¬ (200 : Int) < (s.size : Int) := by omega
  have HPN := hid (plain28_any s w (by omega))
  have HES := hid (fun W => escape_any s W (by omega))
  have HFI := hid (fun W (h : Below w.heap.size w W) A n c z (hz : BA W A n c z) (hn : n ≤ 90000) => lintFind_any A n c z W hz (hmx.below h (Nat.le_refl _)) (hts.below h (Nat.le_refl _)) hn)
  have hez := esc_size (s := s) (by omega)
  have HCL := hid (fun h => cln_plain (s := s) h)
  have HCV := hid (fun (W : World) (S : ByteArray) => Lib.run_convert_string_bytes (P := Tryz.prog) W 9 22 5 S Tryz.underlying9 Tryz.underlying22 Tryz.underlying5)
  clear hmx hts hsh w0
  cases hp : plainB s with
  | false =>
    rw [hp] at HPN
    clear hp
    go_enter Tryz.func9, Tryz.ntmps9
    go_wp2_with fail
    refine HPN.out.mono ?_
    rintro e w1 ⟨rfl, hb1⟩
    have HB1 := hid hb1
    clear hb1
    go_wp2_with fail
    refine (HAW.out _ HB1.out).mono ?_
    rintro e w2 ⟨rfl, hb2⟩
    have HB2 := hid (HB1.out.trans (hb2.mono HB1.out.size))
    clear hb2
    go_wp2_with fail
    go_ret
    exact ⟨rfl, HB2.out⟩
  | true =>
    rw [hp] at HPN
    have hcl := HCL.out hp
    generalize escB s = t at *
    have HCT := hid hcl
    clear hp hcl HCL
    go_enter Tryz.func9, Tryz.ntmps9
    go_wp2_with fail
    refine HPN.out.mono ?_
    rintro e w1 ⟨rfl, hb1⟩
    have HB1 := hid hb1
    clear hb1
    go_wp2_with fail
    refine (HAW.out _ HB1.out).mono ?_
    rintro e w2 ⟨rfl, hb2⟩
    have HB2 := hid (HB1.out.trans (hb2.mono HB1.out.size))
    clear hb2
    go_wp2_with fail
    refine (HES.out _).mono ?_
    rintro e w3 ⟨rfl, hb3⟩
    have HB3 := hid (HB2.out.trans (hb3.mono HB2.out.size))
    have hcv1 := HCV.out w3 t
    clear hb3
    go_wp2_with fail
    have HB3' := hid (HB3.out.trans ((bytesWorld_below w3 5 t).mono HB3.out.size))
    refine (HFI.out _ HB3'.out _ _ _ t (ba_conv w3 t (by omega)) (by omega)).mono ?_
    rintro e w4 ⟨A4, c4, l4, rfl, hf4, hr4, hb4⟩
    obtain rfl := found_plain HCT.out hf4
    have HB4 := hid (HB3'.out.trans (hb4.mono HB3'.out.size))
    clear hcv1 hf4 hr4 hb4
    have hca : ¬ (t.size + 4 > 9223372036854775807) := by omega
    have hca3 : ¬ (t.size + 3 > 9223372036854775807) := by omega
    have hca5 : ¬ (3 + t.size > 9223372036854775807) := by omega
    have hca6 : ¬ (3 + t.size + 4 > 9223372036854775807) := by omega
    have hz4 : (t ++ (⟨#[60, 47, 98, 62]⟩ : ByteArray)).size = t.size + 4 := by rw [ByteArray.size_append]; rfl
    have hcv4 := HCV.out w4 (t ++ ⟨#[60, 47, 98, 62]⟩)
    have hba4 := ba_conv w4 (t ++ ⟨#[60, 47, 98, 62]⟩) (by omega)
    rw [hz4] at hba4
    have HBA4 := hid hba4
    clear hba4
    go_wp2_with fail
    have HB4' := hid (HB4.out.trans ((bytesWorld_below w4 5 (t ++ ⟨#[60, 47, 98, 62]⟩)).mono HB4.out.size))
    refine (HFI.out _ HB4'.out _ _ _ (t ++ ⟨#[60, 47, 98, 62]⟩) HBA4.out (by omega)).mono ?_
    rintro e w5 ⟨A5, c5, l5, rfl, hf5, hr5, hb5⟩
    obtain rfl := found_end HCT.out hf5
    have HB5 := hid (HB4'.out.trans (hb5.mono HB4'.out.size))
    have hall5 := (Below.refl w5.heap.size w5).alloc (Nat.le_refl _) (.cells #[.int .i64 4, .int .i64 (t.size : Int)] 53)
    have HIS5 := hid (isF_any A5 (some ⟨w5.heap.size, 0, none⟩) 1 c5 1 _ _ (hr5.below hall5 (Nat.le_refl _)) (fr_one w5 4 (t.size : Int)) (by decide))
    have HB5A := hid (HB5.out.trans (hall5.mono HB5.out.size))
    clear hcv4 hz4 hf5 hr5 hb5 hall5
    go_wp2_with fail
    refine HIS5.out.mono ?_
    rintro e w6 ⟨rfl, hb6⟩
    have HB6 := hid (HB5A.out.trans (hb6.mono HB5A.out.size))
    clear hb6
    have hz6 : (t ++ (⟨#[60, 98, 62]⟩ : ByteArray)).size = t.size + 3 := by rw [ByteArray.size_append]; rfl
    have hcv6 := HCV.out w6 (t ++ ⟨#[60, 98, 62]⟩)
    have hba6 := ba_conv w6 (t ++ ⟨#[60, 98, 62]⟩) (by omega)
    rw [hz6] at hba6
    have HBA6 := hid hba6
    clear hba6
    go_wp2_with fail
    have HB6' := hid (HB6.out.trans ((bytesWorld_below w6 5 (t ++ ⟨#[60, 98, 62]⟩)).mono HB6.out.size))
    refine (HFI.out _ HB6'.out _ _ _ (t ++ ⟨#[60, 98, 62]⟩) HBA6.out (by omega)).mono ?_
    rintro e w7 ⟨A7, c7, l7, rfl, hf7, hr7, hb7⟩
    obtain rfl := found_beg HCT.out hf7
    have HB7 := hid (HB6'.out.trans (hb7.mono HB6'.out.size))
    have hall7 := (Below.refl w7.heap.size w7).alloc (Nat.le_refl _) (.cells #[.int .i64 5, .int .i64 (t.size : Int)] 53)
    have HIS7 := hid (isF_any A7 (some ⟨w7.heap.size, 0, none⟩) 1 c7 1 _ _ (hr7.below hall7 (Nat.le_refl _)) (fr_one w7 5 (t.size : Int)) (by decide))
    have HB7A := hid (HB7.out.trans (hall7.mono HB7.out.size))
    clear hcv6 hz6 hf7 hr7 hb7 hall7
    go_wp2_with fail
    refine HIS7.out.mono ?_
    rintro e w8 ⟨rfl, hb8⟩
    have HB8 := hid (HB7A.out.trans (hb8.mono HB7A.out.size))
    clear hb8
    have hz8 : (((⟨#[60, 98, 62]⟩ : ByteArray) ++ t) ++ (⟨#[60, 47, 98, 62]⟩ : ByteArray)).size = 3 + t.size + 4 := by rw [ByteArray.size_append, ByteArray.size_append]; rfl
    have hass : ((⟨#[60, 98, 62]⟩ : ByteArray) ++ t) ++ (⟨#[60, 47, 98, 62]⟩ : ByteArray) = begQ ++ (t ++ endQ) := by
      apply ByteArray.ext
      simp [ByteArray.data_append, Array.append_assoc, begQ, endQ]
    have HASS := hid hass
    have hcv8 := HCV.out w8 (((⟨#[60, 98, 62]⟩ : ByteArray) ++ t) ++ (⟨#[60, 47, 98, 62]⟩ : ByteArray))
    have hba8 := ba_conv w8 (((⟨#[60, 98, 62]⟩ : ByteArray) ++ t) ++ (⟨#[60, 47, 98, 62]⟩ : ByteArray)) (by omega)
    rw [hz8] at hba8
    have HBA8 := hid hba8
    clear hba8 hass
    go_wp2_with fail
    have HB8' := hid (HB8.out.trans ((bytesWorld_below w8 5 (((⟨#[60, 98, 62]⟩ : ByteArray) ++ t) ++ (⟨#[60, 47, 98, 62]⟩ : ByteArray))).mono HB8.out.size))
    refine (HFI.out _ HB8'.out _ _ _ _ HBA8.out (by omega)).mono ?_
    rintro e w9 ⟨A9, c9, l9, rfl, hf9, hr9, hb9⟩
    obtain rfl := found_both HCT.out (show FoundL (begQ ++ (t ++ endQ)) l9 by rw [← HASS.out]; exact hf9)
    have HB9 := hid (HB8'.out.trans (hb9.mono HB8'.out.size))
    clear hcv8 hz8 hf9 hr9 hb9
    go_wp2_with fail
    go_ret
    exact ⟨rfl, HB9.out⟩
end Go.Proofs.YtpnbkecchfhimaaGreatDoor.lintPlain
