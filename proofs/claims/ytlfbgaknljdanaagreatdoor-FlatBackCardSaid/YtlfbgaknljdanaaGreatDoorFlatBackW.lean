/- The walk of the law FlatBack. -/
import Derived.Test.YtlfbgaknljdanaaGreatDoorExLaid
import Derived.Test.YtlfbgaknljdanaaGreatDoorFlM1
import Derived.Test.YtlfbgaknljdanaaGreatDoorFlP2
import Derived.Test.YtlfbgaknljdanaaGreatDoorExM4
import Derived.StillTailTactics
import Derived.BigQuiet
import Derived.Test.YtlfbgaknljdanaaGreatDoorOpen
namespace Go.Proofs.YtlfbgaknljdanaaGreatDoor.flatBack
open Go.RowKit Go.Shelf
open Go.Lib (hid)
set_option linter.unusedVariables false
set_option linter.unusedSimpArgs false
set_option maxRecDepth 100000

theorem ext_whole0 (s : ByteArray) : s.extract 0 s.size = s := ByteArray.extract_zero_size
set_option maxHeartbeats 8000000 in
theorem walk (b : Option Addr) (bLen bCap : Nat) (bD : List Int) (w : World) (w0 : IsRow .u8 w b bLen bCap bD) (hsh : w.ShapedOpen Tryz.prog) (hsp : TabSp w) :
    Calls Tryz.prog 9 #[.slice b bLen bCap] w fun e w' => e = .returned (.bool true) ∧ Below w.heap.size w w' := by
  have hmx := mx_of hsh
  obtain ⟨s, hba⟩ := ba_of w0
  have HAW := hid (fun W (h : Below w.heap.size w W) => flawake_any W (hsp.below h (Nat.le_refl _)) (hmx.below h (Nat.le_refl _)))
  by_cases hbig : 300 < bLen
  · have hbig' : (300 : Int) < (bLen : Int) := by omega
    clear hba w0
    go_enter Tryz.func9, Tryz.ntmps9
    go_wp2_with fail
    refine (HAW.out _ (Below.refl _ _)).mono ?_
    rintro e w2 ⟨rfl, hb2⟩
    have HB2 := hid hb2
    clear hb2
    go_wp2_with fail
    go_ret
    exact ⟨rfl, HB2.out⟩
  have hbig' : ¬ (300 : Int) < (bLen : Int) := by omega
  have HNEW := hid (fun W (h : Below w.heap.size w W) => flNew_any b bLen bCap s W (hba.below h (Nat.le_refl _)) (hmx.below h (Nat.le_refl _)) (hsp.below h (Nat.le_refl _)) (by omega))
  have hl300 : (exAll s).length ≤ 300 := by
    have := exAll_len s
    have := hba.1
    omega
  have HLS := hid hba.1
  have HCB := hid (fun W (h : Below w.heap.size w W) => conv_ba (hba.below h (Nat.le_refl _)))
  clear hba w0 hmx hsp hsh
  go_enter Tryz.func9, Tryz.ntmps9
  go_wp2_with fail
  refine (HAW.out _ (Below.refl _ _)).mono ?_
  rintro e w2 ⟨rfl, hb2⟩
  have HB2 := hid hb2
  clear hb2
  go_wp2_with fail
  refine (HNEW.out _ HB2.out).mono ?_
  rintro e w3 ⟨g, rfl, _, hfl, hb3⟩
  have HB3 := hid (HB2.out.trans (hb3.mono HB2.out.size))
  have HLEN := hid (flLen_any g s (exAll s) w3 hfl)
  have HFL := hid (fun W (h : Below w3.heap.size w3 W) => hfl.below h (Nat.le_refl _))
  clear hb3 hfl HAW HNEW
  go_wp2_with fail
  refine HLEN.out.mono ?_
  rintro e w4 ⟨rfl, hw4⟩
  obtain rfl := hw4
  obtain ⟨n, hn⟩ : ∃ n, n = (exAll s).length := ⟨_, rfl⟩
  have HN := hid hn
  rw [← hn] at hl300 ⊢
  clear hn HLEN
  have h00 : rawF s (exAll s) 0 = 0 := by unfold rawF; rw [if_pos rfl]
  have H00 := hid h00
  clear h00
  go_wp2_with fail
  go_loopg [5, 6, 7] (n + 1) (fun kx s5 s6 s7 wr => ∃ (t : ByteArray) (last : Int) (i : Nat), s5 = .string t ∧ s6 = .int .i64 last ∧ s7 = .int .i64 i ∧ i ≤ n + 1 ∧ n + 1 - i ≤ kx ∧ Hid (t = s.extract 0 (rawF s (exAll s) (min i n))) ∧ Hid (∀ j : Nat, i = j + 1 → last = ((rawF s (exAll s) j : Nat) : Int)) ∧ Hid (i = 0 → last = -1) ∧ Hid (Below w4.heap.size w4 wr))
  case atStart => exact ⟨_, _, 0, rfl, rfl, rfl, Nat.zero_le _, Nat.le_refl _, by show _ = _; rw [Nat.zero_min, H00.out]; apply ByteArray.ext; simp, fun j h => absurd h.symm (Nat.succ_ne_zero _), fun _ => rfl, Below.refl _ _⟩
  case round =>
    obtain ⟨t, last, i, rfl, rfl, rfl, hi1, hg, HT, HLAST, HL0, HB⟩ := hrel
    by_cases hlt : i ≤ n
    · have hlt' : (i : Int) ≤ (n : Int) := by omega
      have hil : i ≤ (exAll s).length := by rw [← HN.out]; exact hlt
      have hflr := HFL.out wr HB.out
      have HR := hid (Raw_any g s (exAll s) (i : Int) wr hflr)
      rw [if_pos ⟨by omega, by omega⟩, decide_eq_true (show (0 : Int) ≤ (i : Int) ∧ (i : Int) ≤ ((exAll s).length : Int) by omega), Int.toNat_natCast] at HR
      have HP := hid (Plain_any g s (exAll s) ((rawF s (exAll s) i : Nat) : Int) wr hflr (by have := HN.out; omega))
      have HPB := hid (fun e h => plainR_back (e := e) hil h)
      have hlast : last < ((rawF s (exAll s) i : Nat) : Int) := by
        cases i with
        | zero => rw [HL0.out rfl]; omega
        | succ j =>
          rw [HLAST.out j rfl]
          have := rawF_lt s (i := j) (j := j + 1) (by omega) hil
          omega
      have hlast' : ¬ ((rawF s (exAll s) i : Nat) : Int) ≤ last := by omega
      have hsz : s.size ≤ 300 := by have := HLS.out; omega
      have hrb := rawF_bd s hil
      have hrb' : ((rawF s (exAll s) i : Nat) : Int) ≤ 300 := by omega
      have HSL := hid (fun W (h : Below wr.heap.size wr W) => flSlice_any g s (exAll s) (i : Int) ((i + 1 : Nat) : Int) W (hflr.below h (Nat.le_refl _)) (by omega) (fun a b h1 h2 => rawF_le s h1 h2) (fun a h1 => rawF_bd s h1))
      have hi1' : (i : Int) + 1 = ((i + 1 : Nat) : Int) := by omega
      have HJ := hid (show s.extract 0 (rawF s (exAll s) (min i n)) ++ sliceF s (exAll s) (i : Int) ((i + 1 : Nat) : Int) = s.extract 0 (rawF s (exAll s) (min (i + 1) n)) by
        by_cases hin : i < n
        · have e1 : min i n = i := by omega
          have e2 : min (i + 1) n = i + 1 := by omega
          rw [e1, e2]
          unfold sliceF
          rw [if_pos (by have := HN.out; omega), Int.toNat_natCast, Int.toNat_natCast]
          exact ext_join s (rawF_le s (by omega) (by rw [← HN.out]; omega)) (rawF_bd s (by rw [← HN.out]; omega))
        · have e1 : min i n = n := by omega
          have e2 : min (i + 1) n = n := by omega
          rw [e1, e2]
          unfold sliceF
          rw [if_neg (by have := HN.out; omega)]
          apply ByteArray.ext
          simp)
      have hts : t.size ≤ 300 := by
        rw [HT.out, ByteArray.size_extract]
        omega
      have hzs : (sliceF s (exAll s) (i : Int) ((i + 1 : Nat) : Int)).size ≤ 300 := by
        unfold sliceF
        split
        · rw [ByteArray.size_extract]; omega
        · exact Nat.zero_le _
      rw [← HT.out] at HJ
      have HR2 := hid (show ∀ j : Nat, i + 1 = j + 1 → ((rawF s (exAll s) i : Nat) : Int) = ((rawF s (exAll s) j : Nat) : Int) from fun j h => by rw [Nat.succ.inj h])
      generalize sliceF s (exAll s) (i : Int) ((i + 1 : Nat) : Int) = z at *
      generalize hrr : rawF s (exAll s) i = r at HR HP HPB HR2 hlast hlast' hrb hrb' ⊢
      generalize hi2 : i + 1 = i2 at *
      have HI2 := hid hi2
      clear hflr hil hrb hrr hlast hi2 hlt HT HLAST HL0 hsz
      go_wp2_with fail
      refine HR.out.mono ?_
      rintro e w5 ⟨rfl, hw5⟩
      obtain rfl := hw5
      go_wp2_with fail
      refine HP.out.mono ?_
      rintro e w6 ⟨hp, hb6⟩
      obtain rfl := HPB.out e hp
      have HB6 := hid (HB.out.trans (hb6.mono HB.out.size))
      have HSL6 := hid (HSL.out w6 hb6)
      clear hp hb6 HP HR HSL HPB
      go_wp2_with fail
      refine HSL6.out.mono ?_
      rintro e w7 ⟨A7, n7, c7, rfl, hba7, hb7⟩
      have hcv := conv_ba hba7
      have HB7 := hid (HB6.out.trans (hb7.mono HB6.out.size))
      clear hba7 hb7 HSL6
      have hcat : ¬ (t.size + z.size > 9223372036854775807) := by omega
      go_wp2_with fail
      go_roundg (n + 1 - i2)
      case measure => have := HI2.out; omega
      case rel => exact ⟨_, _, i2, rfl, rfl, rfl, by have := HI2.out; omega, Nat.le_refl _, HJ.out, fun j h => HR2.out j h, fun h => by have := HI2.out; omega, HB7.out⟩
    · obtain rfl : i = n + 1 := by omega
      have hlt' : ¬ ((n + 1 : Nat) : Int) ≤ (n : Int) := by omega
      have hcb := HCB.out wr (HB3.out.trans (HB.out.mono HB3.out.size))
      have hte := HT.out
      rw [show min (n + 1) n = n by omega] at hte
      by_cases hn0 : n = 0
      · have he : t = ⟨#[]⟩ := by
          rw [hte, hn0, H00.out]
          apply ByteArray.ext
          simp
        subst he
        subst hn0
        clear hte HT
        by_cases hse : s = ⟨#[]⟩
        · subst hse
          go_wp2_with fail
          go_ret
          exact ⟨rfl, HB3.out.trans (HB.out.mono HB3.out.size)⟩
        · have hse1 : ¬ s.toList = [] := fun e => hse (str_toList_inj.1 (by rw [e, Lib.toList_data]))
          have hse2 : ¬ ([] : List UInt8) = s.toList := fun e => hse1 e.symm
          have hse3 : s.toList.isEmpty = false := by simpa using hse1
          have hse4 : (([] : List UInt8) == s.toList) = false := by simpa using hse2
          clear hse
          go_wp2_with fail
          go_ret
          exact ⟨rfl, HB3.out.trans (HB.out.mono HB3.out.size)⟩
      · have he : t = s := by
          have h1 := HN.out
          rw [hte, h1, rawF_end s (by omega), ext_whole0]
        subst he
        clear hte HT
        go_wp2_with fail
        go_ret
        exact ⟨rfl, HB3.out.trans (HB.out.mono HB3.out.size)⟩
end Go.Proofs.YtlfbgaknljdanaaGreatDoor.flatBack
