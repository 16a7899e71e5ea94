/- The walk of the law TokenAll. -/
import Derived.Test.YtaklajbifkljjaaGreatDoorTkLaid
import Derived.Test.YtaklajbifkljjaaGreatDoorTkV
import Derived.StillTailTactics
import Derived.Test.YtaklajbifkljjaaGreatDoorOpen
namespace Go.Proofs.YtaklajbifkljjaaGreatDoor.tokenAll
open Go.RowKit Go.Shelf
open Go.Lib (hid)
set_option linter.unusedVariables false
set_option maxRecDepth 100000

set_option maxHeartbeats 8000000 in
theorem walk (b : Option Addr) (bLen bCap : Nat) (bD : List Int) (w : World) (w0 : IsRow .u8 w b bLen bCap bD) (hsh : w.ShapedOpen Tryz.prog) (hdb : Hx.Db w) :
    Calls Tryz.prog 7 #[.slice b bLen bCap] w fun e w' => e = .returned (.bool true) ∧ Below w.heap.size w w' := by
  have hmx := mx_of hsh
  obtain ⟨s, hba⟩ := ba_of w0
  have HAW := hid (fun W (h : Below w.heap.size w W) => tkawake_any W (hdb.below h (Nat.le_refl _)) (hmx.below h (Nat.le_refl _)))
  by_cases hbig : 300 < bLen
  · have hbig' : (300 : Int) < (bLen : Int) := by omega
    clear hba w0
    go_enter Tryz.func7, Tryz.ntmps7
    go_wp2_with fail
    refine (HAW.out _ (Below.refl _ _)).mono ?_
    rintro e w2 ⟨rfl, hb2⟩
    have HB2 := hid hb2
    clear hb2
    go_wp2_with fail
    go_ret
    exact ⟨rfl, HB2.out⟩
  have hbig' : ¬ (300 : Int) < (bLen : Int) := by omega
  have HALL := hid (fun W (h : Below w.heap.size w W) => tokAll_any b bLen bCap s W (hba.below h (Nat.le_refl _)) (hmx.below h (Nat.le_refl _)) (by omega))
  have HREF := hid (fun W (h : Below w.heap.size w W) => refAll_any b bLen bCap s W (hba.below h (Nat.le_refl _)) (by omega))
  have HLS := hid hba.1
  clear hba w0 hmx hdb hsh
  go_enter Tryz.func7, Tryz.ntmps7
  go_wp2_with fail
  refine (HAW.out _ (Below.refl _ _)).mono ?_
  rintro e w2 ⟨rfl, hb2⟩
  have HB2 := hid hb2
  clear hb2
  go_wp2_with fail
  refine (HALL.out _ HB2.out).mono ?_
  rintro e w3 ⟨v, rfl, hmd, hb3⟩
  obtain ⟨A, cap, rfl, htr⟩ := TR.of_made hmd
  have HB3 := hid (HB2.out.trans (hb3.mono HB2.out.size))
  have HTR3 := hid htr
  clear hb3 hmd htr
  go_wp2_with fail
  refine (HREF.out _ HB3.out).mono ?_
  rintro e w4 ⟨v, rfl, hmd, hb4⟩
  obtain ⟨D, dcap, rfl, hdr⟩ := DR.of_made hmd
  have HTR := hid (HTR3.out.below hb4 (Nat.le_refl _))
  have HB4 := hid (HB3.out.trans (hb4.mono HB3.out.size))
  have HDR := hid hdr
  have hn300 : (toks s).length ≤ 300 := by
    have := toks_len s
    have := HLS.out
    omega
  generalize toks s = l at *
  obtain ⟨n, hn⟩ : ∃ n, n = l.length := ⟨_, rfl⟩
  rw [← hn] at hn300 HTR HDR
  have HN := hid hn
  clear hb4 hmd hdr HALL HAW HREF HTR3
  rw [← hn]
  clear hn
  go_wp2_with fail
  go_loopg [5] n (fun kx s5 wr => ∃ i : Nat, s5 = .int .i64 i ∧ i ≤ n ∧ n - i ≤ kx ∧ Hid (Below w4.heap.size w4 wr))
  case atStart => exact ⟨0, rfl, Nat.zero_le _, Nat.le_refl _, Below.refl _ _⟩
  case round =>
    obtain ⟨i, rfl, hi, hg, HBR⟩ := hrel
    by_cases hlt : i < n
    · have hlt' : (i : Int) < (n : Int) := by omega
      have hil : i < l.length := by rw [← HN.out]; exact hlt
      obtain ⟨g, rfl, hgl, x0, x1, x2, x3, x4, x5⟩ := (HTR.out.below HBR.out (Nat.le_refl _)).at_ hil
      obtain ⟨d, rfl, hdl, y0, y1, y2, y3, y4, y5, y6⟩ := (HDR.out.below HBR.out (Nat.le_refl _)).at_ hil
      have HIS := hid (fun W => is_any l[i].kind l[i].fr l[i].til l[i].name l[i].r l[i].single false W)
      generalize l[i] = t at *
      obtain ⟨tk, tf, tt, tn, tr, ts⟩ := t
      simp only at x0 x1 x2 x3 x4 x5 y0 y1 y2 y3 y4 y5 HIS
      have hs4 := HBR.out.size
      go_upto_region 9 with fail
      go_still_tail 8, (by kernel_rfl)
      go_wp2_with fail
      refine (HIS.out _).mono ?_
      rintro e w6 ⟨rfl, hb6⟩
      have HB6 := hid (HBR.out.drew.trans (hb6.mono (by exact hs4)))
      clear hb6 x0 x1 x2 x3 x4 x5 y0 y1 y2 y3 y4 y5 y6
      go_wp2_with fail
      go_roundg (n - (i + 1))
      case measure => omega
      case rel => exact ⟨i + 1, by go_num, by omega, Nat.le_refl _, HB6.out⟩
    · have hlt' : ¬ (i : Int) < (n : Int) := by omega
      clear hlt hg
      go_wp2_with fail
      go_ret
      exact ⟨rfl, HB4.out.trans (HBR.out.mono HB4.out.size)⟩
end Go.Proofs.YtaklajbifkljjaaGreatDoor.tokenAll
