/- The walk of the law TokenAt. -/
import Derived.Test.YtaklajbifkljjaaGreatDoorTkLaid
import Derived.Test.YtaklajbifkljjaaGreatDoorTkV
import Derived.Test.YtaklajbifkljjaaGreatDoorTkW
import Derived.StillTailTactics
import Derived.Test.YtaklajbifkljjaaGreatDoorOpen
namespace Go.Proofs.YtaklajbifkljjaaGreatDoor.tokenAt
open Go.RowKit Go.Shelf
open Go.Lib (hid)
set_option linter.unusedVariables false
set_option maxRecDepth 100000

set_option maxHeartbeats 8000000 in
theorem walk (b : Option Addr) (bLen bCap : Nat) (bD : List Int) (i : Int) (w : World) (w0 : IsRow .u8 w b bLen bCap bD) (w1 : (Lit.int .i64 i).wf = true) (hsh : w.ShapedOpen Tryz.prog) (hdb : Hx.Db w) :
    Calls Tryz.prog 11 #[.slice b bLen bCap, .int .i64 i] w fun e w' => e = .returned (.bool true) ∧ Below w.heap.size w w' := by
  have hmx := mx_of hsh
  obtain ⟨s, hba⟩ := ba_of w0
  have HAW := hid (fun W (h : Below w.heap.size w W) => tkawake_any W (hdb.below h (Nat.le_refl _)) (hmx.below h (Nat.le_refl _)))
  by_cases hbig : 300 < bLen
  · have hbig' : (300 : Int) < (bLen : Int) := by omega
    clear hba w0 w1
    go_enter Tryz.func11, Tryz.ntmps11
    go_wp2_with fail
    refine (HAW.out _ (Below.refl _ _)).mono ?_
    rintro e w2 ⟨rfl, hb2⟩
    have HB2 := hid hb2
    clear hb2
    go_wp2_with fail
    go_ret
    exact ⟨rfl, HB2.out⟩
  have hbig' : ¬ (300 : Int) < (bLen : Int) := by omega
  have HAT := hid (fun W (h : Below w.heap.size w W) => tokAt_any b bLen bCap s i W (hba.below h (Nat.le_refl _)) (hmx.below h (Nat.le_refl _)) (by omega))
  have HREF := hid (fun W (h : Below w.heap.size w W) => refAll_any b bLen bCap s W (hba.below h (Nat.le_refl _)) (by omega))
  have HLS := hid hba.1
  have hn300 : (toks s).length ≤ 300 := by
    have := toks_len s
    have := HLS.out
    omega
  clear hba w0 hmx hdb hsh w1
  go_enter Tryz.func11, Tryz.ntmps11
  go_wp2_with fail
  refine (HAW.out _ (Below.refl _ _)).mono ?_
  rintro e w2 ⟨rfl, hb2⟩
  have HB2 := hid hb2
  clear hb2
  go_wp2_with fail
  refine (HAT.out _ HB2.out).mono ?_
  rintro e w3 ⟨hat, hb3⟩
  have HB3 := hid (HB2.out.trans (hb3.mono HB2.out.size))
  clear hb3
  generalize toks s = l at *
  obtain ⟨n, hn⟩ : ∃ n, n = l.length := ⟨_, rfl⟩
  have HN := hid hn
  rw [← hn] at hn300
  rcases hat with ⟨t, TA, TC, hl, hA, ht, rfl⟩ | ⟨hno, rfl⟩
  · have HLE := hid hl
    have HA := hid hA
    obtain ⟨ht1, ht2⟩ := ht
    obtain ⟨m, hm⟩ : ∃ m, m = TA.length := ⟨_, rfl⟩
    have hmn : m < n := by rw [hn, hm, hl]; simp
    have HTM := hid (show ∀ h : m < l.length, l[m] = t by subst hl; subst hm; intro h; simp)
    have HTA := hid (show ∀ j (h : j < l.length), j < m → ¬ hasT i l[j] by
      intro j h hj
      subst hl
      subst hm
      rw [List.getElem_append_left hj]
      exact hA _ (List.getElem_mem hj))
    clear hn hl hA hm
    obtain ⟨tk, tf, tt, tn, tr, ts⟩ := t
    simp only at ht1 ht2
    have HB4 := hid (HB3.out.alloc HB3.out.size (.cells (tkC ⟨tk, tf, tt, tn, tr, ts⟩) 30))
    have HQ4 := hid (Blk.new w3 30 (tkC ⟨tk, tf, tt, tn, tr, ts⟩))
    simp only [tkC] at HB4 HQ4
    unfold tkC
    simp only
    go_upto_region 4 with fail
    generalize w3.alloc (.cells #[.int .i64 tk, .int .i64 tf, .int .i64 tt, .string tn, .int .i32 tr, .bool ts] 30) = w4 at *
    go_wp2_with fail
    refine (HREF.out _ HB4.out).mono ?_
    rintro e w5 ⟨v, rfl, hmd, hb5⟩
    obtain ⟨D, dcap, rfl, hdr⟩ := DR.of_made hmd
    have HB5 := hid (HB4.out.trans (hb5.mono HB4.out.size))
    have hq5 := HQ4.out.below hb5 HQ4.out.lt
    have HQ5 := hid hq5
    rw [← HN.out] at hdr
    have HDR := hid hdr
    rw [← HN.out]
    clear hb5 hmd hdr HAW HAT HREF hq5
    go_wp2_with fail
    go_loopg [8] (m + 1) (fun kx s8 wr => ∃ j : Nat, s8 = .int .i64 j ∧ j ≤ m ∧ m + 1 - j ≤ kx ∧ wr = w5)
    case atStart => exact ⟨0, rfl, Nat.zero_le _, Nat.le_refl _, rfl⟩
    case round =>
      obtain ⟨j, rfl, hj, hg, hw⟩ := hrel
      obtain rfl : w5 = wr := hw.symm
      have hlt : j < n := by omega
      have hlt' : (j : Int) < (n : Int) := by omega
      have hjl : j < l.length := by rw [← HN.out]; exact hlt
      obtain ⟨d, rfl, hdl, y0, y1, y2, y3, y4, y5, y6⟩ := HDR.out.at_ hjl
      by_cases hjm : j = m
      · subst hjm
        have hlt_ := HTM.out hjl
        rw [hlt_] at y0 y1 y2 y3 y4 y5
        simp only at y0 y1 y2 y3 y4 y5
        have x0 := HQ5.out.cell 0
        have x1 := HQ5.out.cell 1
        have x2 := HQ5.out.cell 2
        have x3 := HQ5.out.cell 3
        have x4 := HQ5.out.cell 4
        have x5 := HQ5.out.cell 5
        simp only [List.getElem?_toArray, List.getElem?_cons_zero, List.getElem?_cons_succ] at x0 x1 x2 x3 x4 x5
        have HIS := hid (fun W => is_any tk tf tt tn tr ts false W)
        have hs5 := HB5.out.size
        clear hlt_
        go_upto_region 9 with fail
        go_still_tail 7, (by kernel_rfl)
        go_wp2_with fail
        refine (HIS.out _).mono ?_
        rintro e w6 ⟨rfl, hb6⟩
        have HB6 := hid (HB5.out.drew.trans (hb6.mono (by exact hs5)))
        clear hb6 x0 x1 x2 x3 x4 x5 y0 y1 y2 y3 y4 y5 y6
        go_wp2_with fail
        go_ret
        exact ⟨rfl, HB6.out⟩
      · have hjm2 : j < m := by omega
        have hnot := HTA.out j hjl hjm2
        generalize l[j] = u at *
        obtain ⟨uk, uf, ut, un, ur, us⟩ := u
        simp only [hasT] at hnot y0 y1 y2 y3 y4 y5
        by_cases h1 : (uf : Int) ≤ i
        · have h2 : ¬ i < (ut : Int) := fun h => hnot ⟨h1, h⟩
          clear hnot hjm
          go_wp2_with fail
          go_roundg (m + 1 - (j + 1))
          case measure => omega
          case rel => exact ⟨j + 1, by go_num, by omega, Nat.le_refl _, rfl⟩
        · clear hnot hjm
          go_wp2_with fail
          go_roundg (m + 1 - (j + 1))
          case measure => omega
          case rel => exact ⟨j + 1, by go_num, by omega, Nat.le_refl _, rfl⟩
  · have HTA := hid (show ∀ j (h : j < l.length), ¬ hasT i l[j] from fun j h => hno _ (List.getElem_mem h))
    clear hn hno
    have HB4 := hid (HB3.out.alloc HB3.out.size (.cells tk0 30))
    have HQ4 := hid (Blk.new w3 30 tk0)
    simp only [tk0] at HB4 HQ4
    unfold tk0
    go_upto_region 4 with fail
    generalize w3.alloc (.cells #[.int .i64 0, .int .i64 0, .int .i64 0, .string ⟨#[]⟩, .int .i32 0, .bool false] 30) = w4 at *
    go_wp2_with fail
    refine (HREF.out _ HB4.out).mono ?_
    rintro e w5 ⟨v, rfl, hmd, hb5⟩
    obtain ⟨D, dcap, rfl, hdr⟩ := DR.of_made hmd
    have HB5 := hid (HB4.out.trans (hb5.mono HB4.out.size))
    have hq5 := HQ4.out.below hb5 HQ4.out.lt
    have x0 := hq5.cell 0
    have x2 := hq5.cell 2
    simp only [List.getElem?_toArray, List.getElem?_cons_zero, List.getElem?_cons_succ] at x0 x2
    rw [← HN.out] at hdr
    have HDR := hid hdr
    rw [← HN.out]
    clear hb5 hmd hdr HAW HAT HREF hq5
    go_wp2_with fail
    go_loopg [8] n (fun kx s8 wr => ∃ j : Nat, s8 = .int .i64 j ∧ j ≤ n ∧ n - j ≤ kx ∧ wr = w5)
    case atStart => exact ⟨0, rfl, Nat.zero_le _, Nat.le_refl _, rfl⟩
    case round =>
      obtain ⟨j, rfl, hj, hg, hw⟩ := hrel
      obtain rfl : w5 = wr := hw.symm
      by_cases hlt : j < n
      · have hlt' : (j : Int) < (n : Int) := by omega
        have hjl : j < l.length := by rw [← HN.out]; exact hlt
        obtain ⟨d, rfl, hdl, y0, y1, y2, y3, y4, y5, y6⟩ := HDR.out.at_ hjl
        have hnot := HTA.out j hjl
        generalize l[j] = u at *
        obtain ⟨uk, uf, ut, un, ur, us⟩ := u
        simp only [hasT] at hnot y0 y1 y2 y3 y4 y5
        by_cases h1 : (uf : Int) ≤ i
        · have h2 : ¬ i < (ut : Int) := fun h => hnot ⟨h1, h⟩
          clear hnot
          go_wp2_with fail
          go_roundg (n - (j + 1))
          case measure => omega
          case rel => exact ⟨j + 1, by go_num, by omega, Nat.le_refl _, rfl⟩
        · clear hnot
          go_wp2_with fail
          go_roundg (n - (j + 1))
          case measure => omega
          case rel => exact ⟨j + 1, by go_num, by omega, Nat.le_refl _, rfl⟩
      · have hlt' : ¬ (j : Int) < (n : Int) := by omega
        clear hlt hg
        go_wp2_with fail
        go_ret
        exact ⟨rfl, HB5.out⟩
end Go.Proofs.YtaklajbifkljjaaGreatDoor.tokenAt
