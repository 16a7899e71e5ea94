/- The walk of the law LintRises. -/
import Derived.Test.YtpnbkecchfhimaaGreatDoorLiM4
import Derived.Test.YtpnbkecchfhimaaGreatDoorLiW1
import Derived.Test.YtpnbkecchfhimaaGreatDoorAppF
import Derived.StillTailTactics
import Derived.BigQuiet
import Derived.Test.YtpnbkecchfhimaaGreatDoorOpen
namespace Go.Proofs.YtpnbkecchfhimaaGreatDoor.lintRises
open Go.RowKit Go.Shelf
open Go.Lib (hid)
set_option linter.unusedVariables false
set_option linter.unusedSimpArgs false
set_option maxRecDepth 100000

theorem up_len (f : Fg) (l : List Fg) : (f :: l.map (Fg.up 2)).length = l.length + 1 := by simp
set_option maxHeartbeats 8000000 in
theorem walk (b : Option Addr) (bLen bCap : Nat) (bD : List Int) (w : World) (w0 : IsRow .u8 w b bLen bCap bD) (hsh : w.ShapedOpen Tryz.prog) (hts : TabSp w) :
    Calls Tryz.prog 7 #[.slice b bLen bCap] w fun e w' => e = .returned (.bool true) ∧ Below w.heap.size w w' := by
  have hmx := mx_of hsh
  obtain ⟨s, hba⟩ := ba_of w0
  have HAW := hid (fun W (h : Below w.heap.size w W) => liawake_any W (hmx.below h (Nat.le_refl _)) (hts.below h (Nat.le_refl _)))
  by_cases hbig : 200 < bLen
  · have hbig' : (200 : Int) < (bLen : Int) := by omega
    clear hba w0
    go_enter Tryz.func7, Tryz.ntmps7
    go_wp2_with fail
    refine (HAW.out _ (Below.refl _ _)).mono ?_
    rintro e w2 ⟨rfl, hb2⟩
    have HB2 := hid hb2
    clear hb2
    go_wp2_with fail
    go_ret
    exact ⟨rfl, HB2.out⟩
  have hbig' : ¬ (200 : Int) < (bLen : Int) := by omega
  have HLS := hid hba.1
  have HFD := hid (fun W (h : Below w.heap.size w W) => lintFind_any b bLen bCap s W (hba.below h (Nat.le_refl _)) (hmx.below h (Nat.le_refl _)) (hts.below h (Nat.le_refl _)) (by omega))
  have HFA := hid (fun W (h : Below w.heap.size w W) A n c (hz : BA W A n c (ampS ++ s)) (hn : n ≤ 90000) => lintFind_any A n c (ampS ++ s) W hz (hmx.below h (Nat.le_refl _)) (hts.below h (Nat.le_refl _)) hn)
  have HBA := hid (fun W (h : Below w.heap.size w W) => hba.below h (Nat.le_refl _))
  clear hba w0 hmx hts hsh
  go_enter Tryz.func7, Tryz.ntmps7
  go_wp2_with fail
  refine (HAW.out _ (Below.refl _ _)).mono ?_
  rintro e w2 ⟨rfl, hb2⟩
  have HB2 := hid hb2
  clear hb2
  go_wp2_with fail
  refine (HFD.out _ HB2.out).mono ?_
  rintro e w3 ⟨A, c, l, rfl, hfl, hfr, hb3⟩
  have HB3 := hid (HB2.out.trans (hb3.mono HB2.out.size))
  have HFL := hid hfl
  have HFR := hid (fun W (h : Below w3.heap.size w3 W) => hfr.below h (Nat.le_refl _))
  obtain ⟨n, hn⟩ : ∃ n, n = l.length := ⟨_, rfl⟩
  have HN := hid hn
  rw [← hn]
  have HPW := hid hfl.pw
  have HRG := hid hfl.rng
  have hb200 : bLen ≤ 200 := by omega
  have hnb : n ≤ 200 := by
    have h1 := hfl.pw
    have h2 := pigeon s.size (l.map (·.at_)) (List.pairwise_map.2 (hfl.pw.imp fun h => by omega)) fun x hx => by
      obtain ⟨f, hf, rfl⟩ := List.mem_map.1 hx
      have := hfl.rng f hf
      omega
    rw [List.length_map] at h2
    have := HLS.out
    omega
  have HNA := hid (fun k W => lintName_any k W)
  clear hn hfl hfr hb3
  go_wp2_with fail
  go_loopg [4] n (fun kx s4 wr => ∃ i : Nat, s4 = .int .i64 i ∧ i ≤ n ∧ n - i ≤ kx ∧ Hid (Below w3.heap.size w3 wr))
  case atStart => exact ⟨0, rfl, Nat.zero_le _, Nat.le_refl _, Below.refl _ _⟩
  case round =>
    obtain ⟨i, rfl, hi1, hgm, HB⟩ := hrel
    by_cases hlt : i < n
    · have hlt' : (i : Int) < (n : Int) := by omega
      have hil : i < l.length := by rw [← HN.out]; exact hlt
      obtain ⟨g, rfl, hgl, x0, x1⟩ := (HFR.out wr HB.out).at_ hil
      obtain ⟨r1, r2, r3, r4⟩ := HRG.out _ (List.getElem_mem hil)
      have r2' : ¬ ((bLen : Int) ≤ l[i].at_) := by have := HLS.out; omega
      have r1' : ¬ (l[i].at_ < 0) := by omega
      have hkp := nmL_pos r3 r4
      by_cases hi0 : 0 < i
      · have hi0' : (0 : Int) < (i : Int) := by omega
        obtain ⟨j, hj⟩ : ∃ j, i = j + 1 := ⟨i - 1, by omega⟩
        have HJ := hid hj
        have hsub : (i : Int) - 1 = (j : Int) := by omega
        have hjn : j < n := by omega
        have hjl : j < l.length := by rw [← HN.out]; exact hjn
        obtain ⟨g', e', _, y0, y1⟩ := (HFR.out wr HB.out).at_ hjl
        injection e' with e'
        injection e' with e'
        subst e'
        have hr : ¬ (l[i].at_ ≤ l[j].at_) := by
          have := List.pairwise_iff_getElem.1 HPW.out j i hjl hil (by omega)
          omega
        generalize l[i] = f at *
        generalize l[j] = f' at *
        obtain ⟨fk, fa⟩ := f
        obtain ⟨fk', fa'⟩ := f'
        simp only at x0 x1 y0 y1 r1' r2' hr hkp
        have HNF := hid (fun W => HNA.out fk W)
        have hks := nmL_size fk
        generalize nmL fk = K at *
        have hne : (K.toList == []) = false := by
          rw [beq_eq_false_iff_ne]
          intro e
          have := congrArg List.length e
          rw [Lib.toList_data] at this
          have h2 : K.size = 0 := this
          omega
        have hne2 : ¬ K.toList = [] := by simpa using hne
        clear hj hil hjl r1 r2 r3 r4 hkp
        go_upto_region 7 with fail
        go_quiet (with_reducible exact Calls.quiet_of_same (HNF.out _))
        have HB2 := hid (HB.out.trans ((below_drewN wr.heap.size wr nq).mono HB.out.size))
        go_wp2_with fail
        go_roundg (n - (i + 1))
        case measure => omega
        case rel => exact ⟨i + 1, by go_num, by omega, Nat.le_refl _, HB2.out⟩
      · have hi0' : ¬ (0 : Int) < (i : Int) := by omega
        generalize l[i] = f at *
        obtain ⟨fk, fa⟩ := f
        simp only at x0 x1 r1' r2' hkp
        have HNF := hid (fun W => HNA.out fk W)
        have hks := nmL_size fk
        generalize nmL fk = K at *
        have hne : (K.toList == []) = false := by
          rw [beq_eq_false_iff_ne]
          intro e
          have := congrArg List.length e
          rw [Lib.toList_data] at this
          have h2 : K.size = 0 := this
          omega
        have hne2 : ¬ K.toList = [] := by simpa using hne
        clear hil r1 r2 r3 r4 hkp
        go_upto_region 7 with fail
        go_quiet (with_reducible exact Calls.quiet_of_same (HNF.out _))
        have HB2 := hid (HB.out.trans ((below_drewN wr.heap.size wr nq).mono HB.out.size))
        go_wp2_with fail
        go_roundg (n - (i + 1))
        case measure => omega
        case rel => exact ⟨i + 1, by go_num, by omega, Nat.le_refl _, HB2.out⟩
    · have hin : i = n := by omega
      have hlt' : ¬ ((i : Int) < (n : Int)) := by omega
      have HB4 := hid (HB3.out.trans (HB.out.mono HB3.out.size))
      have kc := Lib.run_convert_bytes_const (P := Tryz.prog) wr 22 5 #[.int .u8 38, .int .u8 32] 2 2 Tryz.underlying22 Tryz.underlying5
      simp only [List.size_toArray, List.length_cons, List.length_nil, Nat.reduceAdd] at kc
      have hb5 := (Below.refl wr.heap.size wr).alloc (Nat.le_refl _) (.cells #[.int .u8 38, .int .u8 32] 5 (2, 3))
      have hqa := ba_cells wr ampS #[.int .u8 38, .int .u8 32] 2 (2, 3) rfl (by decide) (by kernel_rfl)
      have HQA := hid hqa
      have HB5 := hid (HB4.out.trans (hb5.mono HB4.out.size))
      have HRA := hid (HBA.out _ HB5.out)
      clear hin hgm hb5 hqa
      go_wp2_with (at_builtin; go_must (refine wpList_append_full rfl (.tmp 66) (.tmp 67) rfl _ _ ampS s 2 rfl rfl b bLen bCap rfl HQA.out HRA.out (by decide) (by decide) (by omega) ?_); intro A5 c5 w5 hba5 hb6)
      have HB6 := hid (HB5.out.trans (hb6.mono HB5.out.size))
      refine (HFA.out w5 HB6.out A5 _ c5 hba5 (by omega)).mono ?_
      rintro e w6 ⟨A6, c6, m, rfl, hfm, hfrm, hb7⟩
      obtain rfl := found_amp HFL.out hfm
      have HB7 := hid (HB6.out.trans (hb7.mono HB6.out.size))
      obtain ⟨g6, rfl, hg6, z0, z1⟩ := hfrm.at_ (j := 0) (by simp)
      have hml : ((⟨2, 0⟩ : Fg) :: l.map (Fg.up 2)).length = n + 1 := by rw [up_len, ← HN.out]
      simp only [List.getElem_cons_zero, Nat.zero_mul, Nat.zero_add] at z0 z1
      rw [hml]
      clear hfm hfrm hb6 hb7 hba5 kc hml
      go_wp2_with fail
      go_ret
      exact ⟨rfl, HB7.out⟩
end Go.Proofs.YtpnbkecchfhimaaGreatDoor.lintRises
