/- The walk of the law ExtractTakes. -/
import Derived.Test.YtlfbgaknljdanaaGreatDoorExLaid
import Derived.Test.YtlfbgaknljdanaaGreatDoorExI
import Derived.StillTailTactics
import Derived.BigQuiet
import Derived.Test.YtlfbgaknljdanaaGreatDoorOpen
namespace Go.Proofs.YtlfbgaknljdanaaGreatDoor.extractTakes
open Go.RowKit Go.Shelf
open Go.Lib (hid)
set_option linter.unusedVariables false
set_option linter.unusedSimpArgs false
set_option maxRecDepth 100000

set_option maxHeartbeats 8000000 in
theorem walk (b : Option Addr) (bLen bCap : Nat) (bD : List Int) (w : World) (w0 : IsRow .u8 w b bLen bCap bD) (hsh : w.ShapedOpen Tryz.prog) (hsp : TabSp w) :
    Calls Tryz.prog 3 #[.slice b bLen bCap] w fun e w' => e = .returned (.bool true) ∧ Below w.heap.size w w' := by
  obtain ⟨i0, hi, hz0, hz1, hz2⟩ := info_parts info_item
  have hmx := mx_of hsh
  obtain ⟨s, hba⟩ := ba_of w0
  have HAW := hid (fun W (h : Below w.heap.size w W) => exawake_any W (hsp.below h (Nat.le_refl _)) (hmx.below h (Nat.le_refl _)))
  by_cases hbig : 300 < bLen
  · have hbig' : (300 : Int) < (bLen : Int) := by omega
    clear hba w0
    go_enter Tryz.func3, Tryz.ntmps3
    go_wp2_with fail
    refine (HAW.out _ (Below.refl _ _)).mono ?_
    rintro e w2 ⟨rfl, hb2⟩
    have HB2 := hid hb2
    clear hb2
    go_wp2_with fail
    go_ret
    exact ⟨rfl, HB2.out⟩
  have hbig' : ¬ (300 : Int) < (bLen : Int) := by omega
  have hm : bLen ≤ 300 := by omega
  have HEXA := hid (fun W (h : Below w.heap.size w W) => exAll_any b bLen bCap s W (hba.below h (Nat.le_refl _)) (hmx.below h (Nat.le_refl _)) (hsp.below h (Nat.le_refl _)) (by omega))
  have HNEW := hid (fun W => xNew_any W)
  have HALL := hid (fun W (h : Below w.heap.size w W) => tokAll_any b bLen bCap s W (hba.below h (Nat.le_refl _)) (hmx.below h (Nat.le_refl _)) (by omega))
  have HBA := hid (fun W (h : Below w.heap.size w W) => hba.below h (Nat.le_refl _))
  have HTB := hid (fun W (h : Below w.heap.size w W) => hsp.below h (Nat.le_refl _))
  have HLS := hid hba.1
  have HLN := hid (toks_len s)
  clear hba hmx hsp hsh w0 hbig
  go_enter Tryz.func3, Tryz.ntmps3
  go_wp2_with fail
  refine (HAW.out _ (Below.refl _ _)).mono ?_
  rintro e w9 ⟨rfl, hb9⟩
  have HB9 := hid hb9
  clear hb9
  go_wp2_with fail
  refine (HNEW.out w9).mono ?_
  rintro e w1 ⟨⟨g, q, ty, ty2, rfl, hgq, hg, hq, hkq, hkg⟩, hb1⟩
  have HB1 := hid (HB9.out.trans (hb1.mono HB9.out.size))
  have HGQ := hid (And.intro hgq (And.intro hkg.lt hkq.lt))
  have HGB := hid (show w.heap.size ≤ g ∧ w.heap.size ≤ q from by have := HB9.out.size; omega)
  have HX1 := hid hkg
  have HK1 := hid hkq
  clear hb1 hgq hg hq hkq hkg
  go_wp2_with fail
  refine (HALL.out _ HB1.out).mono ?_
  rintro e w2 ⟨v, rfl, hmd, hb2⟩
  have hne := fun b (e : v.ownBlock = some b) => hmd.1.lt b e
  obtain ⟨A, tcap, rfl, htr⟩ := TR.of_made hmd
  have HNE := hid (show ∀ b, A = some ⟨b, 0, none⟩ → b ≠ g ∧ b ≠ q from fun b e => by
    have h1 := (hne b (by rw [e]; rfl)).1
    have := HGQ.out
    omega)
  have HTR := hid htr
  have HB2 := hid (HB1.out.trans (hb2.mono HB1.out.size))
  have HX2 := hid (HX1.out.below hb2 HGQ.out.2.1)
  have HK2 := hid (HK1.out.below hb2 HGQ.out.2.2)
  have hs12 := hb2.size
  have hs01 := HB1.out.size
  have HMEM := hid (fun j (h : j < (toks s).length) => toks_mem (List.getElem_mem h))
  have HNM := hid (fun j (h : j < (toks s).length) => name_size (List.getElem_mem h))
  have HEX := hid (fun j (h : j < (toks s).length) => exGo_take h)
  have HOK := hid (fun j => exGo_ok s ((toks s).take j) xs0 xs0_ok)
  have HPL := hid (fun j => exGo_pre_len s ((toks s).take j) ((toks s).drop j) (List.take_append_drop j _))
  clear hb2 hmd hne htr HX1 HK1 HNEW HALL HAW
  obtain ⟨n, hn⟩ : ∃ n, n = (toks s).length := ⟨_, rfl⟩
  have HN := hid hn
  rw [← hn] at HTR ⊢
  have hn6 : n ≤ 300 := by have := HLN.out; have := HLS.out; omega
  clear hn
  go_wp2_with fail
  go_loopg [5, 7] n (fun kx s5 s7 wr => ∃ (v : Value) (i : Nat), s5 = v ∧ s7 = .int .i64 i ∧ i ≤ n ∧ n - i ≤ kx ∧ Hid (wr.ownsRow w2.heap.size 34 7 v (exGo s xs0 ((toks s).take i)).2.length (itCells (exGo s xs0 ((toks s).take i)).2)) ∧ Hid (Blk wr g ty2 (exCells q (exGo s xs0 ((toks s).take i)).1.fo (exGo s xs0 ((toks s).take i)).1.ch)) ∧ Hid (Blk wr q ty (exGo s xs0 ((toks s).take i)).1.n.cells) ∧ Hid (Kept2 g q w2 wr))
  case atStart => exact ⟨_, 0, rfl, rfl, Nat.zero_le _, Nat.le_refl _, World.ownsRow_nil _ _ _ _, HX2.out, HK2.out, Kept2.refl _ _ _⟩
  case round =>
    obtain ⟨v, i, rfl, rfl, hi1, hg1, HROW, HXR, HKR, HKP⟩ := hrel
    have hszr := HKP.out.size
    have HBR := hid (HB2.out.trans (HKP.out.below (by have := HB2.out.size; omega) HGB.out.1 HGB.out.2))
    by_cases hlt : i < n
    · have hlt' : (i : Int) < (n : Int) := by omega
      have hil : i < (toks s).length := by rw [← HN.out]; exact hlt
      have HAT := hid (fun W (h : Kept2 g q w2 W) => (HTR.out.kept2 h HNE.out).at_ hil)
      obtain ⟨gt, rfl, hgl, x0, x1, x2, x3, x4, x5⟩ := HAT.out wr HKP.out
      have HGT := hid (HNE.out gt rfl)
      have HM := hid (HMEM.out i hil)
      have HNMI := hid (HNM.out i hil)
      have HEXI := hid (HEX.out i hil)
      have HOKI := hid (HOK.out i)
      have HPLI := hid (HPL.out (i + 1))
      have HTK := hid (fun W aa cc zs => xTake_any g q ty ty2 (exGo s xs0 ((toks s).take i)).1 (toks s)[i] aa cc zs W)
      have HTN := hid (fun v W => xTake_nil (tkC (toks s)[i]) _ _ _ _ _ _ v W rfl)
      generalize exGo s xs0 ((toks s).take i) = st at *
      obtain ⟨st2, hst2⟩ : ∃ st2, st2 = exGo s xs0 ((toks s).take (i + 1)) := ⟨_, rfl⟩
      rw [← hst2] at HEXI HPLI
      have HST2 := hid hst2
      clear hst2
      generalize (toks s)[i] = t at *
      obtain ⟨kd, fr, til, nm, r, sg⟩ := t
      simp only [tkC] at x0 x1 x2 x3 x4 x5 HTN HAT
      have hm1 := HM.out
      simp only at hm1
      have hl1 := HLS.out
      have hf0 : ¬ (fr : Int) < 0 := by omega
      have hf1 : ¬ (bLen : Int) < (til : Int) := by omega
      have hf2 : ¬ (til : Int) < (fr : Int) := by omega
      have hd0 : decide ((fr : Int) < 0) = false := decide_eq_false hf0
      have hd1 : decide (bLen < til) = false := decide_eq_false (by omega)
      have hd2 : decide (til < fr) = false := decide_eq_false (by omega)
      have hba3 := HBA.out wr HBR.out
      obtain ⟨hb0, hb1, hb2, hb3⟩ := hba3
      obtain ⟨b, off, rfl, hbz, hbz2⟩ := hb3 (by omega)
      have HBZ := hid (ba_seg hbz2 hbz hb0 hb1 hb2 (Nat.le_of_lt hm1.1) (by omega : til ≤ bLen))
      have hsl := slice_row b off bLen bCap fr til (Nat.le_of_lt hm1.1) (by omega) (by omega)
      have HBG := hid (show b ≠ g from by
        obtain ⟨b', off', e, hlt', _⟩ := (HBA.out w (Below.refl _ _)).2.2.2 (by omega)
        cases e
        have := HGB.out
        omega)
      clear hb0 hb1 hb2 hb3 hbz hbz2 hm1 hl1
      go_wp2_with fail
      go_quiet (fail)
      go_upto_region 12 with fail
      clear hf0 hf1 hf2 hd0 hd1 hd2 x0 x1 x2 x3 x4 x5
      have HKP1 := hid (HKP.out.trans (Kept2.of_g (q := q) (grown_drewN wr nq (some g))))
      have HROW1 := hid (show (wr.drewN nq).ownsRow w2.heap.size 34 7 u5 st.2.length (itCells st.2) from HROW.out)
      have HX1 := hid (HXR.out.drewN nq)
      have HK1 := hid (HKR.out.drewN nq)
      have HBR1 := hid (HBR.out.trans (below_drewN _ wr nq))
      have HBZ1 := hid (HBZ.out.below (below_drewN wr.heap.size wr nq) (Nat.le_refl _))
      have hszr1 : w2.heap.size ≤ (wr.drewN nq).heap.size := hszr
      generalize wr.drewN nq = w3 at *
      obtain ⟨gt', e, hgl3, x0, x1, x2, x3, x4, x5⟩ := HAT.out w3 HKP1.out
      cases e
      refine wp_region_held_drew (S := fun w' : World => w'.cell? ⟨gt, i * 6, none⟩ = some (.int .i64 kd) ∧ w'.cell? ⟨gt, i * 6 + 1, none⟩ = some (.int .i64 fr) ∧ w'.cell? ⟨gt, i * 6 + 2, none⟩ = some (.int .i64 til) ∧ w'.cell? ⟨gt, i * 6 + 3, none⟩ = some (.string nm) ∧ w'.cell? ⟨gt, i * 6 + 4, none⟩ = some (.int .i32 r) ∧ w'.cell? ⟨gt, i * 6 + 5, none⟩ = some (.bool sg) ∧ gt < w'.heap.size) (by kernel_rfl) ⟨x0, x1, x2, x3, x4, x5, hgl3⟩ (fun hHeld => ?_)
      clear x0 x1 x2 x3 x4 x5
      refine wpAnyH_take (i := 0) (v := ?hv1) rfl (by kernel_rfl) (by kernel_rfl) (by kernel_rfl) (fun _ _ _ h => h) (Or.inl ⟨by rfl, ?hy1⟩) (by assumption) ?hr1
      case hy1 => (intro w hSw; (try dsimp only at hSw); go_simp; try with_reducible rfl)
      (try simp only [Act.put, List.getElem_toArray, List.getElem_cons_zero, List.setIfInBounds_toArray, List.set_cons_zero, List.set_cons_succ])
      refine wpAnyH_take (i := 1) (v := ?hv2) rfl (by kernel_rfl) (by kernel_rfl) (by kernel_rfl) (fun _ _ _ h => h) (Or.inl ⟨by rfl, ?hy2⟩) (by assumption) ?hr2
      case hy2 => (intro w hSw; (try dsimp only at hSw); go_simp; try with_reducible rfl)
      (try simp only [Act.put, List.getElem_toArray, List.getElem_cons_zero, List.getElem_cons_succ, List.setIfInBounds_toArray, List.set_cons_zero, List.set_cons_succ])
      refine wpAnyH_take (i := 2) (v := ?hv3) rfl (by kernel_rfl) (by kernel_rfl) (by kernel_rfl) (fun _ _ _ h => h) (Or.inl ⟨by rfl, ?hy3⟩) (by assumption) ?hr3
      case hy3 => (intro w hSw; (try dsimp only at hSw); go_simp; try with_reducible rfl)
      (try simp only [Act.put, List.getElem_toArray, List.getElem_cons_zero, List.getElem_cons_succ, List.setIfInBounds_toArray, List.set_cons_zero, List.set_cons_succ])
      refine wpAnyH_take (i := 3) (v := ?hv4) rfl (by kernel_rfl) (by kernel_rfl) (by kernel_rfl) (fun _ _ _ h => h) (Or.inl ⟨by rfl, ?hy4⟩) (by assumption) ?hr4
      case hy4 => (intro w hSw; (try dsimp only at hSw); go_simp; try with_reducible rfl)
      (try simp only [Act.put, List.getElem_toArray, List.getElem_cons_zero, List.getElem_cons_succ, List.setIfInBounds_toArray, List.set_cons_zero, List.set_cons_succ])
      refine wpAnyH_take (i := 4) (v := ?hv5) rfl (by kernel_rfl) (by kernel_rfl) (by kernel_rfl) (fun _ _ _ h => h) (Or.inl ⟨by rfl, ?hy5⟩) (by assumption) ?hr5
      case hy5 => (intro w hSw; (try dsimp only at hSw); go_simp; try with_reducible rfl)
      (try simp only [Act.put, List.getElem_toArray, List.getElem_cons_zero, List.getElem_cons_succ, List.setIfInBounds_toArray, List.set_cons_zero, List.set_cons_succ])
      refine wpAnyH_take (i := 5) (v := ?hv6) rfl (by kernel_rfl) (by kernel_rfl) (by kernel_rfl) (fun _ _ _ h => h) (Or.inl ⟨by rfl, ?hy6⟩) (by assumption) ?hr6
      case hy6 => (intro w hSw; (try dsimp only at hSw); go_simp; try with_reducible rfl)
      (try simp only [Act.put, List.getElem_toArray, List.getElem_cons_zero, List.getElem_cons_succ, List.setIfInBounds_toArray, List.set_cons_zero, List.set_cons_succ])
      refine wpAnyH_take (i := 6) (v := ?hv7) rfl (by kernel_rfl) (by kernel_rfl) (by kernel_rfl) (fun _ _ _ h => h) (Or.inl ⟨by rfl, ?hy7⟩) (by assumption) ?hr7
      case hy7 => (intro w hSw; (try dsimp only at hSw); go_simp; try with_reducible rfl)
      (try simp only [Act.put, List.getElem_toArray, List.getElem_cons_zero, List.getElem_cons_succ, List.setIfInBounds_toArray, List.set_cons_zero, List.set_cons_succ])
      refine wpAnyH_take (i := 7) (v := ?hv8) rfl (by kernel_rfl) (by kernel_rfl) (by kernel_rfl) (fun _ _ _ h => h) (Or.inl ⟨by rfl, ?hy8⟩) (by assumption) ?hr8
      case hy8 => (intro w hSw; (try dsimp only at hSw); go_simp; try with_reducible rfl)
      (try simp only [Act.put, List.getElem_toArray, List.getElem_cons_zero, List.getElem_cons_succ, List.setIfInBounds_toArray, List.set_cons_zero, List.set_cons_succ])
      refine wpAnyH_take (i := 8) (v := ?hv9) rfl (by kernel_rfl) (by kernel_rfl) (by kernel_rfl) (fun _ _ _ h => h) (Or.inl ⟨by rfl, ?hy9⟩) (by assumption) ?hr9
      case hy9 => (intro w hSw; (try dsimp only at hSw); go_simp; try with_reducible rfl)
      (try simp only [Act.put, List.getElem_toArray, List.getElem_cons_zero, List.getElem_cons_succ, List.setIfInBounds_toArray, List.set_cons_zero, List.set_cons_succ])
      refine wpAnyH_take (i := 9) (v := ?hv10) rfl (by kernel_rfl) (by kernel_rfl) (by kernel_rfl) (fun _ _ _ h => h) (Or.inl ⟨by rfl, ?hy10⟩) (by assumption) ?hr10
      case hy10 => (intro w hSw; (try dsimp only at hSw); go_simp; try with_reducible rfl)
      (try simp only [Act.put, List.getElem_toArray, List.getElem_cons_zero, List.getElem_cons_succ, List.setIfInBounds_toArray, List.set_cons_zero, List.set_cons_succ])
      refine wpAnyH_take (i := 10) (v := ?hv11) rfl (by kernel_rfl) (by kernel_rfl) (by kernel_rfl) (fun _ _ _ h => h) (Or.inl ⟨by rfl, ?hy11⟩) (by assumption) ?hr11
      case hy11 => (intro w hSw; (try dsimp only at hSw); go_simp; try with_reducible rfl)
      (try simp only [Act.put, List.getElem_toArray, List.getElem_cons_zero, List.getElem_cons_succ, List.setIfInBounds_toArray, List.set_cons_zero, List.set_cons_succ])
      refine wpAnyH_take (i := 11) (v := ?hv12) rfl (by kernel_rfl) (by kernel_rfl) (by kernel_rfl) (fun _ _ _ h => h) (Or.inl ⟨by rfl, ?hy12⟩) (by assumption) ?hr12
      case hy12 => (intro w hSw; (try dsimp only at hSw); go_simp; try with_reducible rfl)
      (try simp only [Act.put, List.getElem_toArray, List.getElem_cons_zero, List.getElem_cons_succ, List.setIfInBounds_toArray, List.set_cons_zero, List.set_cons_succ])
      refine wpAnyH_take (i := 12) (v := ?hv13) rfl (by kernel_rfl) (by kernel_rfl) (by kernel_rfl) (fun _ _ _ h => h) (Or.inl ⟨by rfl, ?hy13⟩) (by assumption) ?hr13
      case hy13 => (intro w hSw; (try dsimp only at hSw); go_simp; try with_reducible rfl)
      (try simp only [Act.put, List.getElem_toArray, List.getElem_cons_zero, List.getElem_cons_succ, List.setIfInBounds_toArray, List.set_cons_zero, List.set_cons_succ])
      refine wpAnyH_take (i := 13) (v := ?hv14) rfl (by kernel_rfl) (by kernel_rfl) (by kernel_rfl) (fun _ _ _ h => h) (Or.inl ⟨by rfl, ?hy14⟩) (by assumption) ?hr14
      case hy14 => (intro w hSw; (try dsimp only at hSw); go_simp; try with_reducible rfl)
      (try simp only [Act.put, List.getElem_toArray, List.getElem_cons_zero, List.getElem_cons_succ, List.setIfInBounds_toArray, List.set_cons_zero, List.set_cons_succ])
      refine wpAnyH_take (i := 14) (v := ?hv15) rfl (by kernel_rfl) (by kernel_rfl) (by kernel_rfl) (fun _ _ _ h => h) (Or.inl ⟨by rfl, ?hy15⟩) (by assumption) ?hr15
      case hy15 => (intro w hSw; (try dsimp only at hSw); go_simp; try with_reducible rfl)
      (try simp only [Act.put, List.getElem_toArray, List.getElem_cons_zero, List.getElem_cons_succ, List.setIfInBounds_toArray, List.set_cons_zero, List.set_cons_succ])
      refine wpAnyH_take (i := 15) (v := ?hv16) rfl (by kernel_rfl) (by kernel_rfl) (by kernel_rfl) (fun _ _ _ h => h) (Or.inl ⟨by rfl, ?hy16⟩) (by assumption) ?hr16
      case hy16 => (intro w hSw; (try dsimp only at hSw); go_simp; try with_reducible rfl)
      (try simp only [Act.put, List.getElem_toArray, List.getElem_cons_zero, List.getElem_cons_succ, List.setIfInBounds_toArray, List.set_cons_zero, List.set_cons_succ])
      refine wpAnyH_take (i := 16) (v := ?hv17) rfl (by kernel_rfl) (by kernel_rfl) (by kernel_rfl) (fun _ _ _ h => h) (Or.inl ⟨by rfl, ?hy17⟩) (by assumption) ?hr17
      case hy17 => (intro w hSw; (try dsimp only at hSw); go_simp; try with_reducible rfl)
      (try simp only [Act.put, List.getElem_toArray, List.getElem_cons_zero, List.getElem_cons_succ, List.setIfInBounds_toArray, List.set_cons_zero, List.set_cons_succ])
      refine wpAnyH_take (i := 17) (v := ?hv18) rfl (by kernel_rfl) (by kernel_rfl) (by kernel_rfl) (fun _ _ _ h => h) (Or.inl ⟨by rfl, ?hy18⟩) (by assumption) ?hr18
      case hy18 => (intro w hSw; (try dsimp only at hSw); go_simp; try with_reducible rfl)
      (try simp only [Act.put, List.getElem_toArray, List.getElem_cons_zero, List.getElem_cons_succ, List.setIfInBounds_toArray, List.set_cons_zero, List.set_cons_succ])
      refine wpAnyH_ready (rs := [18]) (by kernel_rfl) (by simp) ?_
      refine AllReadyH.cons rfl (fun K hK => ?_) AllReadyH.nil
      go_simp
      go_at_call 15
      have hcall := HTK.out w3.drew (some ⟨b, off + fr, none⟩) (bCap - fr) (seg s ⟨kd, fr, til, nm, r, sg⟩) HK1.out.drew HX1.out.drew HGQ.out.1 HOKI.out (by have := HNMI.out; have := HLS.out; unfold maxLen; omega) (HTB.out _ HBR1.out.drew) (sb_of_ba HBZ1.out).1 (by have h1 := HM.out; have := HLS.out; rw [seg_len h1.2.1]; simp only; omega) (Nat.le_of_lt HM.out.1) (by have := HM.out; have := HLS.out; omega) (fun b' off' e => by cases e; exact HBG.out)
      rw [seg_len HM.out.2.1] at hcall
      simp only [tkC] at hcall
      refine hcall.mono ?_
      rintro e w5 ⟨v', rfl, hr5, hx5, hk5, hkp5⟩
      have hR := HEXI.out
      have HKP5 := hid (HKP1.out.trans ((⟨rfl, rfl, rfl, Nat.le_refl _, fun _ _ _ _ => rfl⟩ : Kept2 g q w3 w3.drew).trans hkp5))
      obtain ⟨gt', e, hgl5, x0, x1, x2, x3, x4, x5⟩ := HAT.out w5 HKP5.out
      cases e
      obtain ⟨va, vc, rfl⟩ := owns_slice hr5
      have HRD := hid (Reads.of_own hr5)
      have HX5 := hid hx5
      have HK5 := hid hk5
      have HROW5 := hid (hkp5.own HROW1.out.drew (Nat.lt_of_lt_of_le HGQ.out.2.1 hs12) (Nat.lt_of_lt_of_le HGQ.out.2.2 hs12))
      have HS5 := hid (And.intro x0 (And.intro x1 (And.intro x2 (And.intro x3 (And.intro x4 (And.intro x5 hgl5))))))
      generalize exTake st.1 ⟨kd, fr, til, nm, r, sg⟩ (seg s ⟨kd, fr, til, nm, r, sg⟩) = R at *
      obtain ⟨x', l'⟩ := R
      simp only at *
      clear hcall hr5 hx5 hk5 hkp5 x0 x1 x2 x3 x4 x5
      go_wp2_with fail
      refine hK.out _ _ HS5.out (fun hHeld2 => ?_)
      clear hK K hHeld
      refine wpAnyH_ready (rs := [19]) (by kernel_rfl) (by simp) ?_
      refine AllReadyH.cons rfl (fun K hK => ?_) AllReadyH.nil
      rw [if_pos (by kernel_rfl)]
      have hlt5 := hHeld2.2.2.2.2.2.2
      have hp1 : l'.length + st.2.length ≤ 1000000 := by
        have h1 := HPLI.out
        have := HLS.out
        rw [hR] at h1
        simp only [List.length_append] at h1
        omega
      have hs25 := HKP5.out.size
      refine wp_append_any _ (.tmp 56) (.tmp 74) 26 rfl w2.heap.size 34 i0 (.agg it0) 7 32 Tryz.underlying26 hi hz0 hz1 hz2 rfl (by decide) u5 st.2.length (itCells st.2) rfl HROW5.out w5.heap.size va l'.length vc (itCells l') rfl HRD.out (itCells_one l') (by unfold maxLen; omega) (by omega) (by omega) ?_
      intro v6 w6 hown6 hgrow6 _
      have HROW6 := hid hown6
      have HX6 := hid (HX5.out.grown hgrow6 (fun e => by have := (HROW5.out.lt g e.symm).1; have := HGQ.out; omega))
      have HK6 := hid (HK5.out.grown hgrow6 (fun e => by have := (HROW5.out.lt q e.symm).1; have := HGQ.out; omega))
      have HKP6 := hid (HKP5.out.grown hgrow6 (fun j e => (HROW5.out.lt j e).1))
      clear hown6 hgrow6
      obtain ⟨gt', e, hgl6, x0, x1, x2, x3, x4, x5⟩ := HAT.out w6 HKP6.out
      cases e
      refine hK.out _ _ ⟨x0, x1, x2, x3, x4, x5, hgl6⟩ (fun hHeld3 => ?_)
      clear hK K hHeld2
      refine wpAnyH_take (i := 20) (v := ?hv19) rfl (by kernel_rfl) (by kernel_rfl) (by kernel_rfl) (fun _ _ _ h => h) (Or.inl ⟨by rfl, ?hy19⟩) (by assumption) ?hr19
      case hy19 => (intro w hSw; (try dsimp only at hSw); go_simp; try with_reducible rfl)
      (try simp only [Act.put, List.getElem_toArray, List.getElem_cons_zero, List.getElem_cons_succ, List.setIfInBounds_toArray, List.set_cons_zero, List.set_cons_succ])
      refine wpAnyH_done (by kernel_rfl) ?_ _
      clear hHeld3 hp1 hlt5 hR
      have HBR6 := hid (HB2.out.trans (HKP6.out.below (by have := HB2.out.size; omega) HGB.out.1 HGB.out.2))
      go_wp2_with fail
      refine (HTN.out _ w6).mono ?_
      rintro e w7 ⟨rfl, hb7⟩
      have HROW7 := hid (show w7.ownsRow w2.heap.size 34 7 v6 (st.2.length + l'.length) (itCells st.2 ++ itCells l') from owns_below HROW6.out hb7)
      have HX7 := hid (HX6.out.below hb7 HX6.out.lt)
      have HK7 := hid (HK6.out.below hb7 HK6.out.lt)
      have HKP7 := hid (HKP6.out.trans (Kept2.of_below (g := g) (q := q) hb7 (Nat.le_refl _)))
      clear hb7 x0 x1 x2 x3 x4 x5
      go_wp2_with fail
      go_roundg (n - (i + 1))
      case measure => omega
      case rel => exact ⟨v6, i + 1, rfl, by go_num, by omega, Nat.le_refl _, by show World.ownsRow _ _ _ _ _ _ _; rw [← HST2.out, HEXI.out]; show World.ownsRow _ _ _ _ _ (st.2 ++ l').length (itCells (st.2 ++ l')); rw [List.length_append, itCells_app]; exact HROW7.out, by show Blk _ _ _ _; rw [← HST2.out, HEXI.out]; exact HX7.out, by show Blk _ _ _ _; rw [← HST2.out, HEXI.out]; exact HK7.out, HKP7.out⟩
    · obtain rfl : i = n := by omega
      have hrow := HROW.out
      have ht : (toks s).take i = toks s := by rw [HN.out, List.take_length]
      rw [ht] at hrow
      have hrow' : wr.ownsRow w2.heap.size 34 7 u5 (exAll s).length (itCells (exAll s)) := hrow
      obtain ⟨A4, cap4, e4, hir⟩ := IR.of_own hrow'
      have HIR := hid hir
      have HLL := hid (exAll_len s)
      have HE4 := hid e4
      subst e4
      clear hlt hrow hrow' ht hir HROW HX2 HK2 HXR HKR HEX HOK HPL HMEM HNM
      go_wp2_with fail
      refine (HEXA.out wr HBR.out).mono ?_
      rintro e w4 ⟨v4, rfl, hrow4, hb4⟩
      obtain ⟨A5, cap5, rfl, hir5⟩ := IR.of_own hrow4
      have HIR4 := hid (HIR.out.below hb4 (Nat.le_refl _))
      have HIR5 := hid hir5
      have HB4 := hid (HBR.out.trans (hb4.mono HBR.out.size))
      have hl9 : (exAll s).length ≤ 300 := by have := HLL.out; have := HLS.out; omega
      clear hrow4 hir5 hb4
      generalize exAll s = l at *
      obtain ⟨m, hmm⟩ : ∃ m, m = l.length := ⟨_, rfl⟩
      have HM := hid hmm
      rw [← hmm] at HIR4 HIR5 hl9 ⊢
      clear hmm
      go_wp2_with fail
      go_loopg [9] m (fun kx s9 wz => ∃ j : Nat, s9 = .int .i64 j ∧ j ≤ m ∧ m - j ≤ kx ∧ Hid (Below w4.heap.size w4 wz))
      case atStart => exact ⟨0, rfl, Nat.zero_le _, Nat.le_refl _, Below.refl _ _⟩
      case round =>
        obtain ⟨j, rfl, hj, hg2, HBZ⟩ := hrel
        by_cases hlt2 : j < m
        · have hlt2' : (j : Int) < (m : Int) := by omega
          have hjl : j < l.length := by rw [← HM.out]; exact hlt2
          obtain ⟨g5, rfl, _, x0, x1, x2, x3, x4, x5, x6⟩ := (HIR4.out.below HBZ.out (Nat.le_refl _)).at_ hjl
          obtain ⟨g6, rfl, _, y0, y1, y2, y3, y4, y5, y6⟩ := (HIR5.out.below HBZ.out (Nat.le_refl _)).at_ hjl
          generalize l[j] = t at *
          obtain ⟨tr, ta, tz, tf, tc, tn, tp⟩ := t
          simp only at x0 x1 x2 x3 x4 x5 x6 y0 y1 y2 y3 y4 y5 y6
          go_wp2_with fail
          go_region
          have HB7 := hid (HBZ.out.drew)
          clear x0 x1 x2 x3 x4 x5 x6 y0 y1 y2 y3 y4 y5 y6
          go_wp2_with fail
          go_roundg (m - (j + 1))
          case measure => omega
          case rel => exact ⟨j + 1, by go_num, by omega, Nat.le_refl _, HB7.out⟩
        · have hlt2' : ¬ (j : Int) < (m : Int) := by omega
          clear hlt2 hg2
          go_wp2_with fail
          go_ret
          exact ⟨rfl, HB4.out.trans (HBZ.out.mono HB4.out.size)⟩
end Go.Proofs.YtlfbgaknljdanaaGreatDoor.extractTakes
