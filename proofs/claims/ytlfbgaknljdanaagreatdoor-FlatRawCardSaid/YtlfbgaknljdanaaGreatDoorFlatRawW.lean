/- The walk of the law FlatRaw. -/
import Derived.Test.YtlfbgaknljdanaaGreatDoorExLaid
import Derived.Test.YtlfbgaknljdanaaGreatDoorFlM1
import Derived.Test.YtlfbgaknljdanaaGreatDoorFlP
import Derived.Test.YtlfbgaknljdanaaGreatDoorExM4
import Derived.StillTailTactics
import Derived.BigQuiet
import Derived.Test.YtlfbgaknljdanaaGreatDoorOpen
namespace Go.Proofs.YtlfbgaknljdanaaGreatDoor.flatRaw
open Go.RowKit Go.Shelf
open Go.Lib (hid)
set_option linter.unusedVariables false
set_option linter.unusedSimpArgs false
set_option maxRecDepth 100000

theorem IR.drewN {w : World} {A : Option Addr} {n : Nat} {l : List It} (h : IR w A n l) (q : Nat) : IR (w.drewN q) A n l := h.below (below_drewN w.heap.size w q) (Nat.le_refl _)
set_option maxHeartbeats 8000000 in
theorem walk (b : Option Addr) (bLen bCap : Nat) (bD : List Int) (i : Int) (k : Int) (w : World) (w0 : IsRow .u8 w b bLen bCap bD) (w1 : (Lit.int .i64 i).wf = true) (w2 : (Lit.int .i64 k).wf = true) (hsh : w.ShapedOpen Tryz.prog) (hsp : TabSp w) :
    Calls Tryz.prog 8 #[.slice b bLen bCap, .int .i64 i, .int .i64 k] w fun e w' => e = .returned (.bool true) ∧ Below w.heap.size w w' := by
  have hmx := mx_of hsh
  obtain ⟨s, hba⟩ := ba_of w0
  have HAW := hid (fun W (h : Below w.heap.size w W) => flawake_any W (hsp.below h (Nat.le_refl _)) (hmx.below h (Nat.le_refl _)))
  by_cases hbig : 300 < bLen
  · have hbig' : (300 : Int) < (bLen : Int) := by omega
    clear hba w0 w1 w2
    go_enter Tryz.func8, Tryz.ntmps8
    go_wp2_with fail
    refine (HAW.out _ (Below.refl _ _)).mono ?_
    rintro e w2 ⟨rfl, hb2⟩
    have HB2 := hid hb2
    clear hb2
    go_wp2_with fail
    go_ret
    exact ⟨rfl, HB2.out⟩
  have hbig' : ¬ (300 : Int) < (bLen : Int) := by omega
  have HNEW := hid (fun W (h : Below w.heap.size w W) => flNew_any b bLen bCap s W (hba.below h (Nat.le_refl _)) (hmx.below h (Nat.le_refl _)) (hsp.below h (Nat.le_refl _)) (by omega))
  have HREF := hid (fun W (h : Below w.heap.size w W) => refAll23_any b bLen bCap s W (hba.below h (Nat.le_refl _)) (by omega))
  have hl300 : (exAll s).length ≤ 300 := by
    have := exAll_len s
    have := hba.1
    omega
  have HLS := hid hba.1
  have HBA := hid (fun W (h : Below w.heap.size w W) => hba.below h (Nat.le_refl _))
  clear hba w0 hmx hsp hsh w1 w2
  go_enter Tryz.func8, Tryz.ntmps8
  go_wp2_with fail
  refine (HAW.out _ (Below.refl _ _)).mono ?_
  rintro e w2 ⟨rfl, hb2⟩
  have HB2 := hid hb2
  clear hb2
  go_wp2_with fail
  refine (HNEW.out _ HB2.out).mono ?_
  rintro e w3 ⟨g, rfl, _, hfl, hb3⟩
  have HB3 := hid (HB2.out.trans (hb3.mono HB2.out.size))
  have HFL3 := hid hfl
  clear hb3 hfl HAW HNEW
  go_wp2_with fail
  refine (HREF.out _ HB3.out).mono ?_
  rintro e w4 ⟨v, rfl, hrow, hb4⟩
  obtain ⟨A, cap, rfl, hir⟩ := IR.of_own hrow
  have HB4 := hid (HB3.out.trans (hb4.mono HB3.out.size))
  have hfl4 := HFL3.out.below hb4 (Nat.le_refl _)
  have HRI := hid (Raw_any g s (exAll s) i w4 hfl4)
  have HSL := hid (flSlice_any g s (exAll s) i k w4 hfl4 (by have := HLS.out; omega) (fun a b h1 h2 => rawF_le s h1 h2) (fun a h1 => rawF_bd s h1))
  have HRL := hid (fun a b h1 h2 => rawF_le s (i := a) (j := b) h1 h2)
  have HRB := hid (fun a h1 => rawF_bd s (i := a) h1)
  have HIR4 := hid hir
  clear hb4 hrow hir HREF HFL3 hfl4
  generalize exAll s = l at *
  obtain ⟨n, hn⟩ : ∃ n, n = l.length := ⟨_, rfl⟩
  have HN := hid hn
  rw [← hn] at HRI HIR4 hl300 ⊢
  clear hn
  by_cases hin : 0 ≤ i ∧ i ≤ (n : Int)
  · obtain ⟨j, rfl⟩ := Int.eq_ofNat_of_zero_le hin.1
    rw [if_pos hin, decide_eq_true hin, Int.toNat_natCast] at HRI
    have hj : j ≤ n := by omega
    have hj0 : (0 : Int) ≤ (j : Int) := by omega
    have hj1 : (j : Int) ≤ (n : Int) := by omega
    have HRF := hid (fun W (h : IR W A n l) => refRaw_any A n cap s l j W h (by rw [← HN.out]; exact hj))
    rw [← HLS.out] at HRF
    have HRJ := hid (show rawF s l j ≤ s.size from HRB.out j (by rw [← HN.out]; exact hj))
    obtain ⟨r, hr⟩ : ∃ r, r = rawF s l j := ⟨_, rfl⟩
    rw [← hr] at HRI HRF
    have HRR := hid hr
    clear hin hr
    go_wp2_with fail
    refine HRI.out.mono ?_
    rintro e w5 ⟨rfl, hw5⟩
    obtain rfl := hw5
    go_wp2_with fail
    refine HSL.out.mono ?_
    rintro e w6 ⟨A6, n6, c6, rfl, hba6, hb6⟩
    have HBA6 := hid hba6
    have HB6 := hid (HB4.out.trans (hb6.mono HB4.out.size))
    have HIR6 := hid (HIR4.out.below hb6 (Nat.le_refl _))
    have HRF6 := hid (HRF.out w6 HIR6.out)
    clear hba6 hb6 HSL HRI
    go_wp2_with fail
    refine HRF6.out.mono ?_
    rintro e w7 ⟨rfl, hw7⟩
    obtain rfl := hw7
    by_cases hkj : k < (j : Int)
    · have hn0 : n6 = 0 := by
        have h1 := HBA6.out.1
        rw [h1]
        unfold sliceF
        rw [if_neg (fun hh => by omega)]
        rfl
      subst hn0
      go_wp2_with fail
      go_ret
      exact ⟨rfl, HB6.out⟩
    by_cases hkn : (n : Int) < k
    · have hn0 : n6 = 0 := by
        have h1 := HBA6.out.1
        rw [h1]
        unfold sliceF
        rw [if_neg (fun hh => by have := HN.out; omega)]
        rfl
      subst hn0
      go_wp2_with fail
      go_ret
      exact ⟨rfl, HB6.out⟩
    · obtain ⟨m, rfl⟩ := Int.eq_ofNat_of_zero_le (show 0 ≤ k by omega)
      have hm : m ≤ n := by omega
      have hrm := HRL.out j m (by omega) (by rw [← HN.out]; exact hm)
      have hms := HRB.out m (by rw [← HN.out]; exact hm)
      have HRM := hid (fun q => refRaw_any A n cap s l m (w7.drewN q) (IR.drewN HIR6.out q) (by rw [← HN.out]; exact hm))
      have HRJ2 := hid (fun q => HRF.out (w7.drewN q) (IR.drewN HIR6.out q))
      rw [← HLS.out] at HRM
      have hsf : sliceF s l (j : Int) (m : Int) = s.extract r (rawF s l m) := by
        unfold sliceF
        rw [if_pos (by have := HN.out; omega), Int.toNat_natCast, Int.toNat_natCast, HRR.out]
      rw [← HRR.out] at hrm
      have hba6 := HBA6.out
      rw [hsf] at hba6
      generalize rawF s l m = r2 at *
      obtain ⟨A', c', hsl, hba'⟩ := slice_ba (HBA.out w7 HB6.out) hrm (by rw [HLS.out]; exact hms)
      have hcv1 : ∀ q, (convert 22 9 (.slice A6 n6 c6)).run Tryz.prog (w7.drewN q) = .ok (.string (s.extract r r2)) (w7.drewN q) := fun q => conv_ba (hba6.below (below_drewN w7.heap.size w7 q) (Nat.le_refl _))
      have hcv2 : ∀ q, (convert 22 9 (.slice A' (r2 - r) c')).run Tryz.prog (w7.drewN q) = .ok (.string (s.extract r r2)) (w7.drewN q) := fun q => conv_ba (hba'.below (below_drewN w7.heap.size w7 q) (Nat.le_refl _))
      clear hba6 hba' hrm hms hsf HRJ HRR HBA6
      generalize s.extract r r2 = t at *
      go_upto_region 11 with fail
      go_quiet (first | (go_at_call 26; with_reducible exact Calls.quiet_of_same (HRJ2.out _)) | (go_at_call 26; with_reducible exact Calls.quiet_of_same (HRM.out _)))
      go_wp2_with fail
      go_ret
      exact ⟨rfl, HB6.out.trans (below_drewN _ w7 nq)⟩
  · rw [if_neg hin, decide_eq_false hin] at HRI
    have hn0 : ∀ n6, n6 = (sliceF s l i k).size → n6 = 0 := fun n6 h => by
      rw [h]
      unfold sliceF
      rw [if_neg (fun hh => hin (by have := HN.out; omega))]
      rfl
    have HN0 := hid hn0
    clear hn0
    have hc : i < 0 ∨ (0 ≤ i ∧ (n : Int) < i) := by omega
    clear hin
    rcases hc with hc | ⟨hc0, hc⟩
    · have hc1 : ¬ 0 ≤ i := by omega
      go_wp2_with fail
      refine HRI.out.mono ?_
      rintro e w5 ⟨rfl, hw5⟩
      obtain rfl := hw5
      go_wp2_with fail
      refine HSL.out.mono ?_
      rintro e w6 ⟨A6, n6, c6, rfl, hba6, hb6⟩
      have HB6 := hid (HB4.out.trans (hb6.mono HB4.out.size))
      obtain rfl := HN0.out n6 hba6.1
      clear hba6 hb6 HSL HRI
      go_wp2_with fail
      go_ret
      exact ⟨rfl, HB6.out⟩
    · have hc1 : ¬ i ≤ (n : Int) := by omega
      go_wp2_with fail
      refine HRI.out.mono ?_
      rintro e w5 ⟨rfl, hw5⟩
      obtain rfl := hw5
      go_wp2_with fail
      refine HSL.out.mono ?_
      rintro e w6 ⟨A6, n6, c6, rfl, hba6, hb6⟩
      have HB6 := hid (HB4.out.trans (hb6.mono HB4.out.size))
      obtain rfl := HN0.out n6 hba6.1
      clear hba6 hb6 HSL HRI
      go_wp2_with fail
      go_ret
      exact ⟨rfl, HB6.out⟩
end Go.Proofs.YtlfbgaknljdanaaGreatDoor.flatRaw
