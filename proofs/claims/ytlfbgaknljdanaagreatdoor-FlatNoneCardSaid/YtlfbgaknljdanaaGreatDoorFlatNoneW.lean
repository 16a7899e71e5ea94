/- The walk of the law FlatNone. -/
import Derived.Test.YtlfbgaknljdanaaGreatDoorExLaid
import Derived.Test.YtlfbgaknljdanaaGreatDoorFlM1
import Derived.Test.YtlfbgaknljdanaaGreatDoorExM4
import Derived.Laws.OwnMore
import Derived.StillTailTactics
import Derived.BigQuiet
import Derived.Test.YtlfbgaknljdanaaGreatDoorOpen
namespace Go.Proofs.YtlfbgaknljdanaaGreatDoor.flatNone
open Go.RowKit Go.Shelf
open Go.Lib (hid)
set_option linter.unusedVariables false
set_option linter.unusedSimpArgs false
set_option maxRecDepth 100000

set_option maxHeartbeats 8000000 in
theorem walk (b : Option Addr) (bLen bCap : Nat) (bD : List Int) (i : Int) (k : Int) (w : World) (w0 : IsRow .u8 w b bLen bCap bD) (w1 : (Lit.int .i64 i).wf = true) (w2 : (Lit.int .i64 k).wf = true) (hsh : w.ShapedOpen Tryz.prog) (hsp : TabSp w) :
    Calls Tryz.prog 11 #[.slice b bLen bCap, .int .i64 i, .int .i64 k] w fun e w' => e = .returned (.bool true) ∧ Below w.heap.size w w' := by
  have hmx := mx_of hsh
  obtain ⟨s, hba⟩ := ba_of w0
  have HAW := hid (fun W (h : Below w.heap.size w W) => flawake_any W (hsp.below h (Nat.le_refl _)) (hmx.below h (Nat.le_refl _)))
  by_cases hbig : 300 < bLen
  · have hbig' : (300 : Int) < (bLen : Int) := by omega
    clear hba w0 w1 w2
    go_enter Tryz.func11, Tryz.ntmps11
    go_wp2_with fail
    refine (HAW.out _ (Below.refl _ _)).mono ?_
    rintro e w2 ⟨rfl, hb2⟩
    have HB2 := hid hb2
    clear hb2
    go_wp2_with fail
    go_ret
    exact ⟨rfl, HB2.out⟩
  have hbig' : ¬ (300 : Int) < (bLen : Int) := by omega
  have HNEW := hid (fun W (h : Below w.heap.size w W) => flNew_any b bLen bCap s W (hba.below h (Nat.le_refl _)) (hmx.below h (Nat.le_refl _)) (hsp.below h (Nat.le_refl _)) (by omega))
  have HREF := hid (fun W (h : Below w.heap.size w W) => refAll23_any b bLen bCap s W (hba.below h (Nat.le_refl _)) (by omega))
  have hl300 : (exAll s).length ≤ 300 := by
    have := exAll_len s
    have := hba.1
    omega
  have HN1 := hid (fun W => flItem_nil i W)
  have HN2 := hid (fun W => Raw_nil i W)
  have HN3 := hid (fun W => Plain_nil i W)
  have HN4 := hid (fun W => flLen_nil W)
  have HN5 := hid (fun W => flSize_nil W)
  have HN6 := hid (fun W => flText_nil W)
  have HN7 := hid (fun W => flItems_nil W)
  have HN8 := hid (fun W => flSlice_nil i k W)
  clear hba w0 hmx hsp hsh w1 w2
  go_enter Tryz.func11, Tryz.ntmps11
  go_wp2_with fail
  refine (HAW.out _ (Below.refl _ _)).mono ?_
  rintro e w2 ⟨rfl, hb2⟩
  have HB2 := hid hb2
  clear hb2
  go_wp2_with fail
  refine (HN1.out _).mono ?_
  rintro e w3 ⟨rfl, hb3⟩
  have HB3 := hid (HB2.out.trans (hb3.mono HB2.out.size))
  have HB4 := hid (fun o => HB3.out.alloc HB3.out.size o)
  clear hb3
  simp only [itC, itNone]
  go_upto_region 5 with fail
  generalize hw4 : w3.alloc _ = w4
  have HB4 := hid (show Below w.heap.size w w4 by rw [← hw4]; exact HB4.out _)
  clear hw4
  go_wp2_with fail
  refine (HN2.out _).mono ?_
  rintro e w5 ⟨rfl, hw5⟩
  obtain rfl := hw5
  go_wp2_with fail
  refine (HN3.out _).mono ?_
  rintro e w6 ⟨rfl, hb6⟩
  have HB6 := hid (HB4.out.trans (hb6.mono HB4.out.size))
  clear hb6
  go_wp2_with fail
  refine (HN4.out _).mono ?_
  rintro e w7 ⟨rfl, hw⟩
  obtain rfl := hw
  go_wp2_with fail
  refine (HN5.out _).mono ?_
  rintro e w7 ⟨rfl, hw⟩
  obtain rfl := hw
  go_wp2_with fail
  refine (HN6.out _).mono ?_
  rintro e w7 ⟨rfl, hw⟩
  obtain rfl := hw
  go_wp2_with fail
  refine (HN7.out _).mono ?_
  rintro e w7 ⟨rfl, hw⟩
  obtain rfl := hw
  go_wp2_with fail
  refine (HN8.out _).mono ?_
  rintro e w7 ⟨rfl, hw⟩
  obtain rfl := hw
  go_wp2_with fail
  refine (HNEW.out _ HB6.out).mono ?_
  rintro e w8 ⟨g, rfl, _, hfl, hb8⟩
  have HB8 := hid (HB6.out.trans (hb8.mono HB6.out.size))
  have HIM := hid (fun W (h : Below w8.heap.size w8 W) => flItems_any g s (exAll s) W (hfl.below h (Nat.le_refl _)) (by omega))
  clear hb8 hfl HNEW HAW HN1 HN2 HN3 HN4 HN5 HN6 HN7 HN8
  go_wp2_with fail
  refine (HIM.out _ (Below.refl _ _)).mono ?_
  rintro e w9 ⟨v, rfl, hrow, hb9⟩
  have HB9 := hid hb9
  clear hb9
  generalize hll : exAll s = l at *
  have HEND : ∀ w10, Below w8.heap.size w8 w10 → Hid (Below w.heap.size w w10) := fun w10 h => HB8.out.trans (h.mono HB8.out.size)
  cases l with
  | nil =>
    obtain ⟨A, c, rfl⟩ := owns_slice hrow
    clear hrow
    have hlen0 : ([] : List It).length = 0 := rfl
    rw [hlen0] at HIM HREF ⊢
    go_wp2_with fail
    refine (HIM.out _ HB9.out).mono ?_
    rintro e w11 ⟨v2, rfl, hrow2, hb11⟩
    obtain ⟨A2, c2, rfl, hir2⟩ := IR.of_own hrow2
    have HB11 := hid (HB9.out.trans (hb11.mono HB9.out.size))
    have HIR2 := hid hir2
    clear hb11 hrow2 hir2
    go_wp2_with fail
    refine (HREF.out _ (HEND _ HB11.out).out).mono ?_
    rintro e w12 ⟨v3, rfl, hrow3, hb12⟩
    obtain ⟨A3, c3, rfl, hir3⟩ := IR.of_own hrow3
    have HB12 := hid (HB11.out.trans (hb12.mono HB11.out.size))
    have HIS := hid (itemsIs_any A2 A3 0 c2 c3 [] w12 (HIR2.out.below hb12 (Nat.le_refl _)) hir3 (by decide))
    clear hb12 hrow3 hir3
    go_wp2_with fail
    refine HIS.out.mono ?_
    rintro e w13 ⟨rfl, hb13⟩
    have HB13 := hid (HB12.out.trans (hb13.mono HB12.out.size))
    clear hb13
    go_wp2_with fail
    go_ret
    exact ⟨rfl, (HEND _ HB13.out).out⟩
  | cons t tl =>
    obtain ⟨g9, c9, rfl⟩ := ownsRow_succ (k := tl.length) hrow
    have h0 := hrow.cellAt 0 (by omega)
    have f0 := hrow.frozenAt 0
    have hg9 := (hrow.lt g9 rfl).1
    have hc0 : (itCells (t :: tl))[0]? = some (.int .i32 t.r) := rfl
    rw [hc0] at h0
    obtain ⟨n, hn⟩ : ∃ n, n = tl.length + 1 := ⟨_, rfl⟩
    rw [show (t :: tl).length = n from hn.symm] at HIM HREF hl300
    rw [← hn]
    have hpos : (0 : Int) < (n : Int) := by omega
    have HN := hid (show n = (t :: tl).length from hn)
    have HST := hid (fun u => HB9.out.setCell (p := ⟨g9, 0, none⟩) hg9 u)
    generalize hl : t :: tl = l at *
    clear hrow hn hc0 hl
    go_upto_region 13 with fail
    generalize hw10 : w9.setCell ⟨g9, 0, none⟩ _ = w10
    have HB10 := hid (show Below w8.heap.size w8 w10 by rw [← hw10]; exact HST.out _)
    clear hw10 HST h0 f0
    go_wp2_with fail
    refine (HIM.out _ HB10.out).mono ?_
    rintro e w11 ⟨v2, rfl, hrow2, hb11⟩
    rw [HN.out] at hrow2
    obtain ⟨A2, c2, rfl, hir2⟩ := IR.of_own hrow2
    rw [← HN.out] at hir2 ⊢
    have HB11 := hid (HB10.out.trans (hb11.mono HB10.out.size))
    have HIR2 := hid hir2
    clear hb11 hrow2 hir2
    go_wp2_with fail
    refine (HREF.out _ (HEND _ HB11.out).out).mono ?_
    rintro e w12 ⟨v3, rfl, hrow3, hb12⟩
    rw [HN.out] at hrow3
    obtain ⟨A3, c3, rfl, hir3⟩ := IR.of_own hrow3
    rw [← HN.out] at hir3 ⊢
    have HB12 := hid (HB11.out.trans (hb12.mono HB11.out.size))
    have HIS := hid (itemsIs_any A2 A3 n c2 c3 l w12 (HIR2.out.below hb12 (Nat.le_refl _)) hir3 (by omega))
    clear hb12 hrow3 hir3
    go_wp2_with fail
    refine HIS.out.mono ?_
    rintro e w13 ⟨rfl, hb13⟩
    have HB13 := hid (HB12.out.trans (hb13.mono HB12.out.size))
    clear hb13
    go_wp2_with fail
    go_ret
    exact ⟨rfl, (HEND _ HB13.out).out⟩
end Go.Proofs.YtlfbgaknljdanaaGreatDoor.flatNone
