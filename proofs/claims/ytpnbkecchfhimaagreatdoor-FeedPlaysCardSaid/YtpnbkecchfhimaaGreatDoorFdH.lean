/- Chapter 20: the document's example: the walk. -/
import Derived.Test.YtpnbkecchfhimaaGreatDoorFdG
namespace Go.Proofs.YtpnbkecchfhimaaGreatDoor
open Go.RowKit Go.Shelf
open Go.Lib (hid)
set_option linter.unusedVariables false
set_option linter.unusedSimpArgs false
set_option maxRecDepth 100000

set_option maxHeartbeats 8000000 in
theorem fdawake_any (w : World) (hdb : Hx.Db w) (hmx : Mx w) : Calls Tryz.prog 10 #[] w fun e w' => e = .returned (.bool true) ∧ Below w.heap.size w w' := by
  have kc1 := fun W => Lib.run_convert_bytes_const (P := Tryz.prog) W 22 5 fw1C 2 2 Tryz.underlying22 Tryz.underlying5
  have kc2 := fun W => Lib.run_convert_bytes_const (P := Tryz.prog) W 22 5 fw2C 2 2 Tryz.underlying22 Tryz.underlying5
  simp only [fw1C, fw2C, List.size_toArray, List.length_cons, List.length_nil, Nat.reduceAdd] at kc1 kc2
  have HNEW := hid (fdNew_any w)
  have HP0 := hid (fun W (h : Below w.heap.size w W) => print_any 0 0 1 noB 0 false W (by decide) (by rw [show (0 : Int) = ((0 : Nat) : Int) from rfl, itoa_dig (by decide)]; decide) (by rw [show (1 : Int) = ((1 : Nat) : Int) from rfl, itoa_dig (by decide)]; decide) (by decide) (by decide) (hdb.below h (Nat.le_refl _)) (fun W _ => ⟨itoa_small (k := 0) (by decide) W, itoa_small (k := 1) (by decide) W⟩))
  have HP1 := hid (fun W (h : Below w.heap.size w W) => print_any 2 1 4 ⟨#[98]⟩ 0 false W (by decide) (by rw [show (1 : Int) = ((1 : Nat) : Int) from rfl, itoa_dig (by decide)]; decide) (by rw [show (4 : Int) = ((4 : Nat) : Int) from rfl, itoa_dig (by decide)]; decide) (by decide) (by decide) (hdb.below h (Nat.le_refl _)) (fun W _ => ⟨itoa_small (k := 1) (by decide) W, itoa_small (k := 4) (by decide) W⟩))
  rw [aw_p0] at HP0
  rw [aw_p1] at HP1
  have HMX := hid hmx
  clear hdb hmx
  go_enter Tryz.func10, Tryz.ntmps10
  go_wp2_with fail
  refine HNEW.out.mono ?_
  rintro e w1 ⟨rfl, hf1, hb1⟩
  have hc1 : Below w1.heap.size w1 (w1.alloc (.cells fw1C 5 (2, 3))) := (Below.refl _ _).alloc (Nat.le_refl _) _
  have hg1 := hf1.lt
  have HF1 := hid (feed_any w.heap.size noB fw1 0 0 noB 0 0 0 (some ⟨w1.heap.size, 0, none⟩) 2 2 (w1.alloc (.cells fw1C 5 (2, 3))) (hf1.below hc1 (Nat.le_refl _)) FdOk.zero (ba_cells w1 fw1 fw1C 2 (2, 3) rfl (by decide) fw1_cells) (fun _ b o e => by cases e; omega) ((HMX.out.below hb1 (Nat.le_refl _)).below hc1 (Nat.le_refl _)) (mx_ne HMX.out (Nat.le_refl _)) (by rw [fw_app0]; decide) (by decide) (by decide))
  have HB1 := hid (hb1.trans (hc1.mono hb1.size))
  have hs1 := hb1.size
  unfold fw1C at HF1 HB1
  clear hc1 hb1 hf1
  go_wp2_with fail
  refine HF1.out.mono ?_
  rintro e w2 hp
  unfold FeedPost at hp
  rw [fw_app0, fw_n1] at hp
  obtain ⟨v1, m1, k1, rfl, hr1, hf2, hok2, hmk, hgr2, _⟩ := hp
  obtain ⟨A1, c1, rfl⟩ := owns_slice hr1
  obtain rfl : m1 = 0 := by omega
  obtain rfl : k1 = 0 := by omega
  have HB2 := hid (below_new HB1.out hgr2 (Nat.le_refl _) HB1.out.size)
  have hc2 : Below w2.heap.size w2 (w2.alloc (.cells fw2C 5 (2, 3))) := (Below.refl _ _).alloc (Nat.le_refl _) _
  have hg2 := hf2.lt
  have HF2 := hid (feed_any w.heap.size fw1 fw2 0 0 _ _ _ _ (some ⟨w2.heap.size, 0, none⟩) 2 2 (w2.alloc (.cells fw2C 5 (2, 3))) (hf2.below hc2 (Nat.le_refl _)) hok2 (ba_cells w2 fw2 fw2C 2 (2, 3) rfl (by decide) fw2_cells) (fun _ b o e => by cases e; omega) ((HMX.out.below HB2.out (Nat.le_refl _)).below hc2 (Nat.le_refl _)) (mx_ne HMX.out (Nat.le_refl _)) (by rw [fw_app]; decide) (by decide) (by decide))
  have HB3 := hid (HB2.out.trans (hc2.mono HB2.out.size))
  unfold fw2C at HF2 HB3
  clear hc2 hr1 hf2 hok2 hgr2
  go_wp2_with fail
  refine HF2.out.mono ?_
  rintro e w3 hp
  unfold FeedPost at hp
  rw [fw_app, fw_n2, fw_t2] at hp
  obtain ⟨v2, m2, k2, rfl, hr2, hf3, hok3, hmk3, hgr3, _⟩ := hp
  have HB4 := hid (below_new HB3.out hgr3 (Nat.le_refl _) HB3.out.size)
  have hr2' : w3.ownsRow (w2.alloc (.cells #[.int .u8 98, .int .u8 62] 5 (2, 3))).heap.size 29 6 v2 (1 + 1) (tkCells [⟨0, 0, 1, noB, 0, false⟩, ⟨2, 1, 4, ⟨#[98]⟩, 0, false⟩]) := hr2
  obtain ⟨g, cap, rfl⟩ := ownsRow_succ (k := 1) hr2'
  have hgl := (hr2'.lt g rfl).2
  have hcl : ∀ j, j < 12 → w3.cell? ⟨g, j, none⟩ = (tkCells [⟨0, 0, 1, noB, 0, false⟩, ⟨2, 1, 4, ⟨#[98]⟩, 0, false⟩])[j]? := fun j hj => hr2'.cellAt j (by omega)
  have z0 := hcl 0 (by decide)
  have z1 := hcl 1 (by decide)
  have z2 := hcl 2 (by decide)
  have z3 := hcl 3 (by decide)
  have z4 := hcl 4 (by decide)
  have z5 := hcl 5 (by decide)
  simp only [tkCells, tkC, noB, List.flatMap_cons, List.flatMap_nil, List.append_nil, List.cons_append, List.nil_append, List.getElem?_cons_zero, List.getElem?_cons_succ] at z0 z1 z2 z3 z4 z5
  unfold noB at HP0
  have HCL := hid hcl
  clear kc1 kc2 hr2 hr2' hf3 hok3 hmk3 hgr3 hcl hmk
  go_wp2_with fail
  refine (HP0.out _ HB4.out).mono ?_
  rintro e w4 ⟨rfl, hb4⟩
  have HB5 := hid (HB4.out.trans (hb4.mono HB4.out.size))
  have hcs := fun (j : Nat) (hj : j < 12) => (hb4.cell (p := ⟨g, j, none⟩) hgl).trans (HCL.out j hj)
  clear z0 z1 z2 z3 z4 z5 hb4
  have y0 := hcs 6 (by decide)
  have y1 := hcs 7 (by decide)
  have y2 := hcs 8 (by decide)
  have y3 := hcs 9 (by decide)
  have y4 := hcs 10 (by decide)
  have y5 := hcs 11 (by decide)
  simp only [tkCells, tkC, noB, List.flatMap_cons, List.flatMap_nil, List.append_nil, List.cons_append, List.nil_append, List.getElem?_cons_zero, List.getElem?_cons_succ] at y0 y1 y2 y3 y4 y5
  clear hcs
  go_wp2_with fail
  refine (HP1.out _ HB5.out).mono ?_
  rintro e w5 ⟨rfl, hb5⟩
  have HB6 := hid (HB5.out.trans (hb5.mono HB5.out.size))
  clear y0 y1 y2 y3 y4 y5 hb5
  go_wp2_with fail
  go_ret
  exact ⟨rfl, HB6.out⟩
end Go.Proofs.YtpnbkecchfhimaaGreatDoor
