/- Chapter 19: the document's example: the walk. -/
import Derived.Test.YtaklajbifkljjaaGreatDoorTkH
namespace Go.Proofs.YtaklajbifkljjaaGreatDoor
open Go.RowKit Go.Shelf
open Go.Lib (hid)
set_option linter.unusedVariables false
set_option maxRecDepth 100000

def awB : ByteArray := ⟨#[97, 60, 98, 62, 38, 108, 116, 59]⟩
def awC : Array Value := #[.int .u8 97, .int .u8 60, .int .u8 98, .int .u8 62, .int .u8 38, .int .u8 108, .int .u8 116, .int .u8 59]
theorem aw_cells : awC = awB.data.map fun b => Value.int .u8 b.toNat := by kernel_rfl
theorem aw_toks : toks awB = [⟨0, 0, 1, noB, 0, false⟩, ⟨2, 1, 4, ⟨#[98]⟩, 0, false⟩, ⟨1, 4, 8, noB, 60, false⟩] := by kernel_rfl
theorem itoa_dig {k : Nat} (h : k < 10) : itoaB k = ⟨#[UInt8.ofNat (48 + k)]⟩ := by
  unfold itoaB
  rw [Lib.itoa_nonneg, Lib.decDigits_one h]
theorem itoa_small {k : Nat} (h : k < 100) (W : World) : Calls Tryz.prog 42 #[.int .i64 k] W (fun e w' => e = .returned (.string (itoaB k)) ∧ Below W.heap.size W w') := by
  refine (Any.strconv_Itoa_small (P := Tryz.prog) Tryz.laysHxS171 k h W).mono fun e w' ⟨he, hw⟩ => ⟨?_, ?_⟩
  · rw [he]
    unfold itoaB
    rw [Lib.itoa_nonneg]
  · rw [hw]
    exact Below.refl _ _
theorem hexD_60 : Hx.hexD 60 = [51, 99] := by rw [Hx.hexD, dif_neg (by decide), Hx.hexD, dif_pos (by decide)]; rfl
theorem aw_p0 : printB 0 0 1 noB 0 false = ⟨#[116, 101, 120, 116, 32, 48, 32, 49]⟩ := by
  have e0 := itoa_dig (k := 0) (by decide)
  have e1 := itoa_dig (k := 1) (by decide)
  show preP 0 0 1 = _
  unfold preP
  rw [show (0 : Int) = ((0 : Nat) : Int) from rfl, show (1 : Int) = ((1 : Nat) : Int) from rfl, e0, e1]
  rfl
theorem aw_p1 : printB 2 1 4 ⟨#[98]⟩ 0 false = ⟨#[115, 116, 97, 114, 116, 32, 49, 32, 52, 32, 98]⟩ := by
  have e0 := itoa_dig (k := 1) (by decide)
  have e1 := itoa_dig (k := 4) (by decide)
  show preP 2 1 4 ++ (spB ++ ⟨#[98]⟩) = _
  unfold preP
  rw [show (1 : Int) = ((1 : Nat) : Int) from rfl, show (4 : Int) = ((4 : Nat) : Int) from rfl, e0, e1]
  rfl
theorem aw_p2 : printB 1 4 8 noB 60 false = ⟨#[114, 101, 102, 32, 52, 32, 56, 32, 85, 43, 48, 48, 51, 67]⟩ := by
  have e0 := itoa_dig (k := 4) (by decide)
  have e1 := itoa_dig (k := 8) (by decide)
  have e2 : Hx.prB 60 = ⟨#[85, 43, 48, 48, 51, 67]⟩ := by
    unfold Hx.prB Hx.hex4U Hx.hexU
    rw [show (60 : Int).natAbs = 60 from rfl, hexD_60]
    rfl
  show (preP 1 4 8 ++ spB) ++ Hx.prB 60 = _
  rw [e2]
  unfold preP
  rw [show (8 : Int) = ((8 : Nat) : Int) from rfl, show (4 : Int) = ((4 : Nat) : Int) from rfl, e0, e1]
  rfl
theorem made_three {n₀ : Nat} {W : World} {v : Value} {x y z : Tk} (h : MadeT n₀ W v [x, y, z]) : ∃ g cap, v = .slice (some ⟨g, 0, none⟩) 3 cap ∧ g < W.heap.size ∧ ∀ j, j < 18 → W.cell? ⟨g, j, none⟩ = (tkCells [x, y, z])[j]? := by
  obtain ⟨hr, _⟩ := h
  obtain ⟨g, cap, rfl⟩ := ownsRow_succ (k := 2) hr
  refine ⟨g, cap, rfl, (hr.lt g rfl).2, fun j hj => ?_⟩
  rw [hr.cellAt j (by simpa using hj)]
set_option maxHeartbeats 8000000 in
theorem tkawake_any (w : World) (hdb : Hx.Db w) (hmx : Mx w) : Calls Tryz.prog 23 #[] w fun e w' => e = .returned (.bool true) ∧ Below w.heap.size w w' := by
  have kc := Lib.run_convert_bytes_const (P := Tryz.prog) w 22 5 awC 8 8 Tryz.underlying22 Tryz.underlying5
  simp only [awC, List.size_toArray, List.length_cons, List.length_nil, Nat.reduceAdd] at kc
  have hcell := fun i => cell_of_row _ w.heap.size i _ _ _ (heap_alloc_new w (.cells awC 5 (8, 9)))
  have hb1 := (Below.refl w.heap.size w).alloc (Nat.le_refl _) (.cells awC 5 (8, 9))
  have hz : Lib.Bytes (w.alloc (.cells awC 5 (8, 9))) w.heap.size 0 awB := by
    intro i hi
    rw [Nat.zero_add, hcell i, aw_cells, Array.getElem?_map]
    have hi' : i < awB.data.size := hi
    rw [Array.getElem?_eq_getElem hi']
    rfl
  have hba : BA (w.alloc (.cells awC 5 (8, 9))) (some ⟨w.heap.size, 0, none⟩) 8 8 awB := ⟨rfl, Nat.le_refl _, by decide, fun _ => ⟨w.heap.size, 0, rfl, by simp, hz⟩⟩
  have hall := tokAll_any _ 8 8 awB _ hba (hmx.below hb1 (Nat.le_refl _)) (by decide)
  rw [aw_toks] at hall
  have HALL := hid hall
  have HB1 := hid hb1
  have HP0 := hid (fun W (h : Below w.heap.size w W) => print_any 0 0 1 noB 0 false W (by decide) (by rw [show (0 : Int) = ((0 : Nat) : Int) from rfl, itoa_dig (by decide)]; decide) (by rw [show (1 : Int) = ((1 : Nat) : Int) from rfl, itoa_dig (by decide)]; decide) (by decide) (by decide) (hdb.below h (Nat.le_refl _)) (fun W _ => ⟨itoa_small (k := 0) (by decide) W, itoa_small (k := 1) (by decide) W⟩))
  have HP1 := hid (fun W (h : Below w.heap.size w W) => print_any 2 1 4 ⟨#[98]⟩ 0 false W (by decide) (by rw [show (1 : Int) = ((1 : Nat) : Int) from rfl, itoa_dig (by decide)]; decide) (by rw [show (4 : Int) = ((4 : Nat) : Int) from rfl, itoa_dig (by decide)]; decide) (by decide) (by decide) (hdb.below h (Nat.le_refl _)) (fun W _ => ⟨itoa_small (k := 1) (by decide) W, itoa_small (k := 4) (by decide) W⟩))
  have HP2 := hid (fun W (h : Below w.heap.size w W) => print_any 1 4 8 noB 60 false W (by decide) (by rw [show (4 : Int) = ((4 : Nat) : Int) from rfl, itoa_dig (by decide)]; decide) (by rw [show (8 : Int) = ((8 : Nat) : Int) from rfl, itoa_dig (by decide)]; decide) (by decide) (by decide) (hdb.below h (Nat.le_refl _)) (fun W _ => ⟨itoa_small (k := 4) (by decide) W, itoa_small (k := 8) (by decide) W⟩))
  rw [aw_p0] at HP0
  rw [aw_p1] at HP1
  rw [aw_p2] at HP2
  clear hba hz hb1 hall hcell hdb hmx
  go_enter Tryz.func23, Tryz.ntmps23
  go_wp2_with fail
  refine HALL.out.mono ?_
  rintro e w2 ⟨v, rfl, hmd, hb2⟩
  obtain ⟨g, cap, rfl, hgl, hcl⟩ := made_three hmd
  have HB2 := hid (HB1.out.trans (hb2.mono HB1.out.size))
  have hs2 := HB2.out.size
  have hcs := fun (W : World) (h : Below w2.heap.size w2 W) (j : Nat) (hj : j < 18) => (h.cell (p := ⟨g, j, none⟩) hgl).trans (hcl j hj)
  have HCS := hid hcs
  have z0 := hcl 0 (by decide)
  have z1 := hcl 1 (by decide)
  have z2 := hcl 2 (by decide)
  have z3 := hcl 3 (by decide)
  have z4 := hcl 4 (by decide)
  have z5 := hcl 5 (by decide)
  simp only [tkCells, tkC, noB, List.flatMap_cons, List.flatMap_nil, List.append_nil, List.cons_append, List.nil_append, List.getElem?_cons_zero, List.getElem?_cons_succ] at z0 z1 z2 z3 z4 z5
  unfold noB at HP0 HP2
  clear kc hmd hb2 hcl hcs
  go_wp2_with fail
  refine (HP0.out _ HB2.out).mono ?_
  rintro e w3 ⟨rfl, hb3⟩
  have HB3 := hid hb3
  have y0 := HCS.out w3 hb3 6 (by decide)
  have y1 := HCS.out w3 hb3 7 (by decide)
  have y2 := HCS.out w3 hb3 8 (by decide)
  have y3 := HCS.out w3 hb3 9 (by decide)
  have y4 := HCS.out w3 hb3 10 (by decide)
  have y5 := HCS.out w3 hb3 11 (by decide)
  simp only [tkCells, tkC, noB, List.flatMap_cons, List.flatMap_nil, List.append_nil, List.cons_append, List.nil_append, List.getElem?_cons_zero, List.getElem?_cons_succ] at y0 y1 y2 y3 y4 y5
  clear z0 z1 z2 z3 z4 z5 hb3
  go_wp2_with fail
  refine (HP1.out _ (HB2.out.trans (HB3.out.mono hs2))).mono ?_
  rintro e w4 ⟨rfl, hb4⟩
  have HB4 := hid (HB3.out.trans (hb4.mono HB3.out.size))
  clear y0 y1 y2 y3 y4 y5
  have y0 := HCS.out w4 HB4.out 12 (by decide)
  have y1 := HCS.out w4 HB4.out 13 (by decide)
  have y2 := HCS.out w4 HB4.out 14 (by decide)
  have y3 := HCS.out w4 HB4.out 15 (by decide)
  have y4 := HCS.out w4 HB4.out 16 (by decide)
  have y5 := HCS.out w4 HB4.out 17 (by decide)
  simp only [tkCells, tkC, noB, List.flatMap_cons, List.flatMap_nil, List.append_nil, List.cons_append, List.nil_append, List.getElem?_cons_zero, List.getElem?_cons_succ] at y0 y1 y2 y3 y4 y5
  clear hb4
  go_wp2_with fail
  refine (HP2.out _ (HB2.out.trans (HB4.out.mono hs2))).mono ?_
  rintro e w5 ⟨rfl, hb5⟩
  have HB5 := hid (HB2.out.trans ((HB4.out.trans (hb5.mono HB4.out.size)).mono hs2))
  clear y0 y1 y2 y3 y4 y5 hb5
  go_wp2_with fail
  go_ret
  exact ⟨rfl, HB5.out⟩
end Go.Proofs.YtaklajbifkljjaaGreatDoor
