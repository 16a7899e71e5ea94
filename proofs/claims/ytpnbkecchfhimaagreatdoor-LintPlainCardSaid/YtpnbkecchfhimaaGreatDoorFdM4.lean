/- Texts of FdG, FdH, FdLaid, merged by a program of mine. -/
import Derived.Test.YtpnbkecchfhimaaGreatDoorFdM3
import Derived.Test.YtpnbkecchfhimaaGreatDoorTkG
import Derived.Test.YtpnbkecchfhimaaGreatDoorRows
import Derived.LaidMore
import Derived.Stop.LaidErr
import Derived.Lib.LaidTab
import Derived.Lib.TrailingZeros
import Derived.KernelRfl

/- out of FdG -/
namespace Go.Proofs.YtpnbkecchfhimaaGreatDoor
open Go.RowKit Go.Shelf
open Go.Lib (hid)
set_option linter.unusedVariables false
set_option linter.unusedSimpArgs false
set_option maxRecDepth 100000

theorem itoa_dig {k : Nat} (h : k < 10) : itoaB k = ⟨#[UInt8.ofNat (48 + k)]⟩ := by
  unfold itoaB
  rw [Lib.itoa_nonneg, Lib.decDigits_one h]
theorem itoa_small {k : Nat} (h : k < 100) (W : World) : Calls Tryz.prog 50 #[.int .i64 k] W (fun e w' => e = .returned (.string (itoaB k)) ∧ Below W.heap.size W w') := by
  refine (Any.strconv_Itoa_small (P := Tryz.prog) Tryz.laysHxS171 k h W).mono fun e w' ⟨he, hw⟩ => ⟨?_, ?_⟩
  · rw [he]
    unfold itoaB
    rw [Lib.itoa_nonneg]
  · rw [hw]
    exact Below.refl _ _
theorem aw_p0 : printB 0 0 1 noB 0 false = ⟨#[116, 101, 120, 116, 32, 48, 32, 49]⟩ := by
  have e0 := itoa_dig (k := 0) (by decide)
  have e1 := itoa_dig (k := 1) (by decide)
  show preP 0 0 1 = _
  unfold preP
  rw [show (0 : Int) = ((0 : Nat) : Int) from rfl, show (1 : Int) = ((1 : Nat) : Int) from rfl, e0, e1]
  rfl
theorem aw_p1 : printB 2 1 4 ⟨#[98]⟩ 0 false = ⟨#[115, 116, 97, 114, 116, 32, 49, 32, 52, 32, 98]⟩ := by
  have e0 := itoa_dig (k := 1) (by decide)
  have e1 := itoa_dig (k := 4) (by decide)
  show preP 2 1 4 ++ (spB ++ ⟨#[98]⟩) = _
  unfold preP
  rw [show (1 : Int) = ((1 : Nat) : Int) from rfl, show (4 : Int) = ((4 : Nat) : Int) from rfl, e0, e1]
  rfl
theorem feed_nil (a : Option Addr) (n c : Nat) (w : World) : Calls Tryz.prog 12 #[.pointer none, .slice a n c] w fun e w' => e = .returned (.slice none 0 0) ∧ w' = w := by
  go_enter Tryz.func12, Tryz.ntmps12
  go_wp2_with fail
  go_ret
  exact ⟨rfl, rfl⟩
theorem close_nil (w : World) : Calls Tryz.prog 15 #[.pointer none] w fun e w' => e = .returned (.slice none 0 0) ∧ w' = w := by
  go_enter Tryz.func15, Tryz.ntmps15
  go_wp2_with fail
  go_ret
  exact ⟨rfl, rfl⟩
theorem waits_nil (w : World) : Calls Tryz.prog 21 #[.pointer none] w fun e w' => e = .returned (.int .i64 0) ∧ w' = w := by
  go_enter Tryz.func21, Tryz.ntmps21
  go_wp2_with fail
  go_ret
  exact ⟨rfl, rfl⟩
theorem fed_nil (w : World) : Calls Tryz.prog 18 #[.pointer none] w fun e w' => e = .returned (.int .i64 0) ∧ w' = w := by
  go_enter Tryz.func18, Tryz.ntmps18
  go_wp2_with fail
  go_ret
  exact ⟨rfl, rfl⟩
theorem bytes_nil (kd fr til : Int) (nm : ByteArray) (r : Int) (sg : Bool) (w : World) :
    Calls Tryz.prog 20 #[.pointer none, .agg #[.int .i64 kd, .int .i64 fr, .int .i64 til, .string nm, .int .i32 r, .bool sg]] w fun e w' => e = .returned (.slice none 0 0) ∧ Below w.heap.size w w' := by
  have HB1 := hid ((Below.refl w.heap.size w).alloc (Nat.le_refl _) (.cells #[.int .i64 kd, .int .i64 fr, .int .i64 til, .string nm, .int .i32 r, .bool sg] 29))
  go_enter Tryz.func20, Tryz.ntmps20
  go_upto_region 1 with fail
  generalize w.alloc (.cells #[.int .i64 kd, .int .i64 fr, .int .i64 til, .string nm, .int .i32 r, .bool sg] 29) = w1 at *
  go_quiet (fail)
  go_wp2_with fail
  go_ret
  exact ⟨rfl, HB1.out.trans (below_drewN _ w1 nq)⟩
theorem feed_shut (g : Nat) (s : ByteArray) (m k : Nat) (was : ByteArray) (wa : Nat) (fd wt : Int) (a : Option Addr) (n c : Nat) (w : World) (hf : FdAt w g s m k was wa fd wt true) : Calls Tryz.prog 12 #[.pointer (some ⟨g, 0, none⟩), .slice a n c] w fun e w' => e = .returned (.slice none 0 0) ∧ w' = w := by
  obtain ⟨Ab, nb, cb, Aw, nw, cw, h1, h2, h3, h4, h5⟩ := hf
  have x7 := h1.cell 7
  unfold fdC at x7
  simp only [List.getElem?_toArray, List.getElem?_cons_zero, List.getElem?_cons_succ] at x7
  clear h1 h2 h3 h4 h5
  go_enter Tryz.func12, Tryz.ntmps12
  go_wp2_with fail
  go_ret
  exact ⟨rfl, rfl⟩
theorem close_shut (g : Nat) (s : ByteArray) (m k : Nat) (was : ByteArray) (wa : Nat) (fd wt : Int) (w : World) (hf : FdAt w g s m k was wa fd wt true) : Calls Tryz.prog 15 #[.pointer (some ⟨g, 0, none⟩)] w fun e w' => e = .returned (.slice none 0 0) ∧ w' = w := by
  obtain ⟨Ab, nb, cb, Aw, nw, cw, h1, h2, h3, h4, h5⟩ := hf
  have x7 := h1.cell 7
  unfold fdC at x7
  simp only [List.getElem?_toArray, List.getElem?_cons_zero, List.getElem?_cons_succ] at x7
  clear h1 h2 h3 h4 h5
  go_enter Tryz.func15, Tryz.ntmps15
  go_wp2_with fail
  go_ret
  exact ⟨rfl, rfl⟩
theorem waits_any (g : Nat) (s : ByteArray) (m k : Nat) (was : ByteArray) (wa : Nat) (fd wt : Int) (cl : Bool) (w : World) (hf : FdAt w g s m k was wa fd wt cl) : Calls Tryz.prog 21 #[.pointer (some ⟨g, 0, none⟩)] w fun e w' => e = .returned (.int .i64 wt) ∧ w' = w := by
  obtain ⟨Ab, nb, cb, Aw, nw, cw, h1, h2, h3, h4, h5⟩ := hf
  have x6 := h1.cell 6
  unfold fdC at x6
  simp only [List.getElem?_toArray, List.getElem?_cons_zero, List.getElem?_cons_succ] at x6
  clear h1 h2 h3 h4 h5
  go_enter Tryz.func21, Tryz.ntmps21
  go_wp2_with fail
  go_ret
  exact ⟨rfl, rfl⟩
theorem fed_any (g : Nat) (s : ByteArray) (m k : Nat) (was : ByteArray) (wa : Nat) (fd wt : Int) (cl : Bool) (w : World) (hf : FdAt w g s m k was wa fd wt cl) : Calls Tryz.prog 18 #[.pointer (some ⟨g, 0, none⟩)] w fun e w' => e = .returned (.int .i64 fd) ∧ w' = w := by
  obtain ⟨Ab, nb, cb, Aw, nw, cw, h1, h2, h3, h4, h5⟩ := hf
  have x5 := h1.cell 5
  unfold fdC at x5
  simp only [List.getElem?_toArray, List.getElem?_cons_zero, List.getElem?_cons_succ] at x5
  clear h1 h2 h3 h4 h5
  go_enter Tryz.func18, Tryz.ntmps18
  go_wp2_with fail
  go_ret
  exact ⟨rfl, rfl⟩
def fw1 : ByteArray := ⟨#[97, 60]⟩
def fw2 : ByteArray := ⟨#[98, 62]⟩
def fw1C : Array Value := #[.int .u8 97, .int .u8 60]
def fw2C : Array Value := #[.int .u8 98, .int .u8 62]
theorem fw1_cells : fw1C = fw1.data.map fun b => Value.int .u8 b.toNat := by kernel_rfl
theorem fw2_cells : fw2C = fw2.data.map fun b => Value.int .u8 b.toNat := by kernel_rfl
def fw12 : ByteArray := ⟨#[97, 60, 98, 62]⟩
theorem fw_app0 : noB ++ fw1 = fw1 := by kernel_rfl
theorem fw_app : fw1 ++ fw2 = fw12 := by kernel_rfl
theorem fw_t1 : toks fw1 = [⟨0, 0, 2, noB, 0, false⟩] := by kernel_rfl
theorem fw_t2 : toks fw12 = [⟨0, 0, 1, noB, 0, false⟩, ⟨2, 1, 4, ⟨#[98]⟩, 0, false⟩] := by kernel_rfl
theorem fw_n1 : setN fw1 = 0 := by kernel_rfl
theorem fw_n2 : setN fw12 = 2 := by kernel_rfl
theorem ba_cells (W : World) (s : ByteArray) (cs : Array Value) (n : Nat) (fr : Nat × Nat) (hn : n = s.size) (h100 : n ≤ 100) (hc : cs = s.data.map fun b => Value.int .u8 b.toNat) : BA (W.alloc (.cells cs 5 fr)) (some ⟨W.heap.size, 0, none⟩) n n s := by
  refine ⟨hn, Nat.le_refl _, by omega, fun _ => ⟨W.heap.size, 0, rfl, by simp, ?_⟩⟩
  intro i hi
  rw [Nat.zero_add, cell_of_row _ W.heap.size i _ _ _ (heap_alloc_new W (.cells cs 5 fr)), hc, Array.getElem?_map]
  have hi' : i < s.data.size := hi
  rw [Array.getElem?_eq_getElem hi']
  rfl
theorem mx_ne {w : World} (h : Mx w) {g : Nat} (hg : w.heap.size ≤ g) : g ≠ 0 := fun e => by
  obtain ⟨m, hm⟩ := h
  have := World.block_lt_of_cell? _ _ hm
  simp only at this
  omega
theorem below_new {w W W' : World} {B g : Nat} (h : Below B w W) (hg : W.grownBy W' (some g)) (hB : B ≤ g) (hs : B ≤ W.heap.size) : Below B w W' := h.trans (below_of_grown hg hB hs)
end Go.Proofs.YtpnbkecchfhimaaGreatDoor

/- out of FdH -/
namespace Go.Proofs.YtpnbkecchfhimaaGreatDoor
open Go.RowKit Go.Shelf
open Go.Lib (hid)
set_option linter.unusedVariables false
set_option linter.unusedSimpArgs false
set_option maxRecDepth 100000

set_option maxHeartbeats 8000000 in
theorem fdawake_any (w : World) (hdb : Hx.Db w) (hmx : Mx w) : Calls Tryz.prog 10 #[] w fun e w' => e = .returned (.bool true) ∧ Below w.heap.size w w' := by
  have kc1 := fun W => Lib.run_convert_bytes_const (P := Tryz.prog) W 22 5 fw1C 2 2 Tryz.underlying22 Tryz.underlying5
  have kc2 := fun W => Lib.run_convert_bytes_const (P := Tryz.prog) W 22 5 fw2C 2 2 Tryz.underlying22 Tryz.underlying5
  simp only [fw1C, fw2C, List.size_toArray, List.length_cons, List.length_nil, Nat.reduceAdd] at kc1 kc2
  have HNEW := hid (fdNew_any w)
  have HP0 := hid (fun W (h : Below w.heap.size w W) => print_any 0 0 1 noB 0 false W (by decide) (by rw [show (0 : Int) = ((0 : Nat) : Int) from rfl, itoa_dig (by decide)]; decide) (by rw [show (1 : Int) = ((1 : Nat) : Int) from rfl, itoa_dig (by decide)]; decide) (by decide) (by decide) (hdb.below h (Nat.le_refl _)) (fun W _ => ⟨itoa_small (k := 0) (by decide) W, itoa_small (k := 1) (by decide) W⟩))
  have HP1 := hid (fun W (h : Below w.heap.size w W) => print_any 2 1 4 ⟨#[98]⟩ 0 false W (by decide) (by rw [show (1 : Int) = ((1 : Nat) : Int) from rfl, itoa_dig (by decide)]; decide) (by rw [show (4 : Int) = ((4 : Nat) : Int) from rfl, itoa_dig (by decide)]; decide) (by decide) (by decide) (hdb.below h (Nat.le_refl _)) (fun W _ => ⟨itoa_small (k := 1) (by decide) W, itoa_small (k := 4) (by decide) W⟩))
  rw [aw_p0] at HP0
  rw [aw_p1] at HP1
  have HMX := hid hmx
  clear hdb hmx
  go_enter Tryz.func10, Tryz.ntmps10
  go_wp2_with fail
  refine HNEW.out.mono ?_
  rintro e w1 ⟨rfl, hf1, hb1⟩
  have hc1 : Below w1.heap.size w1 (w1.alloc (.cells fw1C 5 (2, 3))) := (Below.refl _ _).alloc (Nat.le_refl _) _
  have hg1 := hf1.lt
  have HF1 := hid (feed_any w.heap.size noB fw1 0 0 noB 0 0 0 (some ⟨w1.heap.size, 0, none⟩) 2 2 (w1.alloc (.cells fw1C 5 (2, 3))) (hf1.below hc1 (Nat.le_refl _)) FdOk.zero (ba_cells w1 fw1 fw1C 2 (2, 3) rfl (by decide) fw1_cells) (fun _ b o e => by cases e; omega) ((HMX.out.below hb1 (Nat.le_refl _)).below hc1 (Nat.le_refl _)) (mx_ne HMX.out (Nat.le_refl _)) (by rw [fw_app0]; decide) (by decide) (by decide))
  have HB1 := hid (hb1.trans (hc1.mono hb1.size))
  have hs1 := hb1.size
  unfold fw1C at HF1 HB1
  clear hc1 hb1 hf1
  go_wp2_with fail
  refine HF1.out.mono ?_
  rintro e w2 hp
  unfold FeedPost at hp
  rw [fw_app0, fw_n1] at hp
  obtain ⟨v1, m1, k1, rfl, hr1, hf2, hok2, hmk, hgr2, _⟩ := hp
  obtain ⟨A1, c1, rfl⟩ := owns_slice hr1
  obtain rfl : m1 = 0 := by omega
  obtain rfl : k1 = 0 := by omega
  have HB2 := hid (below_new HB1.out hgr2 (Nat.le_refl _) HB1.out.size)
  have hc2 : Below w2.heap.size w2 (w2.alloc (.cells fw2C 5 (2, 3))) := (Below.refl _ _).alloc (Nat.le_refl _) _
  have hg2 := hf2.lt
  have HF2 := hid (feed_any w.heap.size fw1 fw2 0 0 _ _ _ _ (some ⟨w2.heap.size, 0, none⟩) 2 2 (w2.alloc (.cells fw2C 5 (2, 3))) (hf2.below hc2 (Nat.le_refl _)) hok2 (ba_cells w2 fw2 fw2C 2 (2, 3) rfl (by decide) fw2_cells) (fun _ b o e => by cases e; omega) ((HMX.out.below HB2.out (Nat.le_refl _)).below hc2 (Nat.le_refl _)) (mx_ne HMX.out (Nat.le_refl _)) (by rw [fw_app]; decide) (by decide) (by decide))
  have HB3 := hid (HB2.out.trans (hc2.mono HB2.out.size))
  unfold fw2C at HF2 HB3
  clear hc2 hr1 hf2 hok2 hgr2
  go_wp2_with fail
  refine HF2.out.mono ?_
  rintro e w3 hp
  unfold FeedPost at hp
  rw [fw_app, fw_n2, fw_t2] at hp
  obtain ⟨v2, m2, k2, rfl, hr2, hf3, hok3, hmk3, hgr3, _⟩ := hp
  have HB4 := hid (below_new HB3.out hgr3 (Nat.le_refl _) HB3.out.size)
  have hr2' : w3.ownsRow (w2.alloc (.cells #[.int .u8 98, .int .u8 62] 5 (2, 3))).heap.size 29 6 v2 (1 + 1) (tkCells [⟨0, 0, 1, noB, 0, false⟩, ⟨2, 1, 4, ⟨#[98]⟩, 0, false⟩]) := hr2
  obtain ⟨g, cap, rfl⟩ := ownsRow_succ (k := 1) hr2'
  have hgl := (hr2'.lt g rfl).2
  have hcl : ∀ j, j < 12 → w3.cell? ⟨g, j, none⟩ = (tkCells [⟨0, 0, 1, noB, 0, false⟩, ⟨2, 1, 4, ⟨#[98]⟩, 0, false⟩])[j]? := fun j hj => hr2'.cellAt j (by omega)
  have z0 := hcl 0 (by decide)
  have z1 := hcl 1 (by decide)
  have z2 := hcl 2 (by decide)
  have z3 := hcl 3 (by decide)
  have z4 := hcl 4 (by decide)
  have z5 := hcl 5 (by decide)
  simp only [tkCells, tkC, noB, List.flatMap_cons, List.flatMap_nil, List.append_nil, List.cons_append, List.nil_append, List.getElem?_cons_zero, List.getElem?_cons_succ] at z0 z1 z2 z3 z4 z5
  unfold noB at HP0
  have HCL := hid hcl
  clear kc1 kc2 hr2 hr2' hf3 hok3 hmk3 hgr3 hcl hmk
  go_wp2_with fail
  refine (HP0.out _ HB4.out).mono ?_
  rintro e w4 ⟨rfl, hb4⟩
  have HB5 := hid (HB4.out.trans (hb4.mono HB4.out.size))
  have hcs := fun (j : Nat) (hj : j < 12) => (hb4.cell (p := ⟨g, j, none⟩) hgl).trans (HCL.out j hj)
  clear z0 z1 z2 z3 z4 z5 hb4
  have y0 := hcs 6 (by decide)
  have y1 := hcs 7 (by decide)
  have y2 := hcs 8 (by decide)
  have y3 := hcs 9 (by decide)
  have y4 := hcs 10 (by decide)
  have y5 := hcs 11 (by decide)
  simp only [tkCells, tkC, noB, List.flatMap_cons, List.flatMap_nil, List.append_nil, List.cons_append, List.nil_append, List.getElem?_cons_zero, List.getElem?_cons_succ] at y0 y1 y2 y3 y4 y5
  clear hcs
  go_wp2_with fail
  refine (HP1.out _ HB5.out).mono ?_
  rintro e w5 ⟨rfl, hb5⟩
  have HB6 := hid (HB5.out.trans (hb5.mono HB5.out.size))
  clear y0 y1 y2 y3 y4 y5 hb5
  go_wp2_with fail
  go_ret
  exact ⟨rfl, HB6.out⟩
end Go.Proofs.YtpnbkecchfhimaaGreatDoor

/- out of FdLaid -/
namespace Go.Proofs.YtpnbkecchfhimaaGreatDoor
set_option linter.unusedVariables false
def dbTab19 : List Int := Lib.deBruijn64tab.map fun (n : Nat) => (n : Int)
def Tab19 (w : World) : Prop := Lib.TabIs Tryz.prog w "internal/strconv.uint64pow10" .u64 Lib.pow10Tab
theorem db_of19 {W : World} {rest : List (String × DataW Unit)} (h : laidMet Tryz.prog (("math/bits.deBruijn64tab", Lib.tabData .u8 dbTab19) :: rest) W) : Hx.Db W := by
  have ht := Lib.tabIs_of_head (g := 8) (t := 339) (e := 5) (n := 64) (by kernel_rfl) (by kernel_rfl) Tryz.underlying339 Tryz.underlying5 (by kernel_rfl) (by kernel_rfl) h
  have := ht.cell (g := 8) (by kernel_rfl) 15 (by decide)
  exact this
theorem tab_of19 {W : World} {rest : List (String × DataW Unit)} (h : laidMet Tryz.prog (("internal/strconv.uint64pow10", Lib.tabData .u64 Lib.pow10Tab) :: rest) W) : Tab19 W :=
  Lib.tabIs_of_head (g := 1) (t := 283) (e := 181) (n := 20) (by kernel_rfl) (by kernel_rfl) Tryz.underlying283 Tryz.underlying181 (by kernel_rfl) (by kernel_rfl) h
theorem mx_of {W : World} (h : W.ShapedOpen Tryz.prog) : Mx W := by
  obtain ⟨m, hml⟩ := Tryz.laysM185.s1_3 W h
  exact ⟨m, hml⟩
theorem db_feedHolds {W : World} (h : laidMetH Tryz.prog Rows.feedHoldsRow.laid W) : Hx.Db W := by
  rw [MakeChecks.laidMetH_plain _ _ _ (by kernel_rfl)] at h
  exact db_of19 h.tail
theorem db_feedPieces {W : World} (h : laidMetH Tryz.prog Rows.feedPiecesRow.laid W) : Hx.Db W := by
  rw [MakeChecks.laidMetH_plain _ _ _ (by kernel_rfl)] at h
  exact db_of19 h.tail
theorem db_feedPlays {W : World} (h : laidMetH Tryz.prog Rows.feedPlaysRow.laid W) : Hx.Db W := by
  rw [MakeChecks.laidMetH_plain _ _ _ (by kernel_rfl)] at h
  exact db_of19 h.tail
theorem db_feedNone {W : World} (h : laidMetH Tryz.prog Rows.feedNoneRow.laid W) : Hx.Db W := by
  rw [MakeChecks.laidMetH_plain _ _ _ (by kernel_rfl)] at h
  exact db_of19 h.tail
end Go.Proofs.YtpnbkecchfhimaaGreatDoor
