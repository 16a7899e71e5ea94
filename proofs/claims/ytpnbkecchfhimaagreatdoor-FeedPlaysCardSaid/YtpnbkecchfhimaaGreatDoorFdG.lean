/- Chapter 20: no feeder; a closed one; the document's example: walks. -/
import Derived.Test.YtpnbkecchfhimaaGreatDoorFdF
import Derived.Test.YtpnbkecchfhimaaGreatDoorTkG
namespace Go.Proofs.YtpnbkecchfhimaaGreatDoor
open Go.RowKit Go.Shelf
open Go.Lib (hid)
set_option linter.unusedVariables false
set_option linter.unusedSimpArgs false
set_option maxRecDepth 100000

theorem itoa_dig {k : Nat} (h : k < 10) : itoaB k = ⟨#[UInt8.ofNat (48 + k)]⟩ := by
  unfold itoaB
  rw [Lib.itoa_nonneg, Lib.decDigits_one h]
theorem itoa_small {k : Nat} (h : k < 100) (W : World) : Calls Tryz.prog 50 #[.int .i64 k] W (fun e w' => e = .returned (.string (itoaB k)) ∧ Below W.heap.size W w') := by
  refine (Any.strconv_Itoa_small (P := Tryz.prog) Tryz.laysHxS171 k h W).mono fun e w' ⟨he, hw⟩ => ⟨?_, ?_⟩
  · rw [he]
    unfold itoaB
    rw [Lib.itoa_nonneg]
  · rw [hw]
    exact Below.refl _ _
theorem aw_p0 : printB 0 0 1 noB 0 false = ⟨#[116, 101, 120, 116, 32, 48, 32, 49]⟩ := by
  have e0 := itoa_dig (k := 0) (by decide)
  have e1 := itoa_dig (k := 1) (by decide)
  show preP 0 0 1 = _
  unfold preP
  rw [show (0 : Int) = ((0 : Nat) : Int) from rfl, show (1 : Int) = ((1 : Nat) : Int) from rfl, e0, e1]
  rfl
theorem aw_p1 : printB 2 1 4 ⟨#[98]⟩ 0 false = ⟨#[115, 116, 97, 114, 116, 32, 49, 32, 52, 32, 98]⟩ := by
  have e0 := itoa_dig (k := 1) (by decide)
  have e1 := itoa_dig (k := 4) (by decide)
  show preP 2 1 4 ++ (spB ++ ⟨#[98]⟩) = _
  unfold preP
  rw [show (1 : Int) = ((1 : Nat) : Int) from rfl, show (4 : Int) = ((4 : Nat) : Int) from rfl, e0, e1]
  rfl
theorem feed_nil (a : Option Addr) (n c : Nat) (w : World) : Calls Tryz.prog 12 #[.pointer none, .slice a n c] w fun e w' => e = .returned (.slice none 0 0) ∧ w' = w := by
  go_enter Tryz.func12, Tryz.ntmps12
  go_wp2_with fail
  go_ret
  exact ⟨rfl, rfl⟩
theorem close_nil (w : World) : Calls Tryz.prog 15 #[.pointer none] w fun e w' => e = .returned (.slice none 0 0) ∧ w' = w := by
  go_enter Tryz.func15, Tryz.ntmps15
  go_wp2_with fail
  go_ret
  exact ⟨rfl, rfl⟩
theorem waits_nil (w : World) : Calls Tryz.prog 21 #[.pointer none] w fun e w' => e = .returned (.int .i64 0) ∧ w' = w := by
  go_enter Tryz.func21, Tryz.ntmps21
  go_wp2_with fail
  go_ret
  exact ⟨rfl, rfl⟩
theorem fed_nil (w : World) : Calls Tryz.prog 18 #[.pointer none] w fun e w' => e = .returned (.int .i64 0) ∧ w' = w := by
  go_enter Tryz.func18, Tryz.ntmps18
  go_wp2_with fail
  go_ret
  exact ⟨rfl, rfl⟩
theorem bytes_nil (kd fr til : Int) (nm : ByteArray) (r : Int) (sg : Bool) (w : World) :
    Calls Tryz.prog 20 #[.pointer none, .agg #[.int .i64 kd, .int .i64 fr, .int .i64 til, .string nm, .int .i32 r, .bool sg]] w fun e w' => e = .returned (.slice none 0 0) ∧ Below w.heap.size w w' := by
  have HB1 := hid ((Below.refl w.heap.size w).alloc (Nat.le_refl _) (.cells #[.int .i64 kd, .int .i64 fr, .int .i64 til, .string nm, .int .i32 r, .bool sg] 29))
  go_enter Tryz.func20, Tryz.ntmps20
  go_upto_region 1 with fail
  generalize w.alloc (.cells #[.int .i64 kd, .int .i64 fr, .int .i64 til, .string nm, .int .i32 r, .bool sg] 29) = w1 at *
  go_quiet (fail)
  go_wp2_with fail
  go_ret
  exact ⟨rfl, HB1.out.trans (below_drewN _ w1 nq)⟩
theorem feed_shut (g : Nat) (s : ByteArray) (m k : Nat) (was : ByteArray) (wa : Nat) (fd wt : Int) (a : Option Addr) (n c : Nat) (w : World) (hf : FdAt w g s m k was wa fd wt true) : Calls Tryz.prog 12 #[.pointer (some ⟨g, 0, none⟩), .slice a n c] w fun e w' => e = .returned (.slice none 0 0) ∧ w' = w := by
  obtain ⟨Ab, nb, cb, Aw, nw, cw, h1, h2, h3, h4, h5⟩ := hf
  have x7 := h1.cell 7
  unfold fdC at x7
  simp only [List.getElem?_toArray, List.getElem?_cons_zero, List.getElem?_cons_succ] at x7
  clear h1 h2 h3 h4 h5
  go_enter Tryz.func12, Tryz.ntmps12
  go_wp2_with fail
  go_ret
  exact ⟨rfl, rfl⟩
theorem close_shut (g : Nat) (s : ByteArray) (m k : Nat) (was : ByteArray) (wa : Nat) (fd wt : Int) (w : World) (hf : FdAt w g s m k was wa fd wt true) : Calls Tryz.prog 15 #[.pointer (some ⟨g, 0, none⟩)] w fun e w' => e = .returned (.slice none 0 0) ∧ w' = w := by
  obtain ⟨Ab, nb, cb, Aw, nw, cw, h1, h2, h3, h4, h5⟩ := hf
  have x7 := h1.cell 7
  unfold fdC at x7
  simp only [List.getElem?_toArray, List.getElem?_cons_zero, List.getElem?_cons_succ] at x7
  clear h1 h2 h3 h4 h5
  go_enter Tryz.func15, Tryz.ntmps15
  go_wp2_with fail
  go_ret
  exact ⟨rfl, rfl⟩
theorem waits_any (g : Nat) (s : ByteArray) (m k : Nat) (was : ByteArray) (wa : Nat) (fd wt : Int) (cl : Bool) (w : World) (hf : FdAt w g s m k was wa fd wt cl) : Calls Tryz.prog 21 #[.pointer (some ⟨g, 0, none⟩)] w fun e w' => e = .returned (.int .i64 wt) ∧ w' = w := by
  obtain ⟨Ab, nb, cb, Aw, nw, cw, h1, h2, h3, h4, h5⟩ := hf
  have x6 := h1.cell 6
  unfold fdC at x6
  simp only [List.getElem?_toArray, List.getElem?_cons_zero, List.getElem?_cons_succ] at x6
  clear h1 h2 h3 h4 h5
  go_enter Tryz.func21, Tryz.ntmps21
  go_wp2_with fail
  go_ret
  exact ⟨rfl, rfl⟩
theorem fed_any (g : Nat) (s : ByteArray) (m k : Nat) (was : ByteArray) (wa : Nat) (fd wt : Int) (cl : Bool) (w : World) (hf : FdAt w g s m k was wa fd wt cl) : Calls Tryz.prog 18 #[.pointer (some ⟨g, 0, none⟩)] w fun e w' => e = .returned (.int .i64 fd) ∧ w' = w := by
  obtain ⟨Ab, nb, cb, Aw, nw, cw, h1, h2, h3, h4, h5⟩ := hf
  have x5 := h1.cell 5
  unfold fdC at x5
  simp only [List.getElem?_toArray, List.getElem?_cons_zero, List.getElem?_cons_succ] at x5
  clear h1 h2 h3 h4 h5
  go_enter Tryz.func18, Tryz.ntmps18
  go_wp2_with fail
  go_ret
  exact ⟨rfl, rfl⟩
def fw1 : ByteArray := ⟨#[97, 60]⟩
def fw2 : ByteArray := ⟨#[98, 62]⟩
def fw1C : Array Value := #[.int .u8 97, .int .u8 60]
def fw2C : Array Value := #[.int .u8 98, .int .u8 62]
theorem fw1_cells : fw1C = fw1.data.map fun b => Value.int .u8 b.toNat := by kernel_rfl
theorem fw2_cells : fw2C = fw2.data.map fun b => Value.int .u8 b.toNat := by kernel_rfl
def fw12 : ByteArray := ⟨#[97, 60, 98, 62]⟩
theorem fw_app0 : noB ++ fw1 = fw1 := by kernel_rfl
theorem fw_app : fw1 ++ fw2 = fw12 := by kernel_rfl
theorem fw_t1 : toks fw1 = [⟨0, 0, 2, noB, 0, false⟩] := by kernel_rfl
theorem fw_t2 : toks fw12 = [⟨0, 0, 1, noB, 0, false⟩, ⟨2, 1, 4, ⟨#[98]⟩, 0, false⟩] := by kernel_rfl
theorem fw_n1 : setN fw1 = 0 := by kernel_rfl
theorem fw_n2 : setN fw12 = 2 := by kernel_rfl
theorem ba_cells (W : World) (s : ByteArray) (cs : Array Value) (n : Nat) (fr : Nat × Nat) (hn : n = s.size) (h100 : n ≤ 100) (hc : cs = s.data.map fun b => Value.int .u8 b.toNat) : BA (W.alloc (.cells cs 5 fr)) (some ⟨W.heap.size, 0, none⟩) n n s := by
  refine ⟨hn, Nat.le_refl _, by omega, fun _ => ⟨W.heap.size, 0, rfl, by simp, ?_⟩⟩
  intro i hi
  rw [Nat.zero_add, cell_of_row _ W.heap.size i _ _ _ (heap_alloc_new W (.cells cs 5 fr)), hc, Array.getElem?_map]
  have hi' : i < s.data.size := hi
  rw [Array.getElem?_eq_getElem hi']
  rfl
theorem mx_ne {w : World} (h : Mx w) {g : Nat} (hg : w.heap.size ≤ g) : g ≠ 0 := fun e => by
  obtain ⟨m, hm⟩ := h
  have := World.block_lt_of_cell? _ _ hm
  simp only at this
  omega
theorem below_new {w W W' : World} {B g : Nat} (h : Below B w W) (hg : W.grownBy W' (some g)) (hB : B ≤ g) (hs : B ≤ W.heap.size) : Below B w W' := h.trans (below_of_grown hg hB hs)
end Go.Proofs.YtpnbkecchfhimaaGreatDoor
