/- Chapter 18: the document's example. -/
import Derived.Test.YtpkbmgpbagdalaaTagAlike
namespace Go.Proofs.Ytpkbmgpbagdalaa
open Go.RowKit
open Go.Lib (hid)
set_option linter.unusedVariables false

def exB : ByteArray := ⟨#[60, 66, 32, 67, 108, 97, 115, 115, 61, 120, 32, 97, 61, 34, 49, 62, 50, 34, 47, 62]⟩
def exM : Mk := ⟨0, 20, ⟨#[98]⟩, [(⟨#[99, 108, 97, 115, 115]⟩, ⟨#[120]⟩), (⟨#[97]⟩, ⟨#[49, 62, 50]⟩)], true, true⟩
def exC : Array Value := #[.int .u8 60, .int .u8 66, .int .u8 32, .int .u8 67, .int .u8 108, .int .u8 97, .int .u8 115, .int .u8 115, .int .u8 61, .int .u8 120, .int .u8 32, .int .u8 97, .int .u8 61, .int .u8 34, .int .u8 49, .int .u8 62, .int .u8 50, .int .u8 34, .int .u8 47, .int .u8 62]
theorem ex_read : readV exB 0 = (exM, true) := by kernel_rfl
theorem ex_cells : exC = exB.data.map fun b => Value.int .u8 b.toNat := by kernel_rfl

set_option maxRecDepth 100000 in
set_option maxHeartbeats 4000000 in
theorem awake_any (m : Int) (w : World) (hml : w.cell? ⟨0, 0, none⟩ = some (.int .i64 m)) : Calls Try.prog 8 #[] w fun e w' => e = .returned (.bool true) ∧ Below w.heap.size w w' := by
  have h0l : 0 < w.heap.size := by
    rcases Nat.lt_or_ge 0 w.heap.size with h | h
    · exact h
    · exfalso
      have hn : w.heap[0]? = none := Array.getElem?_eq_none h
      simp [World.cell?, hn] at hml
  have HML := hid hml
  have kc := Lib.run_convert_bytes_const (P := Try.prog) w 22 5 exC 20 20 Try.underlying22 Try.underlying5
  simp only [exC, List.size_toArray, List.length_cons, List.length_nil, Nat.reduceAdd] at kc
  clear hml
  go_enter Try.func8, Try.ntmps8
  go_wp2_with fail
  have hcell := fun i => cell_of_row _ w.heap.size i _ _ _ (heap_alloc_new w (.cells exC 5 (20, 21)))
  have hb1 := (Below.refl w.heap.size w).alloc (Nat.le_refl _) (.cells exC 5 (20, 21))
  have hs1 : (w.alloc (.cells exC 5 (20, 21))).heap.size = w.heap.size + 1 := by simp
  have hz : Lib.Bytes (w.alloc (.cells exC 5 (20, 21))) w.heap.size 0 exB := by
    intro i hi
    rw [Nat.zero_add, hcell i, ex_cells, Array.getElem?_map]
    have hi' : i < exB.data.size := hi
    rw [Array.getElem?_eq_getElem hi']
    rfl
  simp only [exC] at hb1 hs1 hz
  generalize w.alloc (.cells #[.int .u8 60, .int .u8 66, .int .u8 32, .int .u8 67, .int .u8 108, .int .u8 97, .int .u8 115, .int .u8 115, .int .u8 61, .int .u8 120, .int .u8 32, .int .u8 97, .int .u8 61, .int .u8 34, .int .u8 49, .int .u8 62, .int .u8 50, .int .u8 34, .int .u8 47, .int .u8 62] 5 (20, 21)) = w1 at *
  have hml1 : w1.cell? ⟨0, 0, none⟩ = some (.int .i64 m) := (hb1.cell (p := ⟨0, 0, none⟩) h0l).trans HML.out
  have hrd := read_any w1 (some ⟨w.heap.size, 0, none⟩) 20 20 0 m exB rfl (fun _ => ⟨_, _, rfl, by omega, hz⟩) (by decide) (by decide) (by decide) (by decide) hml1
  rw [ex_read] at hrd
  have HB1 := hid hb1
  clear kc hcell hz hml1 hb1
  refine hrd.mono ?_
  clear hrd
  rintro e w2 ⟨v, rfl, hb2, ho2⟩
  obtain ⟨A, c, rfl, hAc⟩ := owns_form ho2
  have hat := AtRow.of_own ho2
  have hs2 := hb2.size
  have hB2 : Below w.heap.size w w2 := HB1.out.trans (hb2.mono (by omega))
  have HAT := hid hat
  have HB2 := hid hB2
  clear hAc ho2 hb2 hat hB2
  simp only [Mk.val, exM]
  go_wp2_with fail
  have hb4 := ((Below.refl w2.heap.size w2).alloc (Nat.le_refl _) (.cells #[.int .i64 0, .int .i64 20, .string ⟨#[98]⟩, .slice A 2 c, .bool true, .bool true] 26)).alloc (by simp) (.cells #[.string ⟨#[99, 108, 97, 115, 115]⟩, .string ⟨#[120]⟩, .string ⟨#[97]⟩, .string ⟨#[49, 62, 50]⟩] 43)
  have hq4 := Blk.new (w2.alloc (.cells #[.int .i64 0, .int .i64 20, .string ⟨#[98]⟩, .slice A 2 c, .bool true, .bool true] 26)) 43 #[.string ⟨#[99, 108, 97, 115, 115]⟩, .string ⟨#[120]⟩, .string ⟨#[97]⟩, .string ⟨#[49, 62, 50]⟩]
  rw [show (w2.alloc (.cells #[.int .i64 0, .int .i64 20, .string ⟨#[98]⟩, .slice A 2 c, .bool true, .bool true] 26)).heap.size = w2.heap.size + 1 by simp] at hq4
  generalize ((w2.alloc (.cells #[.int .i64 0, .int .i64 20, .string ⟨#[98]⟩, .slice A 2 c, .bool true, .bool true] 26)).alloc (.cells #[.string ⟨#[99, 108, 97, 115, 115]⟩, .string ⟨#[120]⟩, .string ⟨#[97]⟩, .string ⟨#[49, 62, 50]⟩] 43)) = w4 at *
  have hu : AtRow w4 (.slice (some ⟨w2.heap.size + 1, 0, none⟩) 2 2) exM.attrs := by
    refine ⟨_, 2, rfl, Nat.le_refl _, fun _ => ⟨_, 0, rfl, hq4.lt, fun i a ha => ?_⟩⟩
    rw [Nat.zero_add, hq4.cell, hq4.cell]
    have hi := (List.getElem?_eq_some_iff.1 ha).1
    have : i = 0 ∨ i = 1 := by have : exM.attrs.length = 2 := rfl; omega
    rcases this with rfl | rfl <;> (cases ha; exact ⟨rfl, rfl⟩)
  refine (alike_any exM (.slice A 2 c) (.slice (some ⟨w2.heap.size + 1, 0, none⟩) 2 2) w4 (HAT.out.below hb4) hu (by decide)).mono ?_
  rintro e w5 ⟨rfl, hb5⟩
  have hs4 := hb4.size
  have hB5 : Below w.heap.size w w5 := HB2.out.trans ((hb4.mono (by omega)).trans (hb5.mono (by omega)))
  clear hb4 hq4 hu hb5
  go_wp2_with fail
  go_ret
  exact ⟨rfl, hB5⟩
end Go.Proofs.Ytpkbmgpbagdalaa
