/- Chapter 17: the document's example. -/
import Derived.Test.YtlopigkaibkblaaDoorAnE
namespace Go.Proofs.YtlopigkaibkblaaDoor
open Go.RowKit
open Go.Lib (hid)
set_option linter.unusedVariables false

def exB : ByteArray := ⟨#[27, 91, 51, 49, 109]⟩
def exC : Array Value := #[.int .u8 27, .int .u8 91, .int .u8 51, .int .u8 49, .int .u8 109]
theorem ex_cells : exC = exB.data.map fun b => Value.int .u8 b.toNat := by kernel_rfl
theorem ex_read : readE exB 0 = ⟨5, true, false, 109⟩ := by kernel_rfl
theorem ex_num : numB ⟨#[51, 49]⟩ = some 31 := by
  rw [numB_yes (by decide) (fun i hi => by
    have : i = 0 ∨ i = 1 := by have : (⟨#[51, 49]⟩ : ByteArray).size = 2 := rfl; omega
    rcases this with rfl | rfl <;> decide)]
  rfl
theorem ex_nums : numsV exB 0 = some [31] := by
  have h : numsV exB 0 = headN exB := by
    unfold numsV
    rw [if_pos (by decide)]
    rfl
  have h2 : headN exB = numsL (piecesB (exB.extract 2 4)) := by
    unfold headN
    rw [if_neg (by decide)]
    rfl
  have h3 : piecesB (exB.extract 2 4) = [⟨#[51, 49]⟩] := by kernel_rfl
  rw [h, h2, h3, numsL, ex_num]
  rfl

set_option maxRecDepth 100000 in
set_option maxHeartbeats 4000000 in
theorem awake_any (m : Int) (te : TypeId) (pe : Value) (w : World) (hml : w.cell? ⟨0, 0, none⟩ = some (.int .i64 m)) (hev : w.cell? ⟨Tryd.laysC172_ren.g 15, 0, none⟩ = some (.iface te pe)) :
    Calls Tryd.prog 8 #[] w fun e w' => e = .returned (.bool true) ∧ Below w.heap.size w w' := by
  have h0l := World.block_lt_of_cell? _ _ hml
  have hgl := World.block_lt_of_cell? _ _ hev
  have HML := hid hml
  have HEV := hid hev
  have kc := fun W => Lib.run_convert_bytes_const (P := Tryd.prog) W 22 5 exC 5 5 Tryd.underlying22 Tryd.underlying5
  simp only [exC, List.size_toArray, List.length_cons, List.length_nil, Nat.reduceAdd] at kc
  have hbytes : ∀ W : World, BA (W.alloc (.cells exC 5 (5, 6))) (some ⟨W.heap.size, 0, none⟩) 5 5 exB := fun W => by
    refine ⟨rfl, Nat.le_refl _, by decide, fun _ => ⟨W.heap.size, 0, rfl, by simp, ?_⟩⟩
    intro i hi
    rw [Nat.zero_add, cell_of_row _ W.heap.size i _ _ _ (heap_alloc_new W (.cells exC 5 (5, 6))), ex_cells, Array.getElem?_map]
    have hi' : i < exB.data.size := hi
    rw [Array.getElem?_eq_getElem hi']
    rfl
  simp only [exC] at hbytes
  have HBY := hid hbytes
  clear hml hev hbytes
  go_enter Tryd.func8, Tryd.ntmps8
  go_wp2_with fail
  have hb1 := (Below.refl w.heap.size w).alloc (Nat.le_refl _) (.cells #[.int .u8 27, .int .u8 91, .int .u8 51, .int .u8 49, .int .u8 109] 5 (5, 6))
  have hba1 := HBY.out w
  generalize w.alloc (.cells #[.int .u8 27, .int .u8 91, .int .u8 51, .int .u8 49, .int .u8 109] 5 (5, 6)) = w1 at *
  have hrd := read_any _ 5 5 0 exB w1 hba1 (by decide) (by decide)
  rw [ex_read] at hrd
  have HB1 := hid hb1
  clear hb1 hba1
  refine hrd.mono ?_
  clear hrd
  rintro e w2 ⟨rfl, hb2⟩
  simp only [Es.val]
  have HB2 := hid (HB1.out.trans (hb2.mono HB1.out.size))
  clear hb2
  go_upto_region 2 with fail
  have hb3 := (Below.refl w2.heap.size w2).alloc (Nat.le_refl _) (.cells #[.int .i64 5, .bool true, .bool false, .int .u8 109] 25)
  have hr3 := Blk.new w2 25 #[.int .i64 5, .bool true, .bool false, .int .u8 109]
  generalize w2.alloc (.cells #[.int .i64 5, .bool true, .bool false, .int .u8 109] 25) = w3 at *
  have HB3 := hid (HB2.out.trans (hb3.mono HB2.out.size))
  have HR3 := hid hr3
  clear hb3 hr3
  go_wp2_with fail
  have hb4 := (Below.refl w3.heap.size w3).alloc (Nat.le_refl _) (.cells #[.int .u8 27, .int .u8 91, .int .u8 51, .int .u8 49, .int .u8 109] 5 (5, 6))
  have hba4 := HBY.out w3
  generalize w3.alloc (.cells #[.int .u8 27, .int .u8 91, .int .u8 51, .int .u8 49, .int .u8 109] 5 (5, 6)) = w4 at *
  have hB4 := HB3.out.trans (hb4.mono HB3.out.size)
  have hnm := nums_any _ 5 5 0 exB m te pe w4 hba4 (by decide) (by decide) ((hB4.cell (p := ⟨0, 0, none⟩) h0l).trans HML.out) ((hB4.cell (p := ⟨Tryd.laysC172_ren.g 15, 0, none⟩) hgl).trans HEV.out)
  rw [ex_nums] at hnm
  have HB4 := hid hB4
  have HR4 := hid (HR3.out.below hb4 HR3.out.lt)
  clear hb4 hba4 hB4
  refine hnm.mono ?_
  clear hnm
  rintro e w5 ⟨v, rfl, hb5, ho5⟩
  simp only [Option.getD_some, Option.isSome_some, List.length_cons, List.length_nil, Nat.zero_add, intCells, List.map_cons, List.map_nil] at ho5 ⊢
  obtain ⟨A, c, rfl, h1c, _, hcell⟩ := owns_form ho5
  obtain ⟨g, rfl, _, hg, hcc⟩ := hcell (by decide)
  have hv0 := hcc 0 (by decide)
  simp only [List.getElem?_cons_zero] at hv0
  have hr5 := HR4.out.below hb5 HR4.out.lt
  have r0 := hr5.cell 0
  have r1 := hr5.cell 1
  have r2 := hr5.cell 2
  have r3 := hr5.cell 3
  simp only [List.getElem?_toArray, List.getElem?_cons_zero, List.getElem?_cons_succ] at r0 r1 r2 r3
  have HB5 := hid (HB4.out.trans (hb5.mono HB4.out.size))
  clear ho5 hcell hcc hr5 hb5 kc
  go_wp2_with fail
  go_ret
  exact ⟨rfl, HB5.out⟩
end Go.Proofs.YtlopigkaibkblaaDoor
