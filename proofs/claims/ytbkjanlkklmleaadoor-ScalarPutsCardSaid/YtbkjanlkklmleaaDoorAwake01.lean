/- Walk of the statements' example, chapter 01. -/
import Derived.Test.YtbkjanlkklmleaaDoorProg
import Derived.Test.YtbkjanlkklmleaaDoorAll
import Derived.Test.YtbkjanlkklmleaaDoorPut
import Derived.Laws.BytesArg
namespace Go.Proofs.YtbkjanlkklmleaaDoor
open Go.RowKit
open Go.Lib (hid)

theorem awake_pcs : (pcs [97, 240, 159, 152, 98]).map (·.r) = [97, 65533, 98] := by decide +kernel
theorem awake_put : putF 128512 = [240, 159, 152, 128] := by decide +kernel

theorem made32_three {n₀ : Nat} {W : World} {v : Value} {a b c : Int} (h : Made32 n₀ W v [a, b, c]) : ∃ g cap, v = .slice (some ⟨g, 0, none⟩) 3 cap ∧ g < W.heap.size ∧ W.cell? ⟨g, 0, none⟩ = some (.int .i32 a) ∧ W.cell? ⟨g, 1, none⟩ = some (.int .i32 b) ∧ W.cell? ⟨g, 2, none⟩ = some (.int .i32 c) := by
  obtain ⟨hr, _⟩ := h
  obtain ⟨g, cap, rfl⟩ := ownsRow_succ (k := 2) hr
  refine ⟨g, cap, rfl, (hr.lt g rfl).2, ?_, ?_, ?_⟩
  · rw [hr.cellAt 0 (by simp)]; rfl
  · rw [hr.cellAt 1 (by simp)]; rfl
  · rw [hr.cellAt 2 (by simp)]; rfl

set_option maxHeartbeats 4000000 in
theorem awake01_any (w : World) : Calls Tryd.prog 5 #[] w fun e w' => e = .returned (.bool true) ∧ Below w.heap.size w w' := by
  have hB : Below w.heap.size w (w.alloc (.cells #[.int .u8 97, .int .u8 240, .int .u8 159, .int .u8 152, .int .u8 98] 5)) := (Below.refl _ _).alloc (Nat.le_refl _) _
  have hsb : SB (w.alloc (.cells #[.int .u8 97, .int .u8 240, .int .u8 159, .int .u8 152, .int .u8 98] 5)) (some ⟨w.heap.size, 0, none⟩) 5 [97, 240, 159, 152, 98] := by
    refine ⟨by decide, by decide, by intro x hx; simp at hx; omega, .inr ⟨w.heap.size, 0, rfl, by simp, ?_⟩⟩
    intro i hi
    simp at hi
    rcases (by omega : i = 0 ∨ i = 1 ∨ i = 2 ∨ i = 3 ∨ i = 4) with rfl | rfl | rfl | rfl | rfl <;> simp
  have h1 := all_any (some ⟨w.heap.size, 0, none⟩) 5 [97, 240, 159, 152, 98] _ hsb (by decide)
  rw [awake_pcs] at h1
  have H1 := hid h1
  have h2 := fun w => put_any 128512 w
  rw [awake_put] at h2
  have H2 := hid h2
  have HB := hid hB
  clear h1 h2 hsb hB
  go_enter Tryd.func5, Tryd.ntmps5
  go_wp2_with fail
  refine H1.out.mono ?_
  rintro e w1 ⟨v, rfl, hm, hb1⟩
  obtain ⟨g, cap, rfl, hg, hc0, hc1, hc2⟩ := made32_three hm
  have HB1 := hid (HB.out.trans (hb1.mono (by simp)))
  clear hm hb1
  go_wp2_with fail
  refine (H2.out _).mono ?_
  rintro e w2 ⟨v, rfl, ⟨b, hb, rfl, hrow⟩, hb2⟩
  have HB2 := hid (HB1.out.trans (hb2.mono HB1.out.size))
  have hcv := run_convert_bytes_arg (P := Tryd.prog) w2 28 5 Tryd.underlying28 Tryd.underlying5 b 0 4 4 [240, 159, 152, 128] rfl (by
    intro i hi
    rw [cell_of_row _ _ _ _ _ _ hrow]
    rcases (by omega : i = 0 ∨ i = 1 ∨ i = 2 ∨ i = 3) with rfl | rfl | rfl | rfl <;> rfl) 9 Tryd.underlying9
  rw [show strOfNums [240, 159, 152, 128] = ⟨#[240, 159, 152, 128]⟩ by decide +kernel] at hcv
  clear hrow hb hb2 hc0 hc1 hc2
  go_wp2_with fail
  go_ret
  exact ⟨rfl, HB2.out⟩
end Go.Proofs.YtbkjanlkklmleaaDoor
