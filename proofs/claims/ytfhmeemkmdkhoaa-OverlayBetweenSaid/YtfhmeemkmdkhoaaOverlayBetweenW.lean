/- The walk of the law OverlayBetween. -/
import Derived.Test.YtfhmeemkmdkhoaaProg
import Derived.Test.YtfhmeemkmdkhoaaOverlayTo
import Derived.Test.YtfhmeemkmdkhoaaRefBetween
import Derived.Deep.RegionHeld3
namespace Go.Proofs.Ytfhmeemkmdkhoaa.overlayBetween
open Go.RowKit
open Go.Lib
set_option linter.unusedVariables false

set_option maxRecDepth 100000 in
set_option maxHeartbeats 8000000 in
theorem walk (m : Int) (a0 : Int) (a1 : Int) (a2 : Int) (a3 : Bool) (a4 : Bool) (a5 : Bool) (a6 : Bool) (b0 : Int) (b1 : Int) (b2 : Int) (b3 : Bool) (b4 : Bool) (b5 : Bool) (b6 : Bool) (rule : Bool) (w : World) (w0 : (Lit.int .i64 m).wf = true) (w1_0 : (Lit.int .i32 a0).wf = true) (w1_1 : (Lit.int .i64 a1).wf = true) (w1_2 : (Lit.int .i64 a2).wf = true) (w2_0 : (Lit.int .i32 b0).wf = true) (w2_1 : (Lit.int .i64 b1).wf = true) (w2_2 : (Lit.int .i64 b2).wf = true) :
    Calls Try.prog 3 #[.int .i64 m, .agg #[.int .i32 a0, .int .i64 a1, .int .i64 a2, .bool a3, .bool a4, .bool a5, .bool a6], .agg #[.int .i32 b0, .int .i64 b1, .int .i64 b2, .bool b3, .bool b4, .bool b5, .bool b6], .bool rule] w fun e w' => e = .returned (.bool true) ∧ Below w.heap.size w w' := by
  clear w0 w1_0 w1_1 w1_2 w2_0 w2_1 w2_2
  have hs0 : w.heap.size < w.heap.size + 1 + 1 := by omega
  go_enter Try.func3, Try.ntmps3
  go_wp2_with fail
  have hS0 : (fun w' : World => w'.cell? ⟨w.heap.size, 0, none⟩ = some (.int .i32 a0) ∧ w'.cell? ⟨w.heap.size, 1, none⟩ = some (.int .i64 a1) ∧ w'.cell? ⟨w.heap.size, 2, none⟩ = some (.int .i64 a2) ∧ w'.cell? ⟨w.heap.size, 3, none⟩ = some (.bool a3) ∧ w'.cell? ⟨w.heap.size, 4, none⟩ = some (.bool a4) ∧ w'.cell? ⟨w.heap.size, 5, none⟩ = some (.bool a5) ∧ w'.cell? ⟨w.heap.size, 6, none⟩ = some (.bool a6) ∧ w'.cell? ⟨w.heap.size + 1, 0, none⟩ = some (.int .i32 b0) ∧ w'.cell? ⟨w.heap.size + 1, 1, none⟩ = some (.int .i64 b1) ∧ w'.cell? ⟨w.heap.size + 1, 2, none⟩ = some (.int .i64 b2) ∧ w'.cell? ⟨w.heap.size + 1, 3, none⟩ = some (.bool b3) ∧ w'.cell? ⟨w.heap.size + 1, 4, none⟩ = some (.bool b4) ∧ w'.cell? ⟨w.heap.size + 1, 5, none⟩ = some (.bool b5) ∧ w'.cell? ⟨w.heap.size + 1, 6, none⟩ = some (.bool b6) ∧ Below w.heap.size w w' ∧ w.heap.size + 1 < w'.heap.size) ((w.alloc (.cells #[.int .i32 a0, .int .i64 a1, .int .i64 a2, .bool a3, .bool a4, .bool a5, .bool a6] 23)).alloc (.cells #[.int .i32 b0, .int .i64 b1, .int .i64 b2, .bool b3, .bool b4, .bool b5, .bool b6] 23)) := by
    refine ⟨?_, ?_, ?_, ?_, ?_, ?_, ?_, ?_, ?_, ?_, ?_, ?_, ?_, ?_, ((Below.refl _ _).alloc (Nat.le_refl _) _).alloc (by simp) _, by simp⟩ <;> simp
  generalize ((w.alloc (.cells #[.int .i32 a0, .int .i64 a1, .int .i64 a2, .bool a3, .bool a4, .bool a5, .bool a6] 23)).alloc (.cells #[.int .i32 b0, .int .i64 b1, .int .i64 b2, .bool b3, .bool b4, .bool b5, .bool b6] 23)) = W0 at *
  obtain ⟨f1, f2, f3, f4, f5, f6, f7, f8, f9, f10, f11, f12, f13, f14, fB, fs⟩ := hS0
  have fB' := fB.drew
  go_region_held3 (fun w' => w'.cell? ⟨w.heap.size, 0, none⟩ = some (.int .i32 a0) ∧ w'.cell? ⟨w.heap.size, 1, none⟩ = some (.int .i64 a1) ∧ w'.cell? ⟨w.heap.size, 2, none⟩ = some (.int .i64 a2) ∧ w'.cell? ⟨w.heap.size, 3, none⟩ = some (.bool a3) ∧ w'.cell? ⟨w.heap.size, 4, none⟩ = some (.bool a4) ∧ w'.cell? ⟨w.heap.size, 5, none⟩ = some (.bool a5) ∧ w'.cell? ⟨w.heap.size, 6, none⟩ = some (.bool a6) ∧ w'.cell? ⟨w.heap.size + 1, 0, none⟩ = some (.int .i32 b0) ∧ w'.cell? ⟨w.heap.size + 1, 1, none⟩ = some (.int .i64 b1) ∧ w'.cell? ⟨w.heap.size + 1, 2, none⟩ = some (.int .i64 b2) ∧ w'.cell? ⟨w.heap.size + 1, 3, none⟩ = some (.bool b3) ∧ w'.cell? ⟨w.heap.size + 1, 4, none⟩ = some (.bool b4) ∧ w'.cell? ⟨w.heap.size + 1, 5, none⟩ = some (.bool b5) ∧ w'.cell? ⟨w.heap.size + 1, 6, none⟩ = some (.bool b6) ∧ Below w.heap.size w w' ∧ w.heap.size + 1 < w'.heap.size)
    (first
      | exact ⟨f1, f2, f3, f4, f5, f6, f7, f8, f9, f10, f11, f12, f13, f14, fB', fs⟩
      | (go_split_ands; refine ⟨?_, ?_, ?_, ?_, ?_, ?_, ?_, ?_, ?_, ?_, ?_, ?_, ?_, ?_, ?_, ?_⟩ <;> first | (rw [hb.cell (by simp; omega)]; assumption) | exact Below.trans (by assumption) (hb.mono (by omega)) | (have := hb.size; omega)))
    (first
      | (go_at_call 10; refine (to_any _ _ _ _ _ _ _ _).mono ?_; rintro e w' ⟨rfl, hb⟩)
      | (go_at_call 9; refine (between_any _ _ _ _ _ _ _ _ _ _ _ _ _ _ _ _ _).mono ?_; rintro e w' ⟨rfl, hb⟩)
      | (go_at_call 11; refine (refbetween_any _ _ _ _ _ _ _ _ _ _ _ _ _ _ _ _ _).mono ?_; rintro e w' ⟨rfl, hb⟩)
      | (go_at_call 12; refine (awake25_any _).mono ?_; rintro e w' ⟨rfl, hb⟩))
  go_wp2
  go_ret
  exact ⟨rfl, by go_split_ands; assumption⟩
end Go.Proofs.Ytfhmeemkmdkhoaa.overlayBetween
