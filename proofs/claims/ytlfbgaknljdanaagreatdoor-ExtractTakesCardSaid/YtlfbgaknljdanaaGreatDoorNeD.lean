/- Chapter 22: a nest's counts: walks. -/
import Derived.Test.YtlfbgaknljdanaaGreatDoorNeC
namespace Go.Proofs.YtlfbgaknljdanaaGreatDoor
open Go.RowKit
open Go.Lib (hid)
set_option linter.unusedVariables false
set_option linter.unusedSimpArgs false
set_option maxRecDepth 100000

set_option maxHeartbeats 1000000 in
/-- Without a nest every token is taken for nothing. -/
theorem nTake_nil (tk : Array Value) (k f t r : Int) (nm : ByteArray) (sg : Bool) (w : World) (htk : tk = #[.int .i64 k, .int .i64 f, .int .i64 t, .string nm, .int .i32 r, .bool sg]) : Calls Tryz.prog 37 #[.pointer none, .agg tk] w fun e w' => e = .returned (.tuple #[.bool false, .bool false]) ∧ Below w.heap.size w w' := by
  subst htk
  have HB1 := hid ((Below.refl w.heap.size w).alloc (Nat.le_refl _) (.cells #[.int .i64 k, .int .i64 f, .int .i64 t, .string nm, .int .i32 r, .bool sg] 30))
  go_enter Tryz.func37, Tryz.ntmps37
  go_wp2_with fail
  go_ret2
  exact ⟨rfl, HB1.out⟩
theorem count_nil (i : Int) (w : World) : Calls Tryz.prog 58 #[.pointer none, .int .i64 i] w fun e w' => e = .returned (.int .i64 0) ∧ w' = w := by
  go_enter Tryz.func58, Tryz.ntmps58
  go_wp2_with fail
  go_ret
  exact ⟨rfl, rfl⟩
theorem count0_any (q : Nat) (ty : TypeId) (n : Ne) (w : World) (hk : Blk w q ty n.cells) : Calls Tryz.prog 58 #[.pointer (some ⟨q, 0, none⟩), .int .i64 0] w fun e w' => e = .returned (.int .i64 n.h) ∧ w' = w := by
  obtain ⟨h, p, b⟩ := n
  have y := hk.cell 0
  have y0 := hk.cell 0
  simp only [Ne.cells, List.getElem?_toArray, List.getElem?_cons_zero, List.getElem?_cons_succ] at y y0
  clear hk
  go_enter Tryz.func58, Tryz.ntmps58
  go_wp2_with fail
  go_ret
  exact ⟨rfl, rfl⟩
theorem count1_any (q : Nat) (ty : TypeId) (n : Ne) (w : World) (hk : Blk w q ty n.cells) : Calls Tryz.prog 58 #[.pointer (some ⟨q, 0, none⟩), .int .i64 1] w fun e w' => e = .returned (.int .i64 n.p) ∧ w' = w := by
  obtain ⟨h, p, b⟩ := n
  have y := hk.cell 1
  have y0 := hk.cell 0
  simp only [Ne.cells, List.getElem?_toArray, List.getElem?_cons_zero, List.getElem?_cons_succ] at y y0
  clear hk
  go_enter Tryz.func58, Tryz.ntmps58
  go_wp2_with fail
  go_ret
  exact ⟨rfl, rfl⟩
theorem count2_any (q : Nat) (ty : TypeId) (n : Ne) (w : World) (hk : Blk w q ty n.cells) : Calls Tryz.prog 58 #[.pointer (some ⟨q, 0, none⟩), .int .i64 2] w fun e w' => e = .returned (.int .i64 n.b) ∧ w' = w := by
  obtain ⟨h, p, b⟩ := n
  have y := hk.cell 2
  have y0 := hk.cell 0
  simp only [Ne.cells, List.getElem?_toArray, List.getElem?_cons_zero, List.getElem?_cons_succ] at y y0
  clear hk
  go_enter Tryz.func58, Tryz.ntmps58
  go_wp2_with fail
  go_ret
  exact ⟨rfl, rfl⟩
theorem nHidden_any (q : Nat) (ty : TypeId) (n : Ne) (w : World) (hk : Blk w q ty n.cells) : Calls Tryz.prog 38 #[.pointer (some ⟨q, 0, none⟩)] w fun e w' => e = .returned (.int .i64 n.h) ∧ w' = w := by
  have HC := hid (count0_any q ty n w hk)
  clear hk
  go_enter Tryz.func38, Tryz.ntmps38
  go_wp2_with fail
  refine HC.out.mono ?_
  rintro e w4 ⟨rfl, hw4⟩
  obtain rfl : w = w4 := hw4.symm
  go_wp2_with fail
  go_ret
  exact ⟨rfl, rfl⟩
theorem nPre_any (q : Nat) (ty : TypeId) (n : Ne) (w : World) (hk : Blk w q ty n.cells) : Calls Tryz.prog 61 #[.pointer (some ⟨q, 0, none⟩)] w fun e w' => e = .returned (.int .i64 n.p) ∧ w' = w := by
  have HC := hid (count1_any q ty n w hk)
  clear hk
  go_enter Tryz.func61, Tryz.ntmps61
  go_wp2_with fail
  refine HC.out.mono ?_
  rintro e w4 ⟨rfl, hw4⟩
  obtain rfl : w = w4 := hw4.symm
  go_wp2_with fail
  go_ret
  exact ⟨rfl, rfl⟩
theorem nNoBreak_any (q : Nat) (ty : TypeId) (n : Ne) (w : World) (hk : Blk w q ty n.cells) : Calls Tryz.prog 60 #[.pointer (some ⟨q, 0, none⟩)] w fun e w' => e = .returned (.int .i64 n.b) ∧ w' = w := by
  have HC := hid (count2_any q ty n w hk)
  clear hk
  go_enter Tryz.func60, Tryz.ntmps60
  go_wp2_with fail
  refine HC.out.mono ?_
  rintro e w4 ⟨rfl, hw4⟩
  obtain rfl : w = w4 := hw4.symm
  go_wp2_with fail
  go_ret
  exact ⟨rfl, rfl⟩
end Go.Proofs.YtlfbgaknljdanaaGreatDoor
