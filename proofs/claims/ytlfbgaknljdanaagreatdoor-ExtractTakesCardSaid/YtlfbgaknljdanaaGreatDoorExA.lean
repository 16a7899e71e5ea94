/- Chapter 23: an extractor: its making: walks. -/
import Derived.Test.YtlfbgaknljdanaaGreatDoorNeD
namespace Go.Proofs.YtlfbgaknljdanaaGreatDoor
open Go.RowKit
open Go.Lib (hid)
set_option linter.unusedVariables false
set_option linter.unusedSimpArgs false
set_option maxRecDepth 100000

theorem nNew_any (w : World) : Calls Tryz.prog 34 #[] w fun e w' => e = .returned (.pointer (some ⟨w.heap.size, 0, none⟩)) ∧ (∃ ty, Blk w' w.heap.size ty (⟨0, 0, 0⟩ : Ne).cells) ∧ Below w.heap.size w w' := by
  have HB1 := hid (fun o => (Below.refl w.heap.size w).alloc (Nat.le_refl _) o)
  have HBK := hid (fun ty cs => Blk.new w ty cs)
  go_enter Tryz.func34, Tryz.ntmps34
  go_wp2_with fail
  go_ret
  exact ⟨rfl, ⟨_, HBK.out _ _⟩, HB1.out _⟩
def exCells (q : Nat) (fo ch : Bool) : Array Value := #[.pointer (some ⟨q, 0, none⟩), .bool fo, .bool ch]
theorem xNew_any (w : World) : Calls Tryz.prog 13 #[] w fun e w' => (∃ g q ty ty2, e = .returned (.pointer (some ⟨g, 0, none⟩)) ∧ g ≠ q ∧ w.heap.size ≤ g ∧ w.heap.size ≤ q ∧ Blk w' q ty (⟨0, 0, 0⟩ : Ne).cells ∧ Blk w' g ty2 (exCells q false false)) ∧ Below w.heap.size w w' := by
  have HN := hid (nNew_any w)
  go_enter Tryz.func13, Tryz.ntmps13
  go_wp2_with fail
  refine HN.out.mono ?_
  rintro e w4 ⟨rfl, ⟨ty, hk4⟩, hb4⟩
  have HB5 := hid (fun o => hb4.alloc hb4.size o)
  have HK5 := hid (fun o => hk4.alloc o)
  have HBK := hid (fun ty cs => Blk.new w4 ty cs)
  have HL := hid (And.intro hk4.lt hb4.size)
  clear hk4 hb4
  go_wp2_with fail
  go_ret
  exact ⟨⟨_, _, _, _, rfl, Nat.ne_of_gt HL.out.1, HL.out.2, Nat.le_refl _, HK5.out _, HBK.out _ _⟩, HB5.out _⟩
end Go.Proofs.YtlfbgaknljdanaaGreatDoor
