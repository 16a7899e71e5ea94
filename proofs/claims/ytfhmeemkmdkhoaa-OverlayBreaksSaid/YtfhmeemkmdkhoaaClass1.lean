/- Walks of prop.Class's closure. -/
import Derived.Test.YtfhmeemkmdkhoaaProg
import Derived.Test.YtfhmeemkmdkhoaaBase
import Derived.Test.YtfhmeemkmdkhoaaTab
namespace Go.Proofs.Ytfhmeemkmdkhoaa
open Go.RowKit
open Go.Lib

theorem closure_any (bl br : Nat) (i : Nat) (hi r : Int) (w : World) (hlt : (i : Int) < 139) (hl : w.cell? ⟨bl, i * 3 + 1, none⟩ = some (.int .i32 hi)) (hr : w.cell? ⟨br, 0, none⟩ = some (.int .i32 r)) :
    Calls Try.prog 28 (#[.int .i64 i] ++ #[.pointer (some ⟨bl, 0, none⟩), .pointer (some ⟨br, 0, none⟩)]) w fun e w' => e = .returned (.bool (decide (r ≤ hi))) ∧ ∃ n, w' = w.drewN n := by
  go_enter Try.func28, Try.ntmps28
  go_wp2
  go_quiet (fail)
  go_wp2
  go_ret
  exact ⟨rfl, _, rfl⟩
end Go.Proofs.Ytfhmeemkmdkhoaa
