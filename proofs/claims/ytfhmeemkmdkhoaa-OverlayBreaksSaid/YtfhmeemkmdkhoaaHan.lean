/- Walks of prop.hangul and of the closure in prop.Class. -/
import Derived.Test.YtfhmeemkmdkhoaaProg
import Derived.Test.YtfhmeemkmdkhoaaBase
namespace Go.Proofs.Ytfhmeemkmdkhoaa
open Go.RowKit
open Go.Lib

def hanB (r : Int) : Bool := decide (44032 ≤ r) && decide (r ≤ 55203)

theorem hangul_any (r : Int) (w : World) : Calls Try.prog 25 #[.int .i32 r] w fun e w' => e = .returned (.bool (hanB r)) ∧ w = w' := by
  by_cases h1 : 44032 ≤ r
  · by_cases h2 : r ≤ 55203
    · go_enter Try.func25, Try.ntmps25
      go_wp2
      go_ret
      exact ⟨by simp [hanB]; omega, rfl⟩
    · go_enter Try.func25, Try.ntmps25
      go_wp2
      go_ret
      exact ⟨by simp [hanB]; omega, rfl⟩
  · go_enter Try.func25, Try.ntmps25
    go_wp2
    go_ret
    exact ⟨by simp [hanB]; omega, rfl⟩
end Go.Proofs.Ytfhmeemkmdkhoaa
