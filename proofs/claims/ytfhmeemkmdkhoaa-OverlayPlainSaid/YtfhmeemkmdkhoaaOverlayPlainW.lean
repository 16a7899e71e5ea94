/- The walk of the law OverlayPlain. -/
import Derived.Test.YtfhmeemkmdkhoaaProg
import Derived.Test.YtfhmeemkmdkhoaaOverlayTo
namespace Go.Proofs.Ytfhmeemkmdkhoaa.overlayPlain
open Go.RowKit
open Go.Lib
set_option linter.unusedVariables false

set_option maxHeartbeats 1000000 in
theorem walk (m a b : Int) (rule forced : Bool) (w : World) (w0 : (Lit.int .i64 m).wf = true) (w1 : (Lit.int .i32 a).wf = true) (w2 : (Lit.int .i32 b).wf = true) :
    Calls Try.prog 4 #[.int .i64 m, .int .i32 a, .int .i32 b, .bool rule, .bool forced] w fun e w' => e = .returned (.bool true) ∧ Below w.heap.size w w' := by
  clear w0 w1 w2
  have h1 := between_any m a 0 0 false false false false b 0 0 forced false false false rule
  have ht : btw m a false false forced false false false rule = if forced = true then 2 else if rule = true then 1 else if m = 3 ∧ a = 173 then 3 else -1 := by
    simp [btw, heldB]
  rw [ht] at h1
  clear ht
  have hr : ∀ k, k = (if forced = true then 2 else if rule = true then 1 else if m = 3 ∧ a = 173 then 3 else -1 : Int) → Hid (∀ w, Calls Try.prog 9 #[.int .i64 m, .agg #[.int .i32 a, .int .i64 0, .int .i64 0, .bool false, .bool false, .bool false, .bool false], .agg #[.int .i32 b, .int .i64 0, .int .i64 0, .bool forced, .bool false, .bool false, .bool false], .bool rule] w
      fun e w' => e = .returned (.int .i64 k) ∧ Below w.heap.size w w') := by
    intro k hk
    rw [hk]
    exact h1
  clear h1
  cases forced
  case true =>
    have H1 := hr 2 rfl
    clear hr
    go_enter Try.func4, Try.ntmps4
    go_wp2_with (first | (go_at_call 9; refine (H1.out _).mono ?_; rintro e w1 ⟨rfl, hb1⟩; have HB1 := Lib.hid hb1; clear hb1) | (go_at_call 12; refine (awake25_any _).mono ?_; rintro e w2 ⟨rfl, hb2⟩))
    go_ret
    exact ⟨rfl, HB1.out.trans (hb2.mono HB1.out.size)⟩
  case false =>
    cases rule
    case true =>
      have H1 := hr 1 rfl
      clear hr
      go_enter Try.func4, Try.ntmps4
      go_wp2_with (first | (go_at_call 9; refine (H1.out _).mono ?_; rintro e w1 ⟨rfl, hb1⟩; have HB1 := Lib.hid hb1; clear hb1) | (go_at_call 12; refine (awake25_any _).mono ?_; rintro e w2 ⟨rfl, hb2⟩))
      go_ret
      exact ⟨rfl, HB1.out.trans (hb2.mono HB1.out.size)⟩
    case false =>
      by_cases hm : m = 3
      · subst hm
        by_cases ha : a = 173
        · subst ha
          have H1 := hr 3 rfl
          clear hr
          go_enter Try.func4, Try.ntmps4
          go_wp2_with (first | (go_at_call 9; refine (H1.out _).mono ?_; rintro e w1 ⟨rfl, hb1⟩; have HB1 := Lib.hid hb1; clear hb1) | (go_at_call 12; refine (awake25_any _).mono ?_; rintro e w2 ⟨rfl, hb2⟩))
          go_ret
          exact ⟨rfl, HB1.out.trans (hb2.mono HB1.out.size)⟩
        · have H1 := hr (-1) (by simp [ha])
          have ha' : (a == 173) = false := by simpa using ha
          clear hr ha
          go_enter Try.func4, Try.ntmps4
          go_wp2_with (first | (go_at_call 9; refine (H1.out _).mono ?_; rintro e w1 ⟨rfl, hb1⟩; have HB1 := Lib.hid hb1; clear hb1) | (go_at_call 12; refine (awake25_any _).mono ?_; rintro e w2 ⟨rfl, hb2⟩))
          go_ret
          exact ⟨rfl, HB1.out.trans (hb2.mono HB1.out.size)⟩
      · have H1 := hr (-1) (by simp [hm])
        have hm' : (m == 3) = false := by simpa using hm
        clear hr hm
        go_enter Try.func4, Try.ntmps4
        go_wp2_with (first | (go_at_call 9; refine (H1.out _).mono ?_; rintro e w1 ⟨rfl, hb1⟩; have HB1 := Lib.hid hb1; clear hb1) | (go_at_call 12; refine (awake25_any _).mono ?_; rintro e w2 ⟨rfl, hb2⟩))
        go_ret
        exact ⟨rfl, HB1.out.trans (hb2.mono HB1.out.size)⟩
end Go.Proofs.Ytfhmeemkmdkhoaa.overlayPlain
