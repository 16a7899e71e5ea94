/- Chapter 18: what a byte is. -/
import Derived.WalkKit
import Derived.Test.YtpkbmgpbagdalaaProg
import Derived.Test.YtpkbmgpbagdalaaBase
namespace Go.Proofs.Ytpkbmgpbagdalaa
open Go.RowKit
open Go.Lib (hid)
set_option linter.unusedVariables false

def blankB (c : Int) : Bool := c == 9 || c == 10 || c == 12 || c == 13 || c == 32
def letterB (c : Int) : Bool := decide (65 ≤ c ∧ c ≤ 90) || decide (97 ≤ c ∧ c ≤ 122)
def digitB (c : Int) : Bool := decide (48 ≤ c ∧ c ≤ 57)

theorem blank_any (c : Int) (w : World) : Calls Try.prog 33 #[.int .u8 c] w fun e w' => e = .returned (.bool (blankB c)) ∧ w' = w := by
  unfold blankB
  by_cases h1 : c = 9
  · subst h1; go_enter Try.func33, Try.ntmps33; go_wp2; go_ret; exact ⟨rfl, rfl⟩
  by_cases h2 : c = 10
  · subst h2; go_enter Try.func33, Try.ntmps33; go_wp2; go_ret; exact ⟨rfl, rfl⟩
  by_cases h3 : c = 12
  · subst h3; go_enter Try.func33, Try.ntmps33; go_wp2; go_ret; exact ⟨rfl, rfl⟩
  by_cases h4 : c = 13
  · subst h4; go_enter Try.func33, Try.ntmps33; go_wp2; go_ret; exact ⟨rfl, rfl⟩
  by_cases h5 : c = 32
  · subst h5; go_enter Try.func33, Try.ntmps33; go_wp2; go_ret; exact ⟨rfl, rfl⟩
  have g1 : (c == 9) = false := by simpa using h1
  have g2 : (c == 10) = false := by simpa using h2
  have g3 : (c == 12) = false := by simpa using h3
  have g4 : (c == 13) = false := by simpa using h4
  have g5 : (c == 32) = false := by simpa using h5
  go_enter Try.func33, Try.ntmps33
  go_wp2
  go_ret
  exact ⟨ret_bool (by simp [h1, h2, h3, h4, h5]), rfl⟩

theorem refblank_any (c : Int) (w : World) : Calls Try.prog 35 #[.int .u8 c] w fun e w' => e = .returned (.bool (blankB c)) ∧ w' = w := by
  unfold blankB
  by_cases h1 : c = 9
  · subst h1; go_enter Try.func35, Try.ntmps35; go_wp2; go_ret; exact ⟨rfl, rfl⟩
  by_cases h2 : c = 10
  · subst h2; go_enter Try.func35, Try.ntmps35; go_wp2; go_ret; exact ⟨rfl, rfl⟩
  by_cases h3 : c = 12
  · subst h3; go_enter Try.func35, Try.ntmps35; go_wp2; go_ret; exact ⟨rfl, rfl⟩
  by_cases h4 : c = 13
  · subst h4; go_enter Try.func35, Try.ntmps35; go_wp2; go_ret; exact ⟨rfl, rfl⟩
  by_cases h5 : c = 32
  · subst h5; go_enter Try.func35, Try.ntmps35; go_wp2; go_ret; exact ⟨rfl, rfl⟩
  have g1 : (c == 9) = false := by simpa using h1
  have g2 : (c == 10) = false := by simpa using h2
  have g3 : (c == 12) = false := by simpa using h3
  have g4 : (c == 13) = false := by simpa using h4
  have g5 : (c == 32) = false := by simpa using h5
  go_enter Try.func35, Try.ntmps35
  go_wp2
  go_ret
  exact ⟨ret_bool (by simp [h1, h2, h3, h4, h5]), rfl⟩

theorem letter_any (c : Int) (w : World) : Calls Try.prog 19 #[.int .u8 c] w fun e w' => e = .returned (.bool (letterB c)) ∧ w' = w := by
  unfold letterB
  by_cases h1 : 65 ≤ c <;> by_cases h2 : c ≤ 90 <;> by_cases h3 : 97 ≤ c <;> by_cases h4 : c ≤ 122 <;>
    (first | omega | (go_enter Try.func19, Try.ntmps19; go_wp2; go_ret; exact ⟨ret_bool (by simp [h1, h2, h3, h4]), rfl⟩))
theorem refletter_any (c : Int) (w : World) : Calls Try.prog 22 #[.int .u8 c] w fun e w' => e = .returned (.bool (letterB c)) ∧ w' = w := by
  unfold letterB
  by_cases h1 : 65 ≤ c <;> by_cases h2 : c ≤ 90 <;> by_cases h3 : 97 ≤ c <;> by_cases h4 : c ≤ 122 <;>
    (first | omega | (go_enter Try.func22, Try.ntmps22; go_wp2; go_ret; exact ⟨ret_bool (by simp [h1, h2, h3, h4]), rfl⟩))
theorem digit_any (c : Int) (w : World) : Calls Try.prog 36 #[.int .u8 c] w fun e w' => e = .returned (.bool (digitB c)) ∧ w' = w := by
  unfold digitB
  by_cases h1 : 48 ≤ c <;> by_cases h2 : c ≤ 57 <;>
    (first | omega | (go_enter Try.func36, Try.ntmps36; go_wp2; go_ret; exact ⟨ret_bool (by simp [h1, h2]), rfl⟩))
end Go.Proofs.Ytpkbmgpbagdalaa
