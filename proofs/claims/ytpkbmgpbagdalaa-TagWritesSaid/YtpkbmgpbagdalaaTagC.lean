/- Chapter 18: the readers' tests. -/
import Derived.Test.YtpkbmgpbagdalaaTagB
namespace Go.Proofs.Ytpkbmgpbagdalaa
open Go.RowKit
open Go.Lib (hid)
set_option linter.unusedVariables false

def nameC (c : Int) : Bool := !blankB c && c != 47 && c != 62
def skipC (c : Int) : Bool := blankB c || c == 47
def attrC (c : Int) : Bool := !blankB c && c != 47 && c != 62 && c != 61
def valC (c : Int) : Bool := !blankB c && c != 62

theorem named1_any (c : Int) (w : World) : Calls Try.prog 32 #[.int .u8 c] w fun e w' => e = .returned (.bool (!blankB c && c != 47 && c != 62)) ∧ w' = w := by
  have hbl := blank_any c
  have HB := hid hbl
  clear hbl
  by_cases h47 : c = 47
  · subst h47; simp only [show blankB 47 = false from rfl] at HB ⊢; go_enter Try.func32, Try.ntmps32; go_wp2_with fail; refine (HB.out _).mono ?_; rintro e w1 ⟨rfl, rfl⟩; go_wp2_with fail; go_ret; exact ⟨rfl, rfl⟩
  have g47 : (c == 47) = false := by simpa using h47
  have n47 : (c != 47) = true := by simpa using h47
  by_cases h62 : c = 62
  · subst h62; simp only [show blankB 62 = false from rfl] at HB ⊢; go_enter Try.func32, Try.ntmps32; go_wp2_with fail; refine (HB.out _).mono ?_; rintro e w1 ⟨rfl, rfl⟩; go_wp2_with fail; go_ret; exact ⟨rfl, rfl⟩
  have g62 : (c == 62) = false := by simpa using h62
  have n62 : (c != 62) = true := by simpa using h62
  cases hb : blankB c
  all_goals
    rw [hb] at HB
    clear hb
    go_enter Try.func32, Try.ntmps32
    go_wp2_with fail
    refine (HB.out _).mono ?_
    rintro e w1 ⟨rfl, rfl⟩
    go_wp2_with fail
    go_ret
    exact ⟨ret_bool (by simp [h47, h62]), rfl⟩

theorem rest1_any (c : Int) (w : World) : Calls Try.prog 49 #[.int .u8 c] w fun e w' => e = .returned (.bool (blankB c || c == 47)) ∧ w' = w := by
  have hbl := blank_any c
  have HB := hid hbl
  clear hbl
  by_cases h47 : c = 47
  · subst h47; simp only [show blankB 47 = false from rfl] at HB ⊢; go_enter Try.func49, Try.ntmps49; go_wp2_with fail; refine (HB.out _).mono ?_; rintro e w1 ⟨rfl, rfl⟩; go_wp2_with fail; go_ret; exact ⟨rfl, rfl⟩
  have g47 : (c == 47) = false := by simpa using h47
  have n47 : (c != 47) = true := by simpa using h47
  cases hb : blankB c
  all_goals
    rw [hb] at HB
    clear hb
    go_enter Try.func49, Try.ntmps49
    go_wp2_with fail
    refine (HB.out _).mono ?_
    rintro e w1 ⟨rfl, rfl⟩
    go_wp2_with fail
    go_ret
    exact ⟨ret_bool (by simp [h47]), rfl⟩

theorem attr1_any (c : Int) (w : World) : Calls Try.prog 62 #[.int .u8 c] w fun e w' => e = .returned (.bool (!blankB c && c != 47 && c != 62 && c != 61)) ∧ w' = w := by
  have hbl := blank_any c
  have HB := hid hbl
  clear hbl
  by_cases h47 : c = 47
  · subst h47; simp only [show blankB 47 = false from rfl] at HB ⊢; go_enter Try.func62, Try.ntmps62; go_wp2_with fail; refine (HB.out _).mono ?_; rintro e w1 ⟨rfl, rfl⟩; go_wp2_with fail; go_ret; exact ⟨rfl, rfl⟩
  have g47 : (c == 47) = false := by simpa using h47
  have n47 : (c != 47) = true := by simpa using h47
  by_cases h62 : c = 62
  · subst h62; simp only [show blankB 62 = false from rfl] at HB ⊢; go_enter Try.func62, Try.ntmps62; go_wp2_with fail; refine (HB.out _).mono ?_; rintro e w1 ⟨rfl, rfl⟩; go_wp2_with fail; go_ret; exact ⟨rfl, rfl⟩
  have g62 : (c == 62) = false := by simpa using h62
  have n62 : (c != 62) = true := by simpa using h62
  by_cases h61 : c = 61
  · subst h61; simp only [show blankB 61 = false from rfl] at HB ⊢; go_enter Try.func62, Try.ntmps62; go_wp2_with fail; refine (HB.out _).mono ?_; rintro e w1 ⟨rfl, rfl⟩; go_wp2_with fail; go_ret; exact ⟨rfl, rfl⟩
  have g61 : (c == 61) = false := by simpa using h61
  have n61 : (c != 61) = true := by simpa using h61
  cases hb : blankB c
  all_goals
    rw [hb] at HB
    clear hb
    go_enter Try.func62, Try.ntmps62
    go_wp2_with fail
    refine (HB.out _).mono ?_
    rintro e w1 ⟨rfl, rfl⟩
    go_wp2_with fail
    go_ret
    exact ⟨ret_bool (by simp [h47, h62, h61]), rfl⟩

theorem value1_any (c : Int) (w : World) : Calls Try.prog 70 #[.int .u8 c] w fun e w' => e = .returned (.bool (!blankB c && c != 62)) ∧ w' = w := by
  have hbl := blank_any c
  have HB := hid hbl
  clear hbl
  by_cases h62 : c = 62
  · subst h62; simp only [show blankB 62 = false from rfl] at HB ⊢; go_enter Try.func70, Try.ntmps70; go_wp2_with fail; refine (HB.out _).mono ?_; rintro e w1 ⟨rfl, rfl⟩; go_wp2_with fail; go_ret; exact ⟨rfl, rfl⟩
  have g62 : (c == 62) = false := by simpa using h62
  have n62 : (c != 62) = true := by simpa using h62
  cases hb : blankB c
  all_goals
    rw [hb] at HB
    clear hb
    go_enter Try.func70, Try.ntmps70
    go_wp2_with fail
    refine (HB.out _).mono ?_
    rintro e w1 ⟨rfl, rfl⟩
    go_wp2_with fail
    go_ret
    exact ⟨ret_bool (by simp [h62]), rfl⟩

theorem quoted1_any (c q : Int) (g : Nat) (w : World) (h : w.cell? ⟨g, 0, none⟩ = some (.int .u8 q)) : Calls Try.prog 73 #[.int .u8 c, .pointer (some ⟨g, 0, none⟩)] w fun e w' => e = .returned (.bool (c != q)) ∧ w' = w := by
  go_enter Try.func73, Try.ntmps73
  go_wp2
  go_ret
  exact ⟨rfl, rfl⟩
end Go.Proofs.Ytpkbmgpbagdalaa
