/- Walks of overlay: ends, held, Between; of the document's Between; of the statements' To and awake. -/
import Derived.Test.YtfhmeemkmdkhoaaProg
import Derived.Test.YtfhmeemkmdkhoaaClass
import Derived.Test.YtfhmeemkmdkhoaaRefClass
namespace Go.Proofs.Ytfhmeemkmdkhoaa
open Go.RowKit
open Go.Lib

def endsB (r : Int) : Bool := cls r == 1 || cls r == 2 || cls r == 3
def heldB (ra : Int) (na pa nb pb : Bool) : Bool := na && nb || pa && pb && !endsB ra
def btw (m ra : Int) (na pa fb cb nb pb rule : Bool) : Int :=
  if fb = true then 2 else if m = 3 ∧ heldB ra na pa nb pb = true then -1 else if rule = true then 1 else if m = 3 ∧ (cb = true ∨ ra = 173) then 3 else -1

set_option maxHeartbeats 1000000 in
theorem ends_any (r : Int) (w : World) : Calls Try.prog 33 #[.int .i32 r] w fun e w' => e = .returned (.bool (endsB r)) ∧ Below w.heap.size w w' := by
  have h1 := class_any r
  have HE : Hid (endsB r = (cls r == 1 || cls r == 2 || cls r == 3)) := rfl
  generalize endsB r = E at *
  generalize cls r = c at *
  have H1 := Lib.hid h1
  clear h1
  by_cases c1 : c = 1
  · subst c1
    go_enter Try.func33, Try.ntmps33
    go_wp2_with (go_at_call 13; refine (H1.out _).mono ?_; rintro e w1 ⟨rfl, hb1⟩)
    go_ret
    exact ⟨ret_bool (by rw [HE.out]; rfl), by assumption⟩
  · have d1 : (c == 1) = false := by simpa using c1
    by_cases c2 : c = 2
    · subst c2
      go_enter Try.func33, Try.ntmps33
      go_wp2_with (go_at_call 13; refine (H1.out _).mono ?_; rintro e w1 ⟨rfl, hb1⟩)
      go_ret
      exact ⟨ret_bool (by rw [HE.out]; rfl), by assumption⟩
    · have d2 : (c == 2) = false := by simpa using c2
      have HD1 := Lib.hid d1
      have HD2 := Lib.hid d2
      go_enter Try.func33, Try.ntmps33
      go_wp2_with (go_at_call 13; refine (H1.out _).mono ?_; rintro e w1 ⟨rfl, hb1⟩)
      go_ret
      exact ⟨ret_bool (by rw [HE.out, HD1.out, HD2.out]; rfl), by assumption⟩

set_option maxHeartbeats 1000000 in
theorem held_any (ra aa sa : Int) (fa ca na pa : Bool) (rb ab sb : Int) (fb cb nb pb : Bool) (w : World) :
    Calls Try.prog 24 #[.agg #[.int .i32 ra, .int .i64 aa, .int .i64 sa, .bool fa, .bool ca, .bool na, .bool pa], .agg #[.int .i32 rb, .int .i64 ab, .int .i64 sb, .bool fb, .bool cb, .bool nb, .bool pb]] w
      fun e w' => e = .returned (.bool (heldB ra na pa nb pb)) ∧ Below w.heap.size w w' := by
  have HH : Hid (heldB ra na pa nb pb = (na && nb || pa && pb && !endsB ra)) := rfl
  generalize heldB ra na pa nb pb = E at *
  have h1 := ends_any ra
  generalize endsB ra = ee at *
  have H1 := Lib.hid h1
  clear h1
  have h2 : ∀ W1 W2 : World, Below ((w.heap.size + 1) + 1) W1 W2 → Below w.heap.size W1 W2 := fun _ _ h => h.mono (by omega)
  have H2 := Lib.hid h2
  clear h2
  cases na <;> cases nb <;> cases pa <;> cases pb
  all_goals
    go_enter Try.func24, Try.ntmps24
    go_wp2_with (go_at_call 33; refine (H1.out _).mono ?_; rintro e w1 ⟨rfl, hb1⟩)
    go_ret
    refine ⟨ret_bool (by rw [HH.out]; first | rfl | (cases ee <;> rfl)), ?_⟩
    first
      | exact ((Below.refl _ _).alloc (Nat.le_refl _) _).alloc (by simp) _
      | exact (((Below.refl _ _).alloc (Nat.le_refl _) _).alloc (by simp) _).trans ((by assumption : Below _ _ _).mono (by simp; omega))

set_option maxHeartbeats 4000000 in
theorem between_any (m : Int) (ra aa sa : Int) (fa ca na pa : Bool) (rb ab sb : Int) (fb cb nb pb : Bool) (rule : Bool) (w : World) :
    Calls Try.prog 9 #[.int .i64 m, .agg #[.int .i32 ra, .int .i64 aa, .int .i64 sa, .bool fa, .bool ca, .bool na, .bool pa], .agg #[.int .i32 rb, .int .i64 ab, .int .i64 sb, .bool fb, .bool cb, .bool nb, .bool pb], .bool rule] w
      fun e w' => e = .returned (.int .i64 (btw m ra na pa fb cb nb pb rule)) ∧ Below w.heap.size w w' := by
  have HT : Hid (btw m ra na pa fb cb nb pb rule = if fb = true then 2 else if m = 3 ∧ heldB ra na pa nb pb = true then -1 else if rule = true then 1 else if m = 3 ∧ (cb = true ∨ ra = 173) then 3 else -1) := rfl
  generalize btw m ra na pa fb cb nb pb rule = T at *
  have h1 := held_any ra aa sa fa ca na pa rb ab sb fb cb nb pb
  generalize heldB ra na pa nb pb = h at *
  have H1 := Lib.hid h1
  clear h1
  have hlast : ∀ W : World, Below w.heap.size w ((w.alloc (.cells #[.int .i32 ra, .int .i64 aa, .int .i64 sa, .bool fa, .bool ca, .bool na, .bool pa] 26)).alloc (.cells #[.int .i32 rb, .int .i64 ab, .int .i64 sb, .bool fb, .bool cb, .bool nb, .bool pb] 26)) :=
    fun _ => ((Below.refl _ _).alloc (Nat.le_refl _) _).alloc (by simp) _
  have HL := Lib.hid (hlast w)
  clear hlast
  cases fb
  case true =>
    go_enter Try.func9, Try.ntmps9
    go_wp2_with fail
    go_ret
    exact ⟨ret_int (by rw [HT.out]; rfl), HL.out⟩
  case false =>
    by_cases hm : m = 3
    · subst hm
      cases h
      case true =>
        go_enter Try.func9, Try.ntmps9
        go_wp2_with (go_at_call 24; refine (H1.out _).mono ?_; rintro e w1 ⟨rfl, hb1⟩)
        go_ret
        exact ⟨ret_int (by rw [HT.out]; rfl), HL.out.trans ((by assumption : Below _ _ _).mono (by simp; omega))⟩
      case false =>
        cases rule
        case true =>
          go_enter Try.func9, Try.ntmps9
          go_wp2_with (go_at_call 24; refine (H1.out _).mono ?_; rintro e w1 ⟨rfl, hb1⟩)
          go_ret
          exact ⟨ret_int (by rw [HT.out]; rfl), HL.out.trans ((by assumption : Below _ _ _).mono (by simp; omega))⟩
        case false =>
          cases cb
          case true =>
            go_enter Try.func9, Try.ntmps9
            go_wp2_with (go_at_call 24; refine (H1.out _).mono ?_; rintro e w1 ⟨rfl, hb1⟩; obtain ⟨hc1, _⟩ := bcell hb1)
            go_ret
            exact ⟨ret_int (by rw [HT.out]; rfl), HL.out.trans ((by assumption : Below _ _ _).mono (by simp; omega))⟩
          case false =>
            by_cases hr : ra = 173
            · subst hr
              go_enter Try.func9, Try.ntmps9
              go_wp2_with (go_at_call 24; refine (H1.out _).mono ?_; rintro e w1 ⟨rfl, hb1⟩; obtain ⟨hc1, _⟩ := bcell hb1)
              go_ret
              exact ⟨ret_int (by rw [HT.out]; rfl), HL.out.trans ((by assumption : Below _ _ _).mono (by simp; omega))⟩
            · have hr' : (ra == 173) = false := by simpa using hr
              have HR := Lib.hid hr
              clear hr
              go_enter Try.func9, Try.ntmps9
              go_wp2_with (go_at_call 24; refine (H1.out _).mono ?_; rintro e w1 ⟨rfl, hb1⟩; obtain ⟨hc1, _⟩ := bcell hb1)
              go_ret
              exact ⟨ret_int (by rw [HT.out]; simp [HR.out]), HL.out.trans ((by assumption : Below _ _ _).mono (by simp; omega))⟩
    · have hm' : (m == 3) = false := by simpa using hm
      have HM := Lib.hid hm
      clear hm
      cases rule
      all_goals
        go_enter Try.func9, Try.ntmps9
        go_wp2_with fail
        go_ret
        exact ⟨ret_int (by rw [HT.out]; simp [HM.out]), HL.out⟩
end Go.Proofs.Ytfhmeemkmdkhoaa
