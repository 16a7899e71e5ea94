/- Walks of the document's Between. -/
import Derived.Test.YtfhmeemkmdkhoaaProg
import Derived.Test.YtfhmeemkmdkhoaaOverlay
namespace Go.Proofs.Ytfhmeemkmdkhoaa
open Go.RowKit
open Go.Lib

def refHeld (c : Int) (na pa nb pb : Bool) : Bool := na && nb || pa && pb && !(c == 1 || c == 2 || c == 3)
def refBtw (m ra c : Int) (na pa fb cb nb pb rule : Bool) : Int :=
  if fb = true then 2 else if m = 3 ∧ refHeld c na pa nb pb = true then -1 else if rule = true then 1 else if m = 3 ∧ (cb = true ∨ ra = 173) then 3 else -1
theorem btw_eq (m ra : Int) (na pa fb cb nb pb rule : Bool) : btw m ra na pa fb cb nb pb rule = refBtw m ra (cls ra) na pa fb cb nb pb rule := rfl

set_option maxHeartbeats 4000000 in
theorem refb_a (c : Int) (ra aa sa : Int) (fa ca : Bool) (rb ab sb : Int) (cb : Bool) (pa : Bool) (pb : Bool) (rule : Bool) (w : World) (H1 : Hid (∀ w, Calls Try.prog 14 #[.int .i32 ra] w fun e w' => e = .returned (.int .i64 c) ∧ Below w.heap.size w w')) :
    Calls Try.prog 11 #[.int .i64 3, .agg #[.int .i32 ra, .int .i64 aa, .int .i64 sa, .bool fa, .bool ca, .bool true, .bool pa], .agg #[.int .i32 rb, .int .i64 ab, .int .i64 sb, .bool false, .bool cb, .bool true, .bool pb], .bool rule] w
      fun e w' => e = .returned (.int .i64 (refBtw 3 ra c true pa false cb true pb rule)) ∧ Below w.heap.size w w' := by
  have HL : Hid (Below w.heap.size w ((w.alloc (.cells #[.int .i32 ra, .int .i64 aa, .int .i64 sa, .bool fa, .bool ca, .bool true, .bool pa] 23)).alloc (.cells #[.int .i32 rb, .int .i64 ab, .int .i64 sb, .bool false, .bool cb, .bool true, .bool pb] 23))) := ((Below.refl _ _).alloc (Nat.le_refl _) _).alloc (by simp) _
  have HT : Hid (refBtw 3 ra c true pa false cb true pb rule = if false = true then 2 else if (3 : Int) = 3 ∧ refHeld c true pa true pb = true then -1 else if rule = true then 1 else if (3 : Int) = 3 ∧ (cb = true ∨ ra = 173) then 3 else -1) := rfl
  generalize refBtw 3 ra c true pa false cb true pb rule = T at *
  have hx : refHeld c true pa true pb = true := by simp [refHeld]
  have HX := Lib.hid hx
  clear hx
  cases cb
  all_goals
    by_cases hr : ra = 173
    case' pos => subst hr
    case' neg =>
      have hr' : (ra == 173) = false := by simpa using hr
      have HR := Lib.hid hr
      clear hr
    all_goals
      cases rule
      all_goals
        go_enter Try.func11, Try.ntmps11
        go_wp2_with (go_at_call 14; refine (H1.out _).mono ?_; rintro e w1 ⟨rfl, hb1⟩; obtain ⟨hc1, _⟩ := bcell hb1)
        go_ret
        refine ⟨ret_int ?_, HL.out.trans ((by assumption : Below _ _ _).mono (by simp; omega))⟩
        rw [HT.out, HX.out]
        first | rfl | (simp [HR.out]; done)

set_option maxHeartbeats 4000000 in
theorem refb_b1 (c : Int) (ra aa sa : Int) (fa ca : Bool) (rb ab sb : Int) (cb : Bool) (nb : Bool) (pb : Bool) (rule : Bool) (w : World) (H1 : Hid (∀ w, Calls Try.prog 14 #[.int .i32 ra] w fun e w' => e = .returned (.int .i64 c) ∧ Below w.heap.size w w')) :
    Calls Try.prog 11 #[.int .i64 3, .agg #[.int .i32 ra, .int .i64 aa, .int .i64 sa, .bool fa, .bool ca, .bool false, .bool false], .agg #[.int .i32 rb, .int .i64 ab, .int .i64 sb, .bool false, .bool cb, .bool nb, .bool pb], .bool rule] w
      fun e w' => e = .returned (.int .i64 (refBtw 3 ra c false false false cb nb pb rule)) ∧ Below w.heap.size w w' := by
  have HL : Hid (Below w.heap.size w ((w.alloc (.cells #[.int .i32 ra, .int .i64 aa, .int .i64 sa, .bool fa, .bool ca, .bool false, .bool false] 23)).alloc (.cells #[.int .i32 rb, .int .i64 ab, .int .i64 sb, .bool false, .bool cb, .bool nb, .bool pb] 23))) := ((Below.refl _ _).alloc (Nat.le_refl _) _).alloc (by simp) _
  have HT : Hid (refBtw 3 ra c false false false cb nb pb rule = if false = true then 2 else if (3 : Int) = 3 ∧ refHeld c false false nb pb = true then -1 else if rule = true then 1 else if (3 : Int) = 3 ∧ (cb = true ∨ ra = 173) then 3 else -1) := rfl
  generalize refBtw 3 ra c false false false cb nb pb rule = T at *
  have hx : refHeld c false false nb pb = false := by simp [refHeld]
  have HX := Lib.hid hx
  clear hx
  cases cb
  all_goals
    by_cases hr : ra = 173
    case' pos => subst hr
    case' neg =>
      have hr' : (ra == 173) = false := by simpa using hr
      have HR := Lib.hid hr
      clear hr
    all_goals
      cases rule
      all_goals
        go_enter Try.func11, Try.ntmps11
        go_wp2_with (go_at_call 14; refine (H1.out _).mono ?_; rintro e w1 ⟨rfl, hb1⟩; obtain ⟨hc1, _⟩ := bcell hb1)
        go_ret
        refine ⟨ret_int ?_, HL.out.trans ((by assumption : Below _ _ _).mono (by simp; omega))⟩
        rw [HT.out, HX.out]
        first | rfl | (simp [HR.out]; done)

set_option maxHeartbeats 4000000 in
theorem refb_b2 (c : Int) (ra aa sa : Int) (fa ca : Bool) (rb ab sb : Int) (cb : Bool) (nb : Bool) (rule : Bool) (w : World) (H1 : Hid (∀ w, Calls Try.prog 14 #[.int .i32 ra] w fun e w' => e = .returned (.int .i64 c) ∧ Below w.heap.size w w')) :
    Calls Try.prog 11 #[.int .i64 3, .agg #[.int .i32 ra, .int .i64 aa, .int .i64 sa, .bool fa, .bool ca, .bool false, .bool true], .agg #[.int .i32 rb, .int .i64 ab, .int .i64 sb, .bool false, .bool cb, .bool nb, .bool false], .bool rule] w
      fun e w' => e = .returned (.int .i64 (refBtw 3 ra c false true false cb nb false rule)) ∧ Below w.heap.size w w' := by
  have HL : Hid (Below w.heap.size w ((w.alloc (.cells #[.int .i32 ra, .int .i64 aa, .int .i64 sa, .bool fa, .bool ca, .bool false, .bool true] 23)).alloc (.cells #[.int .i32 rb, .int .i64 ab, .int .i64 sb, .bool false, .bool cb, .bool nb, .bool false] 23))) := ((Below.refl _ _).alloc (Nat.le_refl _) _).alloc (by simp) _
  have HT : Hid (refBtw 3 ra c false true false cb nb false rule = if false = true then 2 else if (3 : Int) = 3 ∧ refHeld c false true nb false = true then -1 else if rule = true then 1 else if (3 : Int) = 3 ∧ (cb = true ∨ ra = 173) then 3 else -1) := rfl
  generalize refBtw 3 ra c false true false cb nb false rule = T at *
  have hx : refHeld c false true nb false = false := by simp [refHeld]
  have HX := Lib.hid hx
  clear hx
  cases cb
  all_goals
    by_cases hr : ra = 173
    case' pos => subst hr
    case' neg =>
      have hr' : (ra == 173) = false := by simpa using hr
      have HR := Lib.hid hr
      clear hr
    all_goals
      cases rule
      all_goals
        go_enter Try.func11, Try.ntmps11
        go_wp2_with (go_at_call 14; refine (H1.out _).mono ?_; rintro e w1 ⟨rfl, hb1⟩; obtain ⟨hc1, _⟩ := bcell hb1)
        go_ret
        refine ⟨ret_int ?_, HL.out.trans ((by assumption : Below _ _ _).mono (by simp; omega))⟩
        rw [HT.out, HX.out]
        first | rfl | (simp [HR.out]; done)

set_option maxHeartbeats 4000000 in
theorem refb_b3_1 (ra aa sa : Int) (fa ca : Bool) (rb ab sb : Int) (cb : Bool) (nb : Bool) (rule : Bool) (w : World) (H1 : Hid (∀ w, Calls Try.prog 14 #[.int .i32 ra] w fun e w' => e = .returned (.int .i64 1) ∧ Below w.heap.size w w')) :
    Calls Try.prog 11 #[.int .i64 3, .agg #[.int .i32 ra, .int .i64 aa, .int .i64 sa, .bool fa, .bool ca, .bool false, .bool true], .agg #[.int .i32 rb, .int .i64 ab, .int .i64 sb, .bool false, .bool cb, .bool nb, .bool true], .bool rule] w
      fun e w' => e = .returned (.int .i64 (refBtw 3 ra 1 false true false cb nb true rule)) ∧ Below w.heap.size w w' := by
  have HL : Hid (Below w.heap.size w ((w.alloc (.cells #[.int .i32 ra, .int .i64 aa, .int .i64 sa, .bool fa, .bool ca, .bool false, .bool true] 23)).alloc (.cells #[.int .i32 rb, .int .i64 ab, .int .i64 sb, .bool false, .bool cb, .bool nb, .bool true] 23))) := ((Below.refl _ _).alloc (Nat.le_refl _) _).alloc (by simp) _
  have HT : Hid (refBtw 3 ra 1 false true false cb nb true rule = if false = true then 2 else if (3 : Int) = 3 ∧ refHeld 1 false true nb true = true then -1 else if rule = true then 1 else if (3 : Int) = 3 ∧ (cb = true ∨ ra = 173) then 3 else -1) := rfl
  generalize refBtw 3 ra 1 false true false cb nb true rule = T at *
  have hx : refHeld 1 false true nb true = false := by simp [refHeld]
  have HX := Lib.hid hx
  clear hx
  cases cb
  all_goals
    by_cases hr : ra = 173
    case' pos => subst hr
    case' neg =>
      have hr' : (ra == 173) = false := by simpa using hr
      have HR := Lib.hid hr
      clear hr
    all_goals
      cases rule
      all_goals
        go_enter Try.func11, Try.ntmps11
        go_wp2_with (go_at_call 14; refine (H1.out _).mono ?_; rintro e w1 ⟨rfl, hb1⟩; obtain ⟨hc1, _⟩ := bcell hb1)
        go_ret
        refine ⟨ret_int ?_, HL.out.trans ((by assumption : Below _ _ _).mono (by simp; omega))⟩
        rw [HT.out, HX.out]
        first | rfl | (simp [HR.out]; done)

set_option maxHeartbeats 4000000 in
theorem refb_b3_2 (ra aa sa : Int) (fa ca : Bool) (rb ab sb : Int) (cb : Bool) (nb : Bool) (rule : Bool) (w : World) (H1 : Hid (∀ w, Calls Try.prog 14 #[.int .i32 ra] w fun e w' => e = .returned (.int .i64 2) ∧ Below w.heap.size w w')) :
    Calls Try.prog 11 #[.int .i64 3, .agg #[.int .i32 ra, .int .i64 aa, .int .i64 sa, .bool fa, .bool ca, .bool false, .bool true], .agg #[.int .i32 rb, .int .i64 ab, .int .i64 sb, .bool false, .bool cb, .bool nb, .bool true], .bool rule] w
      fun e w' => e = .returned (.int .i64 (refBtw 3 ra 2 false true false cb nb true rule)) ∧ Below w.heap.size w w' := by
  have HL : Hid (Below w.heap.size w ((w.alloc (.cells #[.int .i32 ra, .int .i64 aa, .int .i64 sa, .bool fa, .bool ca, .bool false, .bool true] 23)).alloc (.cells #[.int .i32 rb, .int .i64 ab, .int .i64 sb, .bool false, .bool cb, .bool nb, .bool true] 23))) := ((Below.refl _ _).alloc (Nat.le_refl _) _).alloc (by simp) _
  have HT : Hid (refBtw 3 ra 2 false true false cb nb true rule = if false = true then 2 else if (3 : Int) = 3 ∧ refHeld 2 false true nb true = true then -1 else if rule = true then 1 else if (3 : Int) = 3 ∧ (cb = true ∨ ra = 173) then 3 else -1) := rfl
  generalize refBtw 3 ra 2 false true false cb nb true rule = T at *
  have hx : refHeld 2 false true nb true = false := by simp [refHeld]
  have HX := Lib.hid hx
  clear hx
  cases cb
  all_goals
    by_cases hr : ra = 173
    case' pos => subst hr
    case' neg =>
      have hr' : (ra == 173) = false := by simpa using hr
      have HR := Lib.hid hr
      clear hr
    all_goals
      cases rule
      all_goals
        go_enter Try.func11, Try.ntmps11
        go_wp2_with (go_at_call 14; refine (H1.out _).mono ?_; rintro e w1 ⟨rfl, hb1⟩; obtain ⟨hc1, _⟩ := bcell hb1)
        go_ret
        refine ⟨ret_int ?_, HL.out.trans ((by assumption : Below _ _ _).mono (by simp; omega))⟩
        rw [HT.out, HX.out]
        first | rfl | (simp [HR.out]; done)

set_option maxHeartbeats 4000000 in
theorem refb_b3_3 (ra aa sa : Int) (fa ca : Bool) (rb ab sb : Int) (cb : Bool) (nb : Bool) (rule : Bool) (w : World) (H1 : Hid (∀ w, Calls Try.prog 14 #[.int .i32 ra] w fun e w' => e = .returned (.int .i64 3) ∧ Below w.heap.size w w')) :
    Calls Try.prog 11 #[.int .i64 3, .agg #[.int .i32 ra, .int .i64 aa, .int .i64 sa, .bool fa, .bool ca, .bool false, .bool true], .agg #[.int .i32 rb, .int .i64 ab, .int .i64 sb, .bool false, .bool cb, .bool nb, .bool true], .bool rule] w
      fun e w' => e = .returned (.int .i64 (refBtw 3 ra 3 false true false cb nb true rule)) ∧ Below w.heap.size w w' := by
  have HL : Hid (Below w.heap.size w ((w.alloc (.cells #[.int .i32 ra, .int .i64 aa, .int .i64 sa, .bool fa, .bool ca, .bool false, .bool true] 23)).alloc (.cells #[.int .i32 rb, .int .i64 ab, .int .i64 sb, .bool false, .bool cb, .bool nb, .bool true] 23))) := ((Below.refl _ _).alloc (Nat.le_refl _) _).alloc (by simp) _
  have HT : Hid (refBtw 3 ra 3 false true false cb nb true rule = if false = true then 2 else if (3 : Int) = 3 ∧ refHeld 3 false true nb true = true then -1 else if rule = true then 1 else if (3 : Int) = 3 ∧ (cb = true ∨ ra = 173) then 3 else -1) := rfl
  generalize refBtw 3 ra 3 false true false cb nb true rule = T at *
  have hx : refHeld 3 false true nb true = false := by simp [refHeld]
  have HX := Lib.hid hx
  clear hx
  cases cb
  all_goals
    by_cases hr : ra = 173
    case' pos => subst hr
    case' neg =>
      have hr' : (ra == 173) = false := by simpa using hr
      have HR := Lib.hid hr
      clear hr
    all_goals
      cases rule
      all_goals
        go_enter Try.func11, Try.ntmps11
        go_wp2_with (go_at_call 14; refine (H1.out _).mono ?_; rintro e w1 ⟨rfl, hb1⟩; obtain ⟨hc1, _⟩ := bcell hb1)
        go_ret
        refine ⟨ret_int ?_, HL.out.trans ((by assumption : Below _ _ _).mono (by simp; omega))⟩
        rw [HT.out, HX.out]
        first | rfl | (simp [HR.out]; done)

set_option maxHeartbeats 4000000 in
theorem refb_b4 (c : Int) (ra aa sa : Int) (fa ca : Bool) (rb ab sb : Int) (cb : Bool) (nb : Bool) (rule : Bool) (w : World) (H1 : Hid (∀ w, Calls Try.prog 14 #[.int .i32 ra] w fun e w' => e = .returned (.int .i64 c) ∧ Below w.heap.size w w')) (h1 : (c == 1) = false) (h2 : (c == 2) = false) (h3 : (c == 3) = false) (g1 : (c != 1) = true) (g2 : (c != 2) = true) (g3 : (c != 3) = true) :
    Calls Try.prog 11 #[.int .i64 3, .agg #[.int .i32 ra, .int .i64 aa, .int .i64 sa, .bool fa, .bool ca, .bool false, .bool true], .agg #[.int .i32 rb, .int .i64 ab, .int .i64 sb, .bool false, .bool cb, .bool nb, .bool true], .bool rule] w
      fun e w' => e = .returned (.int .i64 (refBtw 3 ra c false true false cb nb true rule)) ∧ Below w.heap.size w w' := by
  have HL : Hid (Below w.heap.size w ((w.alloc (.cells #[.int .i32 ra, .int .i64 aa, .int .i64 sa, .bool fa, .bool ca, .bool false, .bool true] 23)).alloc (.cells #[.int .i32 rb, .int .i64 ab, .int .i64 sb, .bool false, .bool cb, .bool nb, .bool true] 23))) := ((Below.refl _ _).alloc (Nat.le_refl _) _).alloc (by simp) _
  have HT : Hid (refBtw 3 ra c false true false cb nb true rule = if false = true then 2 else if (3 : Int) = 3 ∧ refHeld c false true nb true = true then -1 else if rule = true then 1 else if (3 : Int) = 3 ∧ (cb = true ∨ ra = 173) then 3 else -1) := rfl
  generalize refBtw 3 ra c false true false cb nb true rule = T at *
  have hx : refHeld c false true nb true = true := by simp [refHeld, h1, h2, h3]
  have HX := Lib.hid hx
  clear hx
  cases cb
  all_goals
    by_cases hr : ra = 173
    case' pos => subst hr
    case' neg =>
      have hr' : (ra == 173) = false := by simpa using hr
      have HR := Lib.hid hr
      clear hr
    all_goals
      cases rule
      all_goals
        go_enter Try.func11, Try.ntmps11
        go_wp2_with (go_at_call 14; refine (H1.out _).mono ?_; rintro e w1 ⟨rfl, hb1⟩; obtain ⟨hc1, _⟩ := bcell hb1)
        go_ret
        refine ⟨ret_int ?_, HL.out.trans ((by assumption : Below _ _ _).mono (by simp; omega))⟩
        rw [HT.out, HX.out]
        first | rfl | (simp [HR.out]; done)

set_option maxHeartbeats 4000000 in
theorem refb_c1 (c : Int) (ra aa sa : Int) (fa ca : Bool) (rb ab sb : Int) (cb : Bool) (pb : Bool) (rule : Bool) (w : World) (H1 : Hid (∀ w, Calls Try.prog 14 #[.int .i32 ra] w fun e w' => e = .returned (.int .i64 c) ∧ Below w.heap.size w w')) :
    Calls Try.prog 11 #[.int .i64 3, .agg #[.int .i32 ra, .int .i64 aa, .int .i64 sa, .bool fa, .bool ca, .bool true, .bool false], .agg #[.int .i32 rb, .int .i64 ab, .int .i64 sb, .bool false, .bool cb, .bool false, .bool pb], .bool rule] w
      fun e w' => e = .returned (.int .i64 (refBtw 3 ra c true false false cb false pb rule)) ∧ Below w.heap.size w w' := by
  have HL : Hid (Below w.heap.size w ((w.alloc (.cells #[.int .i32 ra, .int .i64 aa, .int .i64 sa, .bool fa, .bool ca, .bool true, .bool false] 23)).alloc (.cells #[.int .i32 rb, .int .i64 ab, .int .i64 sb, .bool false, .bool cb, .bool false, .bool pb] 23))) := ((Below.refl _ _).alloc (Nat.le_refl _) _).alloc (by simp) _
  have HT : Hid (refBtw 3 ra c true false false cb false pb rule = if false = true then 2 else if (3 : Int) = 3 ∧ refHeld c true false false pb = true then -1 else if rule = true then 1 else if (3 : Int) = 3 ∧ (cb = true ∨ ra = 173) then 3 else -1) := rfl
  generalize refBtw 3 ra c true false false cb false pb rule = T at *
  have hx : refHeld c true false false pb = false := by simp [refHeld]
  have HX := Lib.hid hx
  clear hx
  cases cb
  all_goals
    by_cases hr : ra = 173
    case' pos => subst hr
    case' neg =>
      have hr' : (ra == 173) = false := by simpa using hr
      have HR := Lib.hid hr
      clear hr
    all_goals
      cases rule
      all_goals
        go_enter Try.func11, Try.ntmps11
        go_wp2_with (go_at_call 14; refine (H1.out _).mono ?_; rintro e w1 ⟨rfl, hb1⟩; obtain ⟨hc1, _⟩ := bcell hb1)
        go_ret
        refine ⟨ret_int ?_, HL.out.trans ((by assumption : Below _ _ _).mono (by simp; omega))⟩
        rw [HT.out, HX.out]
        first | rfl | (simp [HR.out]; done)

set_option maxHeartbeats 4000000 in
theorem refb_c2 (c : Int) (ra aa sa : Int) (fa ca : Bool) (rb ab sb : Int) (cb : Bool)  (rule : Bool) (w : World) (H1 : Hid (∀ w, Calls Try.prog 14 #[.int .i32 ra] w fun e w' => e = .returned (.int .i64 c) ∧ Below w.heap.size w w')) :
    Calls Try.prog 11 #[.int .i64 3, .agg #[.int .i32 ra, .int .i64 aa, .int .i64 sa, .bool fa, .bool ca, .bool true, .bool true], .agg #[.int .i32 rb, .int .i64 ab, .int .i64 sb, .bool false, .bool cb, .bool false, .bool false], .bool rule] w
      fun e w' => e = .returned (.int .i64 (refBtw 3 ra c true true false cb false false rule)) ∧ Below w.heap.size w w' := by
  have HL : Hid (Below w.heap.size w ((w.alloc (.cells #[.int .i32 ra, .int .i64 aa, .int .i64 sa, .bool fa, .bool ca, .bool true, .bool true] 23)).alloc (.cells #[.int .i32 rb, .int .i64 ab, .int .i64 sb, .bool false, .bool cb, .bool false, .bool false] 23))) := ((Below.refl _ _).alloc (Nat.le_refl _) _).alloc (by simp) _
  have HT : Hid (refBtw 3 ra c true true false cb false false rule = if false = true then 2 else if (3 : Int) = 3 ∧ refHeld c true true false false = true then -1 else if rule = true then 1 else if (3 : Int) = 3 ∧ (cb = true ∨ ra = 173) then 3 else -1) := rfl
  generalize refBtw 3 ra c true true false cb false false rule = T at *
  have hx : refHeld c true true false false = false := by simp [refHeld]
  have HX := Lib.hid hx
  clear hx
  cases cb
  all_goals
    by_cases hr : ra = 173
    case' pos => subst hr
    case' neg =>
      have hr' : (ra == 173) = false := by simpa using hr
      have HR := Lib.hid hr
      clear hr
    all_goals
      cases rule
      all_goals
        go_enter Try.func11, Try.ntmps11
        go_wp2_with (go_at_call 14; refine (H1.out _).mono ?_; rintro e w1 ⟨rfl, hb1⟩; obtain ⟨hc1, _⟩ := bcell hb1)
        go_ret
        refine ⟨ret_int ?_, HL.out.trans ((by assumption : Below _ _ _).mono (by simp; omega))⟩
        rw [HT.out, HX.out]
        first | rfl | (simp [HR.out]; done)

set_option maxHeartbeats 4000000 in
theorem refb_c3_1 (ra aa sa : Int) (fa ca : Bool) (rb ab sb : Int) (cb : Bool)  (rule : Bool) (w : World) (H1 : Hid (∀ w, Calls Try.prog 14 #[.int .i32 ra] w fun e w' => e = .returned (.int .i64 1) ∧ Below w.heap.size w w')) :
    Calls Try.prog 11 #[.int .i64 3, .agg #[.int .i32 ra, .int .i64 aa, .int .i64 sa, .bool fa, .bool ca, .bool true, .bool true], .agg #[.int .i32 rb, .int .i64 ab, .int .i64 sb, .bool false, .bool cb, .bool false, .bool true], .bool rule] w
      fun e w' => e = .returned (.int .i64 (refBtw 3 ra 1 true true false cb false true rule)) ∧ Below w.heap.size w w' := by
  have HL : Hid (Below w.heap.size w ((w.alloc (.cells #[.int .i32 ra, .int .i64 aa, .int .i64 sa, .bool fa, .bool ca, .bool true, .bool true] 23)).alloc (.cells #[.int .i32 rb, .int .i64 ab, .int .i64 sb, .bool false, .bool cb, .bool false, .bool true] 23))) := ((Below.refl _ _).alloc (Nat.le_refl _) _).alloc (by simp) _
  have HT : Hid (refBtw 3 ra 1 true true false cb false true rule = if false = true then 2 else if (3 : Int) = 3 ∧ refHeld 1 true true false true = true then -1 else if rule = true then 1 else if (3 : Int) = 3 ∧ (cb = true ∨ ra = 173) then 3 else -1) := rfl
  generalize refBtw 3 ra 1 true true false cb false true rule = T at *
  have hx : refHeld 1 true true false true = false := by simp [refHeld]
  have HX := Lib.hid hx
  clear hx
  cases cb
  all_goals
    by_cases hr : ra = 173
    case' pos => subst hr
    case' neg =>
      have hr' : (ra == 173) = false := by simpa using hr
      have HR := Lib.hid hr
      clear hr
    all_goals
      cases rule
      all_goals
        go_enter Try.func11, Try.ntmps11
        go_wp2_with (go_at_call 14; refine (H1.out _).mono ?_; rintro e w1 ⟨rfl, hb1⟩; obtain ⟨hc1, _⟩ := bcell hb1)
        go_ret
        refine ⟨ret_int ?_, HL.out.trans ((by assumption : Below _ _ _).mono (by simp; omega))⟩
        rw [HT.out, HX.out]
        first | rfl | (simp [HR.out]; done)

set_option maxHeartbeats 4000000 in
theorem refb_c3_2 (ra aa sa : Int) (fa ca : Bool) (rb ab sb : Int) (cb : Bool)  (rule : Bool) (w : World) (H1 : Hid (∀ w, Calls Try.prog 14 #[.int .i32 ra] w fun e w' => e = .returned (.int .i64 2) ∧ Below w.heap.size w w')) :
    Calls Try.prog 11 #[.int .i64 3, .agg #[.int .i32 ra, .int .i64 aa, .int .i64 sa, .bool fa, .bool ca, .bool true, .bool true], .agg #[.int .i32 rb, .int .i64 ab, .int .i64 sb, .bool false, .bool cb, .bool false, .bool true], .bool rule] w
      fun e w' => e = .returned (.int .i64 (refBtw 3 ra 2 true true false cb false true rule)) ∧ Below w.heap.size w w' := by
  have HL : Hid (Below w.heap.size w ((w.alloc (.cells #[.int .i32 ra, .int .i64 aa, .int .i64 sa, .bool fa, .bool ca, .bool true, .bool true] 23)).alloc (.cells #[.int .i32 rb, .int .i64 ab, .int .i64 sb, .bool false, .bool cb, .bool false, .bool true] 23))) := ((Below.refl _ _).alloc (Nat.le_refl _) _).alloc (by simp) _
  have HT : Hid (refBtw 3 ra 2 true true false cb false true rule = if false = true then 2 else if (3 : Int) = 3 ∧ refHeld 2 true true false true = true then -1 else if rule = true then 1 else if (3 : Int) = 3 ∧ (cb = true ∨ ra = 173) then 3 else -1) := rfl
  generalize refBtw 3 ra 2 true true false cb false true rule = T at *
  have hx : refHeld 2 true true false true = false := by simp [refHeld]
  have HX := Lib.hid hx
  clear hx
  cases cb
  all_goals
    by_cases hr : ra = 173
    case' pos => subst hr
    case' neg =>
      have hr' : (ra == 173) = false := by simpa using hr
      have HR := Lib.hid hr
      clear hr
    all_goals
      cases rule
      all_goals
        go_enter Try.func11, Try.ntmps11
        go_wp2_with (go_at_call 14; refine (H1.out _).mono ?_; rintro e w1 ⟨rfl, hb1⟩; obtain ⟨hc1, _⟩ := bcell hb1)
        go_ret
        refine ⟨ret_int ?_, HL.out.trans ((by assumption : Below _ _ _).mono (by simp; omega))⟩
        rw [HT.out, HX.out]
        first | rfl | (simp [HR.out]; done)

set_option maxHeartbeats 4000000 in
theorem refb_c3_3 (ra aa sa : Int) (fa ca : Bool) (rb ab sb : Int) (cb : Bool)  (rule : Bool) (w : World) (H1 : Hid (∀ w, Calls Try.prog 14 #[.int .i32 ra] w fun e w' => e = .returned (.int .i64 3) ∧ Below w.heap.size w w')) :
    Calls Try.prog 11 #[.int .i64 3, .agg #[.int .i32 ra, .int .i64 aa, .int .i64 sa, .bool fa, .bool ca, .bool true, .bool true], .agg #[.int .i32 rb, .int .i64 ab, .int .i64 sb, .bool false, .bool cb, .bool false, .bool true], .bool rule] w
      fun e w' => e = .returned (.int .i64 (refBtw 3 ra 3 true true false cb false true rule)) ∧ Below w.heap.size w w' := by
  have HL : Hid (Below w.heap.size w ((w.alloc (.cells #[.int .i32 ra, .int .i64 aa, .int .i64 sa, .bool fa, .bool ca, .bool true, .bool true] 23)).alloc (.cells #[.int .i32 rb, .int .i64 ab, .int .i64 sb, .bool false, .bool cb, .bool false, .bool true] 23))) := ((Below.refl _ _).alloc (Nat.le_refl _) _).alloc (by simp) _
  have HT : Hid (refBtw 3 ra 3 true true false cb false true rule = if false = true then 2 else if (3 : Int) = 3 ∧ refHeld 3 true true false true = true then -1 else if rule = true then 1 else if (3 : Int) = 3 ∧ (cb = true ∨ ra = 173) then 3 else -1) := rfl
  generalize refBtw 3 ra 3 true true false cb false true rule = T at *
  have hx : refHeld 3 true true false true = false := by simp [refHeld]
  have HX := Lib.hid hx
  clear hx
  cases cb
  all_goals
    by_cases hr : ra = 173
    case' pos => subst hr
    case' neg =>
      have hr' : (ra == 173) = false := by simpa using hr
      have HR := Lib.hid hr
      clear hr
    all_goals
      cases rule
      all_goals
        go_enter Try.func11, Try.ntmps11
        go_wp2_with (go_at_call 14; refine (H1.out _).mono ?_; rintro e w1 ⟨rfl, hb1⟩; obtain ⟨hc1, _⟩ := bcell hb1)
        go_ret
        refine ⟨ret_int ?_, HL.out.trans ((by assumption : Below _ _ _).mono (by simp; omega))⟩
        rw [HT.out, HX.out]
        first | rfl | (simp [HR.out]; done)

set_option maxHeartbeats 4000000 in
theorem refb_c4 (c : Int) (ra aa sa : Int) (fa ca : Bool) (rb ab sb : Int) (cb : Bool)  (rule : Bool) (w : World) (H1 : Hid (∀ w, Calls Try.prog 14 #[.int .i32 ra] w fun e w' => e = .returned (.int .i64 c) ∧ Below w.heap.size w w')) (h1 : (c == 1) = false) (h2 : (c == 2) = false) (h3 : (c == 3) = false) (g1 : (c != 1) = true) (g2 : (c != 2) = true) (g3 : (c != 3) = true) :
    Calls Try.prog 11 #[.int .i64 3, .agg #[.int .i32 ra, .int .i64 aa, .int .i64 sa, .bool fa, .bool ca, .bool true, .bool true], .agg #[.int .i32 rb, .int .i64 ab, .int .i64 sb, .bool false, .bool cb, .bool false, .bool true], .bool rule] w
      fun e w' => e = .returned (.int .i64 (refBtw 3 ra c true true false cb false true rule)) ∧ Below w.heap.size w w' := by
  have HL : Hid (Below w.heap.size w ((w.alloc (.cells #[.int .i32 ra, .int .i64 aa, .int .i64 sa, .bool fa, .bool ca, .bool true, .bool true] 23)).alloc (.cells #[.int .i32 rb, .int .i64 ab, .int .i64 sb, .bool false, .bool cb, .bool false, .bool true] 23))) := ((Below.refl _ _).alloc (Nat.le_refl _) _).alloc (by simp) _
  have HT : Hid (refBtw 3 ra c true true false cb false true rule = if false = true then 2 else if (3 : Int) = 3 ∧ refHeld c true true false true = true then -1 else if rule = true then 1 else if (3 : Int) = 3 ∧ (cb = true ∨ ra = 173) then 3 else -1) := rfl
  generalize refBtw 3 ra c true true false cb false true rule = T at *
  have hx : refHeld c true true false true = true := by simp [refHeld, h1, h2, h3]
  have HX := Lib.hid hx
  clear hx
  cases cb
  all_goals
    by_cases hr : ra = 173
    case' pos => subst hr
    case' neg =>
      have hr' : (ra == 173) = false := by simpa using hr
      have HR := Lib.hid hr
      clear hr
    all_goals
      cases rule
      all_goals
        go_enter Try.func11, Try.ntmps11
        go_wp2_with (go_at_call 14; refine (H1.out _).mono ?_; rintro e w1 ⟨rfl, hb1⟩; obtain ⟨hc1, _⟩ := bcell hb1)
        go_ret
        refine ⟨ret_int ?_, HL.out.trans ((by assumption : Below _ _ _).mono (by simp; omega))⟩
        rw [HT.out, HX.out]
        first | rfl | (simp [HR.out]; done)

set_option maxHeartbeats 4000000 in
theorem refbetween_any (m : Int) (ra aa sa : Int) (fa ca na pa : Bool) (rb ab sb : Int) (fb cb nb pb : Bool) (rule : Bool) (w : World) :
    Calls Try.prog 11 #[.int .i64 m, .agg #[.int .i32 ra, .int .i64 aa, .int .i64 sa, .bool fa, .bool ca, .bool na, .bool pa], .agg #[.int .i32 rb, .int .i64 ab, .int .i64 sb, .bool fb, .bool cb, .bool nb, .bool pb], .bool rule] w
      fun e w' => e = .returned (.int .i64 (btw m ra na pa fb cb nb pb rule)) ∧ Below w.heap.size w w' := by
  have h1 := refclass_any ra
  rw [← cls_eq] at h1
  rw [btw_eq]
  generalize cls ra = c at *
  have H1 := Lib.hid h1
  clear h1
  cases fb
  case true =>
    have HL : Hid (Below w.heap.size w ((w.alloc (.cells #[.int .i32 ra, .int .i64 aa, .int .i64 sa, .bool fa, .bool ca, .bool na, .bool pa] 23)).alloc (.cells #[.int .i32 rb, .int .i64 ab, .int .i64 sb, .bool true, .bool cb, .bool nb, .bool pb] 23))) :=
      ((Below.refl _ _).alloc (Nat.le_refl _) _).alloc (by simp) _
    have HT : Hid (refBtw m ra c na pa true cb nb pb rule = 2) := rfl
    generalize refBtw m ra c na pa true cb nb pb rule = T at *
    go_enter Try.func11, Try.ntmps11
    go_wp2_with fail
    go_ret
    exact ⟨ret_int (by rw [HT.out]), HL.out⟩
  case false =>
    by_cases hm : m = 3
    · subst hm
      cases na
      case false =>
        cases pa
        case false => exact refb_b1 c ra aa sa fa ca rb ab sb cb nb pb rule w H1
        case true =>
          cases pb
          case false => exact refb_b2 c ra aa sa fa ca rb ab sb cb nb rule w H1
          case true =>
            by_cases c1 : c = 1
            · subst c1; exact refb_b3_1 ra aa sa fa ca rb ab sb cb nb rule w H1
            · by_cases c2 : c = 2
              · subst c2; exact refb_b3_2 ra aa sa fa ca rb ab sb cb nb rule w H1
              · by_cases c3 : c = 3
                · subst c3; exact refb_b3_3 ra aa sa fa ca rb ab sb cb nb rule w H1
                · exact refb_b4 c ra aa sa fa ca rb ab sb cb nb rule w H1 (by simpa using c1) (by simpa using c2) (by simpa using c3) (by simpa using c1) (by simpa using c2) (by simpa using c3)
      case true =>
        cases nb
        case true => exact refb_a c ra aa sa fa ca rb ab sb cb pa pb rule w H1
        case false =>
          cases pa
          case false => exact refb_c1 c ra aa sa fa ca rb ab sb cb pb rule w H1
          case true =>
            cases pb
            case false => exact refb_c2 c ra aa sa fa ca rb ab sb cb rule w H1
            case true =>
              by_cases c1 : c = 1
              · subst c1; exact refb_c3_1 ra aa sa fa ca rb ab sb cb rule w H1
              · by_cases c2 : c = 2
                · subst c2; exact refb_c3_2 ra aa sa fa ca rb ab sb cb rule w H1
                · by_cases c3 : c = 3
                  · subst c3; exact refb_c3_3 ra aa sa fa ca rb ab sb cb rule w H1
                  · exact refb_c4 c ra aa sa fa ca rb ab sb cb rule w H1 (by simpa using c1) (by simpa using c2) (by simpa using c3) (by simpa using c1) (by simpa using c2) (by simpa using c3)
    · have hm' : (m == 3) = false := by simpa using hm
      have HL : Hid (Below w.heap.size w ((w.alloc (.cells #[.int .i32 ra, .int .i64 aa, .int .i64 sa, .bool fa, .bool ca, .bool na, .bool pa] 23)).alloc (.cells #[.int .i32 rb, .int .i64 ab, .int .i64 sb, .bool false, .bool cb, .bool nb, .bool pb] 23))) :=
        ((Below.refl _ _).alloc (Nat.le_refl _) _).alloc (by simp) _
      have HT : Hid (refBtw m ra c na pa false cb nb pb rule = if rule = true then 1 else -1) := by
        simp only [Hid, refBtw, hm, false_and, if_false, Bool.false_eq_true]
      generalize refBtw m ra c na pa false cb nb pb rule = T at *
      clear hm
      cases rule
      all_goals
        go_enter Try.func11, Try.ntmps11
        go_wp2_with fail
        go_ret
        exact ⟨ret_int (by rw [HT.out]; rfl), HL.out⟩
end Go.Proofs.Ytfhmeemkmdkhoaa
