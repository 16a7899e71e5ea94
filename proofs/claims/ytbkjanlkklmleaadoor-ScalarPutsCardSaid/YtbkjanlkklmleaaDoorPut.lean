/- Walk of scalar.Put. -/
import Derived.Test.YtbkjanlkklmleaaDoorProg
import Derived.Test.YtbkjanlkklmleaaDoorRead
import Derived.Laws.BitsLemmas
import Derived.LoopN
namespace Go.Proofs.YtbkjanlkklmleaaDoor
open Go.RowKit
open Go.Lib

def rightB (r : Int) : Bool := decide (0 ≤ r) && decide (r ≤ 1114111) && (decide (r < 55296) || decide (57343 < r))

theorem right_any (r : Int) (w : World) : Calls Tryd.prog 17 #[.int .i32 r] w fun e w' => e = .returned (.bool (rightB r)) ∧ w = w' := by
  by_cases h1 : 0 ≤ r
  · by_cases h2 : r ≤ 1114111
    · by_cases h3 : r < 55296
      · have HB := Lib.hid (show rightB r = true by simp [rightB]; omega)
        go_enter Tryd.func17, Tryd.ntmps17
        go_wp2
        go_ret
        exact ⟨ret_bool HB.out.symm, rfl⟩
      · by_cases h4 : 57343 < r
        · have HB := Lib.hid (show rightB r = true by simp [rightB]; omega)
          go_enter Tryd.func17, Tryd.ntmps17
          go_wp2
          go_ret
          exact ⟨ret_bool HB.out.symm, rfl⟩
        · have HB := Lib.hid (show rightB r = false by simp [rightB]; omega)
          go_enter Tryd.func17, Tryd.ntmps17
          go_wp2
          go_ret
          exact ⟨ret_bool HB.out.symm, rfl⟩
    · have HB := Lib.hid (show rightB r = false by simp [rightB]; omega)
      go_enter Tryd.func17, Tryd.ntmps17
      go_wp2
      go_ret
      exact ⟨ret_bool HB.out.symm, rfl⟩
  · have HB := Lib.hid (show rightB r = false by simp [rightB]; omega)
    go_enter Tryd.func17, Tryd.ntmps17
    go_wp2
    go_ret
    exact ⟨ret_bool HB.out.symm, rfl⟩

/-- A number's bytes; of what is no scalar those of the sign for it. -/
def putG (r : Int) : List Int :=
  if r < 128 then [r] else if r < 2048 then [192 + r / 64, 128 + r % 64] else if r < 65536 then [224 + r / 64 / 64, 128 + r / 64 % 64, 128 + r % 64]
  else [240 + r / 64 / 64 / 64, 128 + r / 64 / 64 % 64, 128 + r / 64 % 64, 128 + r % 64]
def putF (r : Int) : List Int := putG (if rightB r then r else 65533)

/-- New bytes that a call has made. -/
def NewBytes (B : Nat) (w : World) (v : Value) (zs : List Int) : Prop := ∃ b, B ≤ b ∧ v = .slice (some ⟨b, 0, none⟩) zs.length zs.length ∧ w.heap[b]? = some (.cells ((zs.map (Value.int .u8)).toArray) 5 (0, 0))

theorem i32_and63 {x : Int} (h₀ : 0 ≤ x) (h₁ : x < 2147483648) : bits .and .i32 x 63 = x % 64 := bits_mask .i32 31 (by decide) wraps_i32 6 (by decide) x h₀ (by omega)

def PutPost (zs : List Int) (w : World) (e : Ending) (w' : World) : Prop := ∃ v, e = .returned v ∧ NewBytes w.heap.size w' v zs ∧ Below w.heap.size w w'

theorem putPost_of {zs : List Int} {n : Nat} {cs : Array Value} {w : World} (hn : zs.length = n) (hc : cs = (zs.map (Value.int .u8)).toArray) : PutPost zs w (.returned (.slice (some ⟨w.heap.size, 0, none⟩) n n)) (w.alloc (.cells cs 5)) := by
  subst hn hc
  exact ⟨_, rfl, ⟨w.heap.size, Nat.le_refl _, rfl, heap_alloc_new _ _⟩, (Below.refl _ _).alloc (Nat.le_refl _) _⟩

theorem mk2 (w : World) : (Instr.makeSlice 28 (.int .i64 2) (.int .i64 2)).run Tryd.prog w = .ok (.slice (some ⟨w.heap.size, 0, none⟩) 2 2) (w.alloc (.cells #[.int .u8 0, .int .u8 0] 5)) := by kernel_rfl

theorem mk3 (w : World) : (Instr.makeSlice 28 (.int .i64 3) (.int .i64 3)).run Tryd.prog w = .ok (.slice (some ⟨w.heap.size, 0, none⟩) 3 3) (w.alloc (.cells #[.int .u8 0, .int .u8 0, .int .u8 0] 5)) := by kernel_rfl

theorem mk4 (w : World) : (Instr.makeSlice 28 (.int .i64 4) (.int .i64 4)).run Tryd.prog w = .ok (.slice (some ⟨w.heap.size, 0, none⟩) 4 4) (w.alloc (.cells #[.int .u8 0, .int .u8 0, .int .u8 0, .int .u8 0] 5)) := by kernel_rfl

set_option maxHeartbeats 4000000 in
theorem put2 (r : Int) (w : World) (h1 : 128 ≤ r) (h2 : r ≤ 2047) (hr : rightB r = true) : Calls Tryd.prog 8 #[.int .i32 r] w (PutPost [192 + r / 64, 128 + r % 64] w) := by
  have hk := mk2
  have hx : bits BinOp.xor .u8 IntKind.u8.max 63 = 192 := by decide
  have a0 : bits .and .i32 (r) 63 = r % 64 := i32_and63 (by omega) (by omega)
  have o0 : bits .or .u8 128 (r % 64) = 128 + r % 64 := u8_or128 _ (by omega) (by omega)
  have q : bits .or .u8 192 (r / 64) = 192 + r / 64 := u8_or192 _ (by omega) (by omega)
  have HR := Lib.hid (right_any r)
  rw [hr] at HR
  clear hr
  go_enter Tryd.func8, Tryd.ntmps8
  go_wp2_with (go_at_call 17; refine (HR.out _).mono ?_; rintro e w' ⟨rfl, rfl⟩)
  refine wp_loop_rounds 2 ?_
  rw [rounds_succ]
  go_wp2
  refine wp_loop_rounds 2 ?_
  rw [rounds_succ]
  go_wp2
  rw [rounds_succ]
  go_wp2
  go_ret
  exact putPost_of rfl rfl

set_option maxHeartbeats 4000000 in
theorem put3 (r : Int) (w : World) (h1 : 2048 ≤ r) (h2 : r ≤ 65535) (hr : rightB r = true) : Calls Tryd.prog 8 #[.int .i32 r] w (PutPost [224 + r / 64 / 64, 128 + r / 64 % 64, 128 + r % 64] w) := by
  have hk := mk3
  have hx : bits BinOp.xor .u8 IntKind.u8.max 31 = 224 := by decide
  have a0 : bits .and .i32 (r) 63 = r % 64 := i32_and63 (by omega) (by omega)
  have o0 : bits .or .u8 128 (r % 64) = 128 + r % 64 := u8_or128 _ (by omega) (by omega)
  have a1 : bits .and .i32 (r / 64) 63 = r / 64 % 64 := i32_and63 (by omega) (by omega)
  have o1 : bits .or .u8 128 (r / 64 % 64) = 128 + r / 64 % 64 := u8_or128 _ (by omega) (by omega)
  have q : bits .or .u8 224 (r / 64 / 64) = 224 + r / 64 / 64 := u8_or224 _ (by omega) (by omega)
  have HR := Lib.hid (right_any r)
  rw [hr] at HR
  clear hr
  go_enter Tryd.func8, Tryd.ntmps8
  go_wp2_with (go_at_call 17; refine (HR.out _).mono ?_; rintro e w' ⟨rfl, rfl⟩)
  refine wp_loop_rounds 3 ?_
  rw [rounds_succ]
  go_wp2
  rw [rounds_succ]
  go_wp2
  refine wp_loop_rounds 3 ?_
  rw [rounds_succ]
  go_wp2
  rw [rounds_succ]
  go_wp2
  rw [rounds_succ]
  go_wp2
  go_ret
  exact putPost_of rfl rfl

set_option maxHeartbeats 4000000 in
theorem put4 (r : Int) (w : World) (h1 : 65536 ≤ r) (h2 : r ≤ 1114111) (hr : rightB r = true) : Calls Tryd.prog 8 #[.int .i32 r] w (PutPost [240 + r / 64 / 64 / 64, 128 + r / 64 / 64 % 64, 128 + r / 64 % 64, 128 + r % 64] w) := by
  have hk := mk4
  have hx : bits BinOp.xor .u8 IntKind.u8.max 15 = 240 := by decide
  have a0 : bits .and .i32 (r) 63 = r % 64 := i32_and63 (by omega) (by omega)
  have o0 : bits .or .u8 128 (r % 64) = 128 + r % 64 := u8_or128 _ (by omega) (by omega)
  have a1 : bits .and .i32 (r / 64) 63 = r / 64 % 64 := i32_and63 (by omega) (by omega)
  have o1 : bits .or .u8 128 (r / 64 % 64) = 128 + r / 64 % 64 := u8_or128 _ (by omega) (by omega)
  have a2 : bits .and .i32 (r / 64 / 64) 63 = r / 64 / 64 % 64 := i32_and63 (by omega) (by omega)
  have o2 : bits .or .u8 128 (r / 64 / 64 % 64) = 128 + r / 64 / 64 % 64 := u8_or128 _ (by omega) (by omega)
  have q : bits .or .u8 240 (r / 64 / 64 / 64) = 240 + r / 64 / 64 / 64 := u8_or240 _ (by omega) (by omega)
  have HR := Lib.hid (right_any r)
  rw [hr] at HR
  clear hr
  go_enter Tryd.func8, Tryd.ntmps8
  go_wp2_with (go_at_call 17; refine (HR.out _).mono ?_; rintro e w' ⟨rfl, rfl⟩)
  refine wp_loop_rounds 4 ?_
  rw [rounds_succ]
  go_wp2
  rw [rounds_succ]
  go_wp2
  rw [rounds_succ]
  go_wp2
  refine wp_loop_rounds 4 ?_
  rw [rounds_succ]
  go_wp2
  rw [rounds_succ]
  go_wp2
  rw [rounds_succ]
  go_wp2
  rw [rounds_succ]
  go_wp2
  go_ret
  exact putPost_of rfl rfl

set_option maxHeartbeats 4000000 in
theorem put1 (r : Int) (w : World) (h1 : 0 ≤ r) (h2 : r < 128) (hr : rightB r = true) : Calls Tryd.prog 8 #[.int .i32 r] w (PutPost [r] w) := by
  have HR := Lib.hid (right_any r)
  rw [hr] at HR
  clear hr
  go_enter Tryd.func8, Tryd.ntmps8
  go_wp2_with (go_at_call 17; refine (HR.out _).mono ?_; rintro e w' ⟨rfl, rfl⟩)
  go_ret
  exact putPost_of rfl rfl

set_option maxHeartbeats 4000000 in
theorem putB (r : Int) (w : World) (hr : rightB r = false) : Calls Tryd.prog 8 #[.int .i32 r] w (PutPost [239, 191, 189] w) := by
  have hk := mk3
  have hx : bits BinOp.xor .u8 IntKind.u8.max 31 = 224 := by decide
  have b1 : bits BinOp.and .i32 65533 63 = 61 := by decide
  have b2 : bits BinOp.or .u8 128 61 = 189 := by decide
  have b3 : bits BinOp.and .i32 1023 63 = 63 := by decide
  have b4 : bits BinOp.or .u8 128 63 = 191 := by decide
  have b5 : bits BinOp.or .u8 224 15 = 239 := by decide
  have HR := Lib.hid (right_any r)
  rw [hr] at HR
  clear hr
  go_enter Tryd.func8, Tryd.ntmps8
  go_wp2_with (go_at_call 17; refine (HR.out _).mono ?_; rintro e w' ⟨rfl, rfl⟩)
  refine wp_loop_rounds 3 ?_
  rw [rounds_succ]
  go_wp2
  rw [rounds_succ]
  go_wp2
  refine wp_loop_rounds 3 ?_
  rw [rounds_succ]
  go_wp2
  rw [rounds_succ]
  go_wp2
  rw [rounds_succ]
  go_wp2
  go_ret
  exact putPost_of rfl rfl

theorem put_any (r : Int) (w : World) : Calls Tryd.prog 8 #[.int .i32 r] w (PutPost (putF r) w) := by
  cases hr : rightB r
  · have e : putF r = [239, 191, 189] := by rw [putF, hr, if_neg (by decide)]; decide
    rw [e]
    exact putB r w hr
  · have e : putF r = putG r := by rw [putF, hr]; rfl
    have hb : 0 ≤ r ∧ r ≤ 1114111 := by simp [rightB] at hr; omega
    rw [e]
    unfold putG
    by_cases h1 : r < 128
    · rw [if_pos h1]; exact put1 r w hb.1 h1 hr
    · rw [if_neg h1]
      by_cases h2 : r < 2048
      · rw [if_pos h2]; exact put2 r w (by omega) (by omega) hr
      · rw [if_neg h2]
        by_cases h3 : r < 65536
        · rw [if_pos h3]; exact put3 r w (by omega) (by omega) hr
        · rw [if_neg h3]; exact put4 r w (by omega) (by omega) hr
end Go.Proofs.YtbkjanlkklmleaaDoor
