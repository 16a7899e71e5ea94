/- Chapter 16: the document's names, digits and numbers: walks. -/
import Derived.Test.YtddbbgjpfdcjfaaDoorEnC
import Derived.Great.Walk
namespace Go.Proofs.YtddbbgjpfdcjfaaDoor
open Go.RowKit
open Go.Shelf
open Go.Lib (hid)
set_option linter.unusedVariables false

set_option maxRecDepth 100000 in
set_option maxHeartbeats 4000000 in
theorem refnames_any (w : World) : Calls Tryd.prog 14 #[] w fun e w' => e = .returned (.slice (some ⟨w.heap.size, 0, none⟩) 26 26) ∧ Blk w' w.heap.size 36 rowsV ∧ Below w.heap.size w w' := by
  go_enter Tryd.func14, Tryd.ntmps14
  go_wp2_with ((with_reducible refine Great.wpList_buildSliceTo (o := ⟨some 27, .buildSlice 31 26 _, _, _, _, _⟩) rfl 31 36 26 _ rfl w.heap.size rfl (some 27) rfl Tryd.underlying31 rowsV ?hf ?_); (case hf => kernel_rfl))
  go_ret
  exact ⟨rfl, Blk.new _ _ _, (Below.refl _ _).alloc (Nat.le_refl _) _⟩

def hexS : ByteArray := ⟨#[48, 49, 50, 51, 52, 53, 54, 55, 56, 57, 97, 98, 99, 100, 101, 102, 65, 66, 67, 68, 69, 70]⟩
def digR (c : Int) : Int := if hexP c then digV c else -1
theorem digR_at : ∀ i : Fin 22, digR (byt hexS i.val) = if 15 < i.val then (i.val : Int) - 6 else i.val := by decide
theorem hexS_dec : ∀ k : Fin 10, byt hexS k.val = 48 + (k.val : Int) := by decide
theorem hexS_low : ∀ k : Fin 6, byt hexS (10 + k.val) = 97 + (k.val : Int) := by decide
theorem hexS_up : ∀ k : Fin 6, byt hexS (16 + k.val) = 65 + (k.val : Int) := by decide
theorem digR_none {c : Int} (h : ∀ j, j < 22 → byt hexS j ≠ c) : digR c = -1 := by
  unfold digR
  rw [if_neg]
  intro hx
  unfold hexP decP at hx
  simp only [Bool.or_eq_true, decide_eq_true_iff] at hx
  rcases hx with hx | hx | hx
  · exact h (c - 48).toNat (by omega) (by have := hexS_dec ⟨(c - 48).toNat, by omega⟩; simp only at this; omega)
  · exact h (10 + (c - 97).toNat) (by omega) (by have := hexS_low ⟨(c - 97).toNat, by omega⟩; simp only at this; omega)
  · exact h (16 + (c - 65).toNat) (by omega) (by have := hexS_up ⟨(c - 65).toNat, by omega⟩; simp only at this; omega)
theorem getC (s : ByteArray) (i : Nat) (h : i < s.size) : ((s[i]'h).toNat : Int) = byt s i := by
  have := getB s i h
  have h0 := (byt_nonneg s i).1
  omega
set_option maxHeartbeats 1000000 in
theorem digit_any (c : Int) (w : World) : Calls Tryd.prog 39 #[.int .u8 c] w fun e w' => e = .returned (.int .i64 (digR c)) ∧ w' = w := by
  go_enter Tryd.func39, Tryd.ntmps39
  go_wp2_with fail
  go_loopg [3] 22 (fun kx s3 wr => ∃ i : Nat, s3 = .int .i64 i ∧ i ≤ 22 ∧ 22 - i ≤ kx ∧ wr = w ∧ Hid (∀ j, j < i → byt hexS j ≠ c))
  case atStart => exact ⟨0, rfl, Nat.zero_le _, by omega, rfl, fun j hj => absurd hj (Nat.not_lt_zero _)⟩
  case round =>
    obtain ⟨i, rfl, hi, hg, hw, A⟩ := hrel
    obtain rfl : w = wr := hw.symm
    by_cases hlt : i < 22
    · have hlt' : (i : Int) < 22 := by omega
      have hgb := getC hexS i hlt
      have hat := digR_at ⟨i, hlt⟩
      simp only at hat
      have hb : ∀ j, j = i → byt hexS j = byt hexS i := fun j e => by rw [e]
      have HB := hid hb
      clear hb
      generalize hy : byt hexS i = y at *
      unfold hexS at hgb
      have HY := hid hy
      clear hy
      by_cases hyc : y = c
      · subst hyc
        by_cases h15 : 15 < i
        · have h15' : (15 : Int) < (i : Int) := by omega
          rw [if_pos h15] at hat
          have HAT := hid hat
          clear hat
          go_wp2_with fail
          go_ret
          exact ⟨ret_int HAT.out.symm, rfl⟩
        · have h15' : ¬ (15 : Int) < (i : Int) := by omega
          rw [if_neg h15] at hat
          have HAT := hid hat
          clear hat
          go_wp2_with fail
          go_ret
          exact ⟨ret_int HAT.out.symm, rfl⟩
      · have hne : (y == c) = false := by simpa using hyc
        clear hat
        go_wp2_with fail
        go_roundg (22 - (i + 1))
        case measure => omega
        case rel =>
          refine ⟨i + 1, by go_num, by omega, Nat.le_refl _, rfl, fun j hj => ?_⟩
          by_cases e : j = i
          · subst e
            rw [HY.out]
            exact hyc
          · exact A.out j (by omega)
    · have hlt' : ¬ (i : Int) < 22 := by omega
      have HR := hid (digR_none (c := c) fun j hj => A.out j (by omega))
      go_wp2_with fail
      go_ret
      exact ⟨ret_int HR.out.symm, rfl⟩
end Go.Proofs.YtddbbgjpfdcjfaaDoor
