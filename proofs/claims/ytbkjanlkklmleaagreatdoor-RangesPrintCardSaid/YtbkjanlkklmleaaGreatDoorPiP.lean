/- Digits of sixteen, great or small, and their number: the plain law. Of no program. -/
import Derived.Test.YtbkjanlkklmleaaGreatDoorByt
namespace Go.Proofs.YtbkjanlkklmleaaGreatDoor
open Go.RowKit
set_option linter.unusedVariables false
theorem list_snocX {α : Type} (l : List α) : l = [] ∨ ∃ o z, l = o ++ [z] := by
  rcases List.eq_nil_or_concat l with h | ⟨o, z, h⟩
  · exact .inl h
  · exact .inr ⟨o, z, by rw [h, List.concat_eq_append]⟩
/-- Is a byte a digit of sixteen? -/
def dxP (c : Int) : Bool := (decide (48 ≤ c) && decide (c ≤ 57)) || (decide (97 ≤ c) && decide (c ≤ 102)) || (decide (65 ≤ c) && decide (c ≤ 70))
/-- Which. -/
def dxV (c : Int) : Int := if c ≤ 57 then c - 48 else if c < 97 then c - 55 else c - 87
def dxN (l : List Int) : Int := l.foldl (fun n c => n * 16 + dxV c) 0
def lowC (c : Int) : Int := bits .or .u8 c 32
theorem dxN_snoc (l : List Int) (c : Int) : dxN (l ++ [c]) = dxN l * 16 + dxV c := by
  unfold dxN
  rw [List.foldl_append]
  rfl
theorem low_all : ∀ k : Fin 256, (0 ≤ lowC (k.val : Int) ∧ lowC (k.val : Int) ≤ 255) ∧ (¬ ((k.val : Int) ≤ 57 ∧ 48 ≤ (k.val : Int)) → 97 ≤ lowC (k.val : Int) → lowC (k.val : Int) ≤ 102 → dxP (k.val : Int) = true ∧ dxV (k.val : Int) = lowC (k.val : Int) - 87) ∧
    (¬ ((k.val : Int) ≤ 57 ∧ 48 ≤ (k.val : Int)) → ¬ (97 ≤ lowC (k.val : Int) ∧ lowC (k.val : Int) ≤ 102) → dxP (k.val : Int) = false) ∧ (48 ≤ (k.val : Int) → (k.val : Int) ≤ 57 → dxP (k.val : Int) = true ∧ dxV (k.val : Int) = (k.val : Int) - 48) := by decide +kernel
theorem low_of {c : Int} (h : 0 ≤ c ∧ c ≤ 255) : (0 ≤ lowC c ∧ lowC c ≤ 255) ∧ (¬ (c ≤ 57 ∧ 48 ≤ c) → 97 ≤ lowC c → lowC c ≤ 102 → dxP c = true ∧ dxV c = lowC c - 87) ∧ (¬ (c ≤ 57 ∧ 48 ≤ c) → ¬ (97 ≤ lowC c ∧ lowC c ≤ 102) → dxP c = false) ∧ (48 ≤ c → c ≤ 57 → dxP c = true ∧ dxV c = c - 48) := by
  have := low_all ⟨c.toNat, by omega⟩
  rw [show (((⟨c.toNat, by omega⟩ : Fin 256).val : Nat) : Int) = c by show ((c.toNat : Nat) : Int) = c; omega] at this
  exact this
theorem intsX_take {s : ByteArray} {i : Nat} (h : i < s.size) : (intsOf s).take (i + 1) = (intsOf s).take i ++ [byt s i] := by
  have hl : i < (intsOf s).length := by rw [intsOf_len]; exact h
  rw [List.take_add_one, List.getElem?_eq_getElem hl]
  have := intsOf_get s i
  rw [List.getD_eq_getElem?_getD, List.getElem?_eq_getElem hl] at this
  simp only [Option.getD_some] at this
  rw [this]
  rfl
theorem pow16 (i : Nat) : (16 : Int) ^ (i + 1) = 16 ^ i * 16 := Int.pow_succ 16 i
theorem pow16_le7 (i : Nat) (h : i ≤ 7) : (16 : Int) ^ i ≤ 268435456 := by
  rcases (by omega : i = 0 ∨ i = 1 ∨ i = 2 ∨ i = 3 ∨ i = 4 ∨ i = 5 ∨ i = 6 ∨ i = 7) with rfl | rfl | rfl | rfl | rfl | rfl | rfl | rfl <;> decide
/-- Digits only, and few. -/
def goodX (s : ByteArray) : Prop := 0 < s.size ∧ s.size ≤ 7 ∧ ∀ i, i < s.size → dxP (byt s i) = true
theorem dxV_rng {c : Int} (h0 : 0 ≤ c ∧ c ≤ 255) (h : dxP c = true) : 0 ≤ dxV c ∧ dxV c < 16 := by
  unfold dxP at h
  simp only [Bool.or_eq_true, Bool.and_eq_true, decide_eq_true_iff] at h
  unfold dxV
  split
  · omega
  · split <;> omega
theorem dxN_rng : ∀ (i : Nat) (s : ByteArray), i ≤ s.size → (∀ j, j < i → dxP (byt s j) = true) → 0 ≤ dxN ((intsOf s).take i) ∧ dxN ((intsOf s).take i) < 16 ^ i
  | 0, s, _, _ => by rw [List.take_zero]; exact ⟨by decide, by decide⟩
  | i + 1, s, h, hd => by
    rw [intsX_take (by omega), dxN_snoc, pow16]
    have := dxN_rng i s (by omega) (fun j hj => hd j (by omega))
    have := dxV_rng (byt_nonneg s i) (hd i (by omega))
    omega
theorem goodX_rng {s : ByteArray} (h : goodX s) : 0 ≤ dxN (intsOf s) ∧ dxN (intsOf s) < 268435456 := by
  have := dxN_rng s.size s (Nat.le_refl _) h.2.2
  rw [List.take_of_length_le (by rw [intsOf_len]; exact Nat.le_refl _)] at this
  have := pow16_le7 s.size h.2.1
  omega
end Go.Proofs.YtbkjanlkklmleaaGreatDoor
