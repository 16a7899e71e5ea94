/- Chapter 02: Has: the walk. -/
import Derived.Test.YtbkjanlkklmleaaGreatDoorRgY3
namespace Go.Proofs.YtbkjanlkklmleaaGreatDoor
open Go.RowKit
open Go.Lib (hid)
set_option linter.unusedVariables false
set_option maxRecDepth 100000

/-- Where the first one stands that ends at r or behind it. -/
def AtR (l : List Rg) (r : Int) (k : Nat) : Prop := k ≤ l.length ∧ (∀ j (h : j < l.length), j < k → l[j].2 < r) ∧ ∀ j (h : j < l.length), k ≤ j → r ≤ l[j].2
def RetF (w : World) (e : Ending) (w' : World) (l : List Rg) (r : Int) : Prop := ∃ (k : Nat) (b : Bool), e = .returned (.tuple #[.int .i64 k, .bool b]) ∧ AtR l r k ∧ Below w.heap.size w w'
theorem rightF_rise : ∀ {l : List Rg} {b : Int}, rightF b l → ∀ i j (hi : i < l.length) (hj : j < l.length), i ≤ j → l[i].2 ≤ l[j].2
  | x :: l, b, h, 0, 0, _, _, _ => Int.le_refl _
  | x :: l, b, h, 0, j + 1, _, hj, _ => by
    have h2 := rightF_all h.2.2.2 _ (List.getElem_mem (show j < l.length by simpa using hj))
    simp only [List.getElem_cons_zero, List.getElem_cons_succ]
    omega
  | x :: l, b, h, i + 1, 0, _, _, hij => absurd hij (by omega)
  | x :: l, b, h, i + 1, j + 1, hi, hj, hij => by
    have := rightF_rise h.2.2.2 i j (by simpa using hi) (by simpa using hj) (by omega)
    simpa using this
theorem rightF_gap : ∀ {l : List Rg} {b : Int}, rightF b l → ∀ i j (hi : i < l.length) (hj : j < l.length), i < j → l[i].2 < l[j].1
  | x :: l, b, h, i, 0, _, _, hij => absurd hij (Nat.not_lt_zero _)
  | x :: l, b, h, 0, j + 1, _, hj, _ => by
    have h2 := rightF_all h.2.2.2 _ (List.getElem_mem (show j < l.length by simpa using hj))
    simp only [List.getElem_cons_zero, List.getElem_cons_succ]
    omega
  | x :: l, b, h, i + 1, j + 1, hi, hj, hij => by
    have := rightF_gap h.2.2.2 i j (by simpa using hi) (by simpa using hj) (by omega)
    simpa using this
theorem atR_has {l : List Rg} {r : Int} {k : Nat} (h : AtR l r k) (hr : rightR l) : inB l r = if h : k < l.length then decide (l[k].1 ≤ r) else false := by
  obtain ⟨h1, h2, h3⟩ := h
  split
  · rename_i hk
    rw [Bool.eq_iff_iff, inB_iff, decide_eq_true_iff]
    constructor
    · rintro ⟨x, hx, q1, q2⟩
      obtain ⟨j, hj, rfl⟩ := List.mem_iff_getElem.1 hx
      rcases Nat.lt_trichotomy j k with q | q | q
      · have := h2 j hj q; omega
      · subst q; exact q1
      · have := rightF_rise hr k j hk hj (by omega)
        have hjj := rightF_gap hr k j hk hj q
        have := h3 k hk (Nat.le_refl _)
        omega
    · intro q
      exact ⟨l[k], List.getElem_mem hk, q, h3 k hk (Nat.le_refl _)⟩
  · rename_i hk
    rw [Bool.eq_false_iff]
    intro q
    obtain ⟨x, hx, q1, q2⟩ := (inB_iff l r).1 q
    obtain ⟨j, hj, rfl⟩ := List.mem_iff_getElem.1 hx
    have := h2 j hj (by omega)
    omega
end Go.Proofs.YtbkjanlkklmleaaGreatDoor
