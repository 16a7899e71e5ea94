/- Chapter 02: how many numbers a set has: the plain law. Of no program. -/
import Derived.Test.YtbkjanlkklmleaaRgP
namespace Go.Proofs.Ytbkjanlkklmleaa
set_option linter.unusedVariables false

/-- How many numbers below n are so. -/
def cntN (P : Int → Prop) [DecidablePred P] : Nat → Int
  | 0 => 0
  | n + 1 => cntN P n + if P n then 1 else 0
theorem cntN_or {P Q R : Int → Prop} [DecidablePred P] [DecidablePred Q] [DecidablePred R] (h : ∀ r, R r ↔ P r ∨ Q r) (hd : ∀ r, ¬ (P r ∧ Q r)) : ∀ n, cntN R n = cntN P n + cntN Q n
  | 0 => rfl
  | n + 1 => by
    unfold cntN
    rw [cntN_or h hd n]
    have h1 := h (n : Int)
    have h2 := hd (n : Int)
    by_cases p : P n
    · have q : ¬ Q n := fun q => h2 ⟨p, q⟩
      rw [if_pos p, if_neg q, if_pos (h1.2 (.inl p))]
      omega
    · by_cases q : Q n
      · rw [if_neg p, if_pos q, if_pos (h1.2 (.inr q))]
        omega
      · rw [if_neg p, if_neg q, if_neg (fun r => (h1.1 r).elim p q)]
        omega
theorem cntN_iff {P Q : Int → Prop} [DecidablePred P] [DecidablePred Q] : ∀ n : Nat, (∀ r, 0 ≤ r → r < (n : Int) → (P r ↔ Q r)) → cntN P n = cntN Q n
  | 0, _ => rfl
  | n + 1, h => by
    unfold cntN
    rw [cntN_iff n fun r h0 h1 => h r h0 (by omega)]
    have := h (n : Int) (by omega) (by omega)
    by_cases p : P n
    · rw [if_pos p, if_pos (this.1 p)]
    · rw [if_neg p, if_neg (fun q => p (this.2 q))]
theorem cntN_none {P : Int → Prop} [DecidablePred P] : ∀ n : Nat, (∀ r, 0 ≤ r → r < (n : Int) → ¬ P r) → cntN P n = 0
  | 0, _ => rfl
  | n + 1, h => by
    unfold cntN
    rw [cntN_none n fun r h0 h1 => h r h0 (by omega), if_neg (h (n : Int) (by omega) (by omega))]
    rfl
theorem cntN_all {P : Int → Prop} [DecidablePred P] : ∀ n : Nat, (∀ r, 0 ≤ r → r < (n : Int) → P r) → cntN P n = n
  | 0, _ => rfl
  | n + 1, h => by
    unfold cntN
    rw [cntN_all n fun r h0 h1 => h r h0 (by omega), if_pos (h (n : Int) (by omega) (by omega))]
    omega
theorem cntN_iv (lo hi : Int) (h0 : 0 ≤ lo) (h1 : lo ≤ hi) : ∀ n : Nat, cntN (fun r => lo ≤ r ∧ r ≤ hi) n = if (n : Int) ≤ lo then 0 else if (n : Int) ≤ hi then (n : Int) - lo else hi - lo + 1
  | 0 => by
    rw [if_pos (by omega)]
    rfl
  | n + 1 => by
    unfold cntN
    rw [cntN_iv lo hi h0 h1 n]
    split <;> split <;> (try split) <;> (try split) <;> (try split) <;> omega
instance (l : List Rg) : DecidablePred (memR l) := fun r => inferInstanceAs (Decidable (∃ x ∈ l, x.1 ≤ r ∧ r ≤ x.2))
theorem countR_cnt : ∀ (l : List Rg) (b : Int) (n : Nat), rightF b l → -1 ≤ b → 1114112 ≤ n → countR l = cntN (memR l) n
  | [], b, n, _, _, _ => (cntN_none n fun r _ _ => memR_nil r).symm
  | x :: l, b, n, ⟨h1, h2, h3, h4⟩, hb, hn => by
    rw [countR, countR_cnt l (x.2 + 1) n h4 (by omega) hn, cntN_or (P := fun r => x.1 ≤ r ∧ r ≤ x.2) (Q := memR l) (R := memR (x :: l)) (memR_cons x l) (fun r hr => by
      have := rightF_mem h4 hr.2
      omega) n, cntN_iv x.1 x.2 (by omega) h2 n, if_neg (by omega), if_neg (by omega)]
theorem count_right {l : List Rg} (h : rightR l) : countR l = cntN (memR l) 1114112 := countR_cnt l (-1) 1114112 h (by decide) (Nat.le_refl _)
theorem countR_bound : ∀ {l : List Rg} {b : Int}, rightF b l → b ≤ 1114112 → 0 ≤ countR l ∧ countR l ≤ 1114112 - b
  | [], b, _, h => ⟨Int.le_refl _, by show 0 ≤ _; omega⟩
  | x :: l, b, ⟨h1, h2, h3, h4⟩, hb => by
    have := countR_bound h4 (by omega)
    rw [countR]
    omega
theorem count_not {l k : List Rg} (h : rightR l) (hk : rightR k) (hm : ∀ r, memR k r ↔ 0 ≤ r ∧ r ≤ 1114111 ∧ ¬ memR l r) : countR l + countR k = 1114112 := by
  rw [count_right h, count_right hk]
  have h1 : cntN (fun r => memR l r ∨ memR k r) 1114112 = cntN (memR l) 1114112 + cntN (memR k) 1114112 := cntN_or (fun r => Iff.rfl) (fun r hr => ((hm r).1 hr.2).2.2 hr.1) _
  rw [← h1]
  refine cntN_all _ fun r h0 h2 => ?_
  by_cases q : memR l r
  · exact .inl q
  · exact .inr ((hm r).2 ⟨h0, by omega, q⟩)
theorem count_parts {l a b : List Rg} (h : rightR l) (ha : rightR a) (hb : rightR b) (hm : ∀ r, memR l r ↔ memR a r ∨ memR b r) (hd : ∀ r, ¬ (memR a r ∧ memR b r)) : countR a + countR b = countR l := by
  rw [count_right h, count_right ha, count_right hb]
  exact (cntN_or hm hd _).symm
theorem right_none {l : List Rg} (h : rightR l) (hn : ∀ r, ¬ memR l r) : l = [] := by
  cases l with
  | nil => rfl
  | cons x l => exact absurd ((memR_cons x l x.1).2 (.inl ⟨Int.le_refl _, h.2.1⟩)) (hn x.1)
end Go.Proofs.Ytbkjanlkklmleaa
