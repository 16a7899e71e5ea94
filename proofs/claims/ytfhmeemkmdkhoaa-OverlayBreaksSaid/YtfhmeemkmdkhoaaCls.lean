/- THE PLAIN LAW of the classes: what the program's table tells is what the document's lists tell. No Go in sight. -/
import Derived.Test.YtfhmeemkmdkhoaaTab
import Derived.Test.YtfhmeemkmdkhoaaHan
import Derived.Test.YtfhmeemkmdkhoaaIn
import Derived.Test.YtfhmeemkmdkhoaaSearch
namespace Go.Proofs.Ytfhmeemkmdkhoaa
open Go.RowKit
open Go.Lib

/-- What the table tells: the first row that ends no earlier. -/
def tabCls (r : Int) : List (Int × Int × Int) → Int
  | [] => 0
  | (a, b, c) :: t => if r ≤ b then (if a ≤ r then c else 0) else tabCls r t

def cls (r : Int) : Int := if hanB r then (if (r - 44032) % 28 = 0 then 14 else 15) else tabCls r tab

/-- What the document tells: the first class from 'c' on in whose list the number is. -/
def refFrom (r : Int) : Nat → Nat → Int
  | 0, _ => 0
  | n + 1, c => if inB (refList c) r then (c : Int) else refFrom r n (c + 1)

def refCls (r : Int) : Int := if hanB r then (if (r - 44032) % 28 = 0 then 14 else 15) else refFrom r 35 1

def sorted : List (Int × Int × Int) → Bool
  | (a, b, _) :: (a', b', c') :: t => decide (a ≤ b) && decide (b < a') && sorted ((a', b', c') :: t)
  | [(a, b, _)] => decide (a ≤ b)
  | [] => true

theorem tab_sorted : sorted tab = true := by decide +kernel

theorem sorted_ge (x : Int × Int × Int) : ∀ (t : List (Int × Int × Int)), sorted (x :: t) = true → x.1 ≤ x.2.1 ∧ sorted t = true ∧ ∀ y ∈ t, x.2.1 < y.1 ∧ y.1 ≤ y.2.1
  | [], h => by simpa [sorted] using h
  | z :: t, h => by
    obtain ⟨a, b, c⟩ := x
    obtain ⟨a', b', c'⟩ := z
    simp only [sorted, Bool.and_eq_true, decide_eq_true_eq] at h
    obtain ⟨g1, g2, g3⟩ := sorted_ge (a', b', c') t h.2
    refine ⟨h.1.1, h.2, fun y hy => ?_⟩
    rcases List.mem_cons.1 hy with rfl | hy
    · exact ⟨h.1.2, g1⟩
    · have := g3 y hy
      have := h.1.2
      simp only at *
      omega

/-- In a sorted table the row that holds a number tells its class; where none does it is 0. -/
theorem tabCls_mem (r : Int) : ∀ (t : List (Int × Int × Int)), sorted t = true → ∀ x ∈ t, x.1 ≤ r → r ≤ x.2.1 → tabCls r t = x.2.2
  | [], _, x, hx, _, _ => by cases hx
  | (a, b, c) :: t, h, x, hx, h1, h2 => by
    obtain ⟨g1, g2, g3⟩ := sorted_ge _ _ h
    unfold tabCls
    rcases List.mem_cons.1 hx with rfl | hx
    · simp only at h1 h2
      rw [if_pos h2, if_pos h1]
    · have := (g3 x hx).1
      simp only at this
      rw [if_neg (by omega)]
      exact tabCls_mem r t g2 x hx h1 h2

theorem tabCls_none (r : Int) : ∀ (t : List (Int × Int × Int)), (∀ x ∈ t, ¬ (x.1 ≤ r ∧ r ≤ x.2.1)) → tabCls r t = 0
  | [], _ => rfl
  | (a, b, c) :: t, h => by
    unfold tabCls
    have := h (a, b, c) (by simp)
    simp only at this
    by_cases h1 : r ≤ b
    · rw [if_pos h1, if_neg (by omega)]
    · rw [if_neg h1]; exact tabCls_none r t fun x hx => h x (by simp [hx])

theorem refFrom_spec (r : Int) : ∀ n c, (∃ d, c ≤ d ∧ d < c + n ∧ inB (refList d) r = true ∧ refFrom r n c = d) ∨ ((∀ d, c ≤ d → d < c + n → inB (refList d) r = false) ∧ refFrom r n c = 0)
  | 0, c => .inr ⟨fun d h1 h2 => absurd h1 (by omega), rfl⟩
  | n + 1, c => by
    unfold refFrom
    by_cases h : inB (refList c) r = true
    · rw [if_pos h]; exact .inl ⟨c, Nat.le_refl _, by omega, h, rfl⟩
    · rw [if_neg h]
      rcases refFrom_spec r n (c + 1) with ⟨d, h1, h2, h3, h4⟩ | ⟨h1, h2⟩
      · exact .inl ⟨d, by omega, by omega, h3, h4⟩
      · refine .inr ⟨fun d g1 g2 => ?_, h2⟩
        by_cases e : d = c
        · subst e; simpa using h
        · exact h1 d (by omega) (by omega)

/-- Each range of the document stands in the table, and back. -/
theorem ref_in_tab : ((List.range 36).all fun c => (refList c).all fun p => tab.any fun x => x.1 == p.1 && x.2.1 == p.2 && x.2.2 == (c : Int)) = true := by decide +kernel
theorem tab_in_ref : (tab.all fun x => decide (1 ≤ x.2.2) && decide (x.2.2 < 36) && (refList x.2.2.toNat).any fun p => x.1 == p.1 && x.2.1 == p.2) = true := by decide +kernel

theorem cls_eq (r : Int) : cls r = refCls r := by
  unfold cls refCls
  split
  · rfl
  rcases refFrom_spec r 35 1 with ⟨d, h1, h2, h3, h4⟩ | ⟨h1, h2⟩
  · rw [h4]
    unfold inB at h3
    rw [List.any_eq_true] at h3
    obtain ⟨p, hp, hq⟩ := h3
    simp only [Bool.and_eq_true, decide_eq_true_eq] at hq
    have := ref_in_tab
    rw [List.all_eq_true] at this
    have := this d (by simp; omega)
    rw [List.all_eq_true] at this
    have := this p hp
    rw [List.any_eq_true] at this
    obtain ⟨x, hx, hx2⟩ := this
    simp only [Bool.and_eq_true, beq_iff_eq] at hx2
    obtain ⟨⟨e1, e2⟩, e3⟩ := hx2
    rw [tabCls_mem r tab tab_sorted x hx (by omega) (by omega), e3]
  · rw [h2]
    refine tabCls_none r tab fun x hx hr => ?_
    have := tab_in_ref
    rw [List.all_eq_true] at this
    have := this x hx
    simp only [Bool.and_eq_true, decide_eq_true_eq, List.any_eq_true, beq_iff_eq] at this
    obtain ⟨⟨g1, g2⟩, p, hp, e1, e2⟩ := this
    have hb := h1 x.2.2.toNat (by omega) (by omega)
    unfold inB at hb
    rw [List.any_eq_false] at hb
    have := hb p hp
    simp only [Bool.and_eq_true, decide_eq_true_eq] at this
    omega

theorem sorted_get (T : List (Int × Int × Int)) : sorted T = true → ∀ i j (hi : i < T.length) (hj : j < T.length), i < j → T[i].2.1 < T[j].2.1 := by
  induction T with
  | nil => intro _ i j hi; simp at hi
  | cons x t ih =>
    intro h i j hi hj hij
    obtain ⟨g1, g2, g3⟩ := sorted_ge _ _ h
    cases j with
    | zero => omega
    | succ j =>
      have hj' : j < t.length := by simpa using hj
      cases i with
      | zero =>
        have := g3 t[j] (List.getElem_mem hj')
        simp only [List.getElem_cons_zero, List.getElem_cons_succ]
        omega
      | succ i =>
        simp only [List.getElem_cons_succ]
        exact ih g2 i j (by simpa using hi) hj' (by omega)

/-- Of a sorted table: behind rows that end earlier the table's answer is that of what is left. -/
theorem tabCls_drop (r : Int) : ∀ (T : List (Int × Int × Int)) (k : Nat), (∀ i (h : i < T.length), i < k → T[i].2.1 < r) → tabCls r T = tabCls r (T.drop k)
  | [], k, _ => by simp
  | x :: t, 0, _ => rfl
  | (a, b, c) :: t, k + 1, h => by
    have h0 := h 0 (by simp) (by omega)
    simp only [List.getElem_cons_zero] at h0
    rw [List.drop_succ_cons, ← tabCls_drop r t k fun i hi hk => by
      have := h (i + 1) (by simpa using hi) (by omega)
      simpa using this]
    conv => lhs; unfold tabCls
    rw [if_neg (by omega)]

def hiAt (T : List (Int × Int × Int)) (i : Nat) : Int := (T.getD i (0, 0, 0)).2.1

theorem found_tab (r : Int) (T : List (Int × Int × Int)) (hs : sorted T = true) (k : Nat) (h : Found T.length (fun i => decide (r ≤ hiAt T i)) k) :
    (k = T.length → tabCls r T = 0) ∧ (∀ hk : k < T.length, tabCls r T = if T[k].1 ≤ r then T[k].2.2 else 0) := by
  have hall : ∀ i (hi : i < T.length), i < k → T[i].2.1 < r := by
    intro i hi hik
    rcases h.ahead with e | e
    · omega
    have hk1 : k - 1 < T.length := by have := h.le; omega
    simp only [decide_eq_false_iff_not, hiAt, List.getD_eq_getElem?_getD, List.getElem?_eq_getElem hk1, Option.getD_some] at e
    by_cases e2 : i = k - 1
    · subst e2; omega
    · have := sorted_get T hs i (k - 1) hi hk1 (by omega)
      omega
  refine ⟨fun e => ?_, fun hk => ?_⟩
  · rw [tabCls_drop r T k hall, e, List.drop_length]; rfl
  · rw [tabCls_drop r T k hall, List.drop_eq_getElem_cons hk]
    have hp : r ≤ T[k].2.1 := by
      rcases h.at_ with e | e
      · omega
      · simpa [hiAt, List.getD_eq_getElem?_getD, List.getElem?_eq_getElem hk] using e
    generalize T[k] = x at *
    obtain ⟨a, b, c⟩ := x
    show (if r ≤ b then (if a ≤ r then c else 0) else _) = _
    rw [if_pos hp]
end Go.Proofs.Ytfhmeemkmdkhoaa
