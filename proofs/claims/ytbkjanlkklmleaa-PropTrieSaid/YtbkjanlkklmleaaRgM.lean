/- Chapter 02: what merge, Not and Cut make, step by step: plain laws. -/
import Derived.Test.YtbkjanlkklmleaaRgP
namespace Go.Proofs.Ytbkjanlkklmleaa
set_option linter.unusedVariables false

/-- One range more, behind those that are merged. -/
def mrgS (out : List Rg) (x : Rg) : List Rg := match out.getLast? with
  | some z => if x.1 ≤ z.2 + 1 then out.dropLast ++ [(z.1, max z.2 x.2)] else out ++ [x]
  | none => [x]
theorem mrgS_nil (x : Rg) : mrgS [] x = [x] := rfl
theorem mrgS_on {o : List Rg} {z x : Rg} (h : x.1 ≤ z.2 + 1) : mrgS (o ++ [z]) x = o ++ [(z.1, max z.2 x.2)] := by
  unfold mrgS
  rw [List.getLast?_concat]
  simp only
  rw [if_pos h, List.dropLast_concat]
theorem mrgS_new {o : List Rg} {z x : Rg} (h : ¬ x.1 ≤ z.2 + 1) : mrgS (o ++ [z]) x = o ++ [z] ++ [x] := by
  unfold mrgS
  rw [List.getLast?_concat]
  simp only
  rw [if_neg h]
theorem foldl_mrg : ∀ (l o : List Rg) (c : Rg), l.foldl mrgS (o ++ [c]) = o ++ mergeF c l
  | [], o, c => rfl
  | x :: l, o, c => by
    rw [List.foldl_cons]
    unfold mergeF
    by_cases h : x.1 ≤ c.2 + 1
    · rw [mrgS_on h, if_pos h, foldl_mrg l o]
    · rw [mrgS_new h, if_neg h, foldl_mrg l (o ++ [c]), List.append_assoc]
      rfl
theorem merge_fold (l : List Rg) : l.foldl mrgS [] = mergeR l := by
  cases l with
  | nil => rfl
  | cons x l => exact foldl_mrg l [] x
theorem mergeF_len : ∀ (l : List Rg) (c : Rg), (mergeF c l).length ≤ l.length + 1
  | [], c => Nat.le_refl _
  | x :: l, c => by
    unfold mergeF
    split
    · have := mergeF_len l (c.1, max c.2 x.2); simp only [List.length_cons]; omega
    · have := mergeF_len l x; simp only [List.length_cons]; omega
theorem mergeR_len (l : List Rg) : (mergeR l).length ≤ l.length := by
  cases l with
  | nil => exact Nat.le_refl _
  | cons x l => have := mergeF_len l x; simpa [mergeR] using this
/-- One range more of what isn't in. -/
def notS (s : List Rg × Int) (x : Rg) : List Rg × Int := (if s.2 < x.1 then s.1 ++ [(s.2, x.1 - 1)] else s.1, x.2 + 1)
def notE (s : List Rg × Int) : List Rg := if s.2 ≤ 1114111 then s.1 ++ [(s.2, 1114111)] else s.1
theorem foldl_not : ∀ (l : List Rg) (s : List Rg × Int), notE (l.foldl notS s) = s.1 ++ notF s.2 l
  | [], s => by
    show (if s.2 ≤ 1114111 then s.1 ++ [(s.2, 1114111)] else s.1) = s.1 ++ (if s.2 ≤ 1114111 then [(s.2, 1114111)] else [])
    by_cases h : s.2 ≤ 1114111
    · rw [if_pos h, if_pos h]
    · rw [if_neg h, if_neg h, List.append_nil]
  | x :: l, s => by
    rw [List.foldl_cons, foldl_not l]
    show (if s.2 < x.1 then s.1 ++ [(s.2, x.1 - 1)] else s.1) ++ notF (x.2 + 1) l = s.1 ++ ((if s.2 < x.1 then [(s.2, x.1 - 1)] else []) ++ notF (x.2 + 1) l)
    by_cases h : s.2 < x.1
    · rw [if_pos h, if_pos h, List.append_assoc]
    · rw [if_neg h, if_neg h, List.nil_append]
theorem not_fold (l : List Rg) : notE (l.foldl notS ([], 0)) = notR l := by rw [foldl_not]; rfl
theorem notF_len : ∀ (l : List Rg) (f : Int), (notF f l).length ≤ l.length + 1
  | [], f => by unfold notF; split <;> simp
  | x :: l, f => by
    have := notF_len l (x.2 + 1)
    unfold notF
    rw [List.length_append]
    split <;> simp only [List.length_cons, List.length_nil] <;> omega
theorem notR_len (l : List Rg) : (notR l).length ≤ l.length + 1 := notF_len l 0
theorem cutF_len : ∀ (f : Nat) (l k : List Rg), (cutF f l k).length ≤ f
  | 0, l, k => Nat.le_of_eq rfl
  | f + 1, [], k => by simp [cutF]
  | f + 1, x :: l, [] => by simp [cutF]
  | f + 1, x :: l, y :: k => by
    have h1 := cutF_len f l (y :: k)
    have h2 := cutF_len f (x :: l) k
    rw [cutF, List.length_append]
    split <;> split <;> simp only [List.length_cons, List.length_nil] <;> omega
theorem cutR_len (l k : List Rg) : (cutR l k).length ≤ l.length + k.length := cutF_len _ l k
/-- More turns than are wanted change nothing. -/
theorem cutF_more : ∀ (f g : Nat) (l k : List Rg), l.length + k.length ≤ f → l.length + k.length ≤ g → cutF f l k = cutF g l k
  | 0, 0, l, k, _, _ => rfl
  | 0, g + 1, [], k, _, _ => rfl
  | 0, g + 1, x :: l, k, h, _ => by simp at h
  | f + 1, 0, [], k, _, _ => rfl
  | f + 1, 0, x :: l, k, _, h => by simp at h
  | f + 1, g + 1, [], k, _, _ => rfl
  | f + 1, g + 1, x :: l, [], _, _ => rfl
  | f + 1, g + 1, x :: l, y :: k, h1, h2 => by
    simp only [List.length_cons] at h1 h2
    rw [cutF, cutF]
    congr 1
    split
    · exact cutF_more f g l (y :: k) (by simp only [List.length_cons]; omega) (by simp only [List.length_cons]; omega)
    · exact cutF_more f g (x :: l) k (by simp only [List.length_cons]; omega) (by simp only [List.length_cons]; omega)
/-- Cut goes on from what is left of each. -/
def cutO (x y : Rg) : List Rg := if max x.1 y.1 ≤ min x.2 y.2 then [(max x.1 y.1, min x.2 y.2)] else []
theorem cutR_nil1 (k : List Rg) : cutR [] k = [] := by cases k <;> (unfold cutR cutF; split <;> simp_all)
theorem cutR_nil2 (l : List Rg) : cutR l [] = [] := by cases l <;> (unfold cutR cutF; split <;> simp_all)
theorem cutR_step (x y : Rg) (l k : List Rg) : cutR (x :: l) (y :: k) = cutO x y ++ (if x.2 < y.2 then cutR l (y :: k) else cutR (x :: l) k) := by
  show cutF ((x :: l).length + (y :: k).length) (x :: l) (y :: k) = _
  rw [show (x :: l).length + (y :: k).length = (l.length + k.length + 1) + 1 by simp only [List.length_cons]; omega, cutF]
  unfold cutO
  congr 1
  split
  · exact cutF_more _ _ l (y :: k) (by simp only [List.length_cons]; omega) (by simp only [List.length_cons]; omega)
  · exact cutF_more _ _ (x :: l) k (by simp only [List.length_cons]; omega) (by simp only [List.length_cons]; omega)
end Go.Proofs.Ytbkjanlkklmleaa
