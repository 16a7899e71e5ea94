/- Chapter 02's answer: what is in, asked where something may change: the plain law. Of no program. -/
import Derived.Test.YtbkjanlkklmleaaRgP
namespace Go.Proofs.Ytbkjanlkklmleaa
set_option linter.unusedVariables false

/-- A number into numbers that rise, if it isn't there. -/
def insL : List Int → Int → List Int
  | [], r => [r]
  | x :: l, r => if x < r then x :: insL l r else if x = r then x :: l else r :: x :: l
theorem insL_mem (r y : Int) : ∀ l, y ∈ insL l r ↔ y = r ∨ y ∈ l
  | [] => by simp [insL]
  | x :: l => by
    unfold insL
    split
    · rw [List.mem_cons, insL_mem r y l, List.mem_cons]
      constructor
      · rintro (h | h | h)
        · exact .inr (.inl h)
        · exact .inl h
        · exact .inr (.inr h)
      · rintro (h | h | h)
        · exact .inr (.inl h)
        · exact .inl h
        · exact .inr (.inr h)
    · split
      · rename_i h
        subst h
        rw [List.mem_cons]
        constructor
        · exact .inr
        · rintro (h | h)
          · exact .inl h
          · exact h
      · rw [List.mem_cons]
theorem insL_sorted (r : Int) : ∀ l, l.Pairwise (· < ·) → (insL l r).Pairwise (· < ·)
  | [], _ => by simp [insL]
  | x :: l, h => by
    obtain ⟨h1, h2⟩ := List.pairwise_cons.1 h
    unfold insL
    split
    · rename_i hx
      refine List.pairwise_cons.2 ⟨fun y hy => ?_, insL_sorted r l h2⟩
      rcases (insL_mem r y l).1 hy with rfl | hy
      · exact hx
      · exact h1 y hy
    · split
      · exact h
      · refine List.pairwise_cons.2 ⟨fun y hy => ?_, h⟩
        rcases List.mem_cons.1 hy with rfl | hy
        · omega
        · have := h1 y hy; omega
/-- How many are less, from the beginning on. -/
def lessN : List Int → Int → Nat
  | [], _ => 0
  | x :: l, r => if x < r then lessN l r + 1 else 0
theorem lessN_le (r : Int) : ∀ l, lessN l r ≤ l.length
  | [] => Nat.le_refl _
  | x :: l => by
    unfold lessN
    split
    · have := lessN_le r l; simp only [List.length_cons]; omega
    · exact Nat.zero_le _
theorem lessN_at (r : Int) : ∀ (l : List Int) (i : Nat) (h : i < l.length), i < lessN l r → l[i] < r
  | x :: l, 0, h, h2 => by
    unfold lessN at h2
    split at h2
    · assumption
    · omega
  | x :: l, i + 1, h, h2 => by
    unfold lessN at h2
    split at h2
    · exact lessN_at r l i (by simpa using h) (by omega)
    · omega
theorem lessN_stop (r : Int) : ∀ (l : List Int) (h : lessN l r < l.length), ¬ l[lessN l r] < r
  | x :: l, h => by
    by_cases hx : x < r
    · have e : lessN (x :: l) r = lessN l r + 1 := by rw [lessN, if_pos hx]
      have := lessN_stop r l (by rw [e] at h; simpa using h)
      simp only [e]
      exact this
    · have e : lessN (x :: l) r = 0 := by rw [lessN, if_neg hx]
      simp only [e]
      exact hx
/-- Where all are less up to k, and the one at k is not. -/
theorem lessN_is {l : List Int} {r : Int} {k : Nat} (hk : k ≤ l.length) (h : ∀ j (hj : j < k), l[j]'(by omega) < r) (hs : ∀ (hk : k < l.length), ¬ l[k] < r) : lessN l r = k := by
  rcases Nat.lt_trichotomy (lessN l r) k with h1 | h1 | h1
  · exact absurd (h _ h1) (lessN_stop r l (by omega))
  · exact h1
  · exact absurd (lessN_at r l k (by have := lessN_le r l; omega) h1) (hs (by have := lessN_le r l; omega))
theorem insL_at (r : Int) : ∀ (l : List Int), insL l r = if h : lessN l r < l.length then (if l[lessN l r] = r then l else l.take (lessN l r) ++ r :: l.drop (lessN l r)) else l ++ [r]
  | [] => by simp [insL, lessN]
  | x :: l => by
    unfold insL
    by_cases hx : x < r
    · have e : lessN (x :: l) r = lessN l r + 1 := by rw [lessN, if_pos hx]
      rw [if_pos hx, insL_at r l]
      simp only [e, List.length_cons, Nat.add_lt_add_iff_right, List.getElem_cons_succ, List.take_succ_cons, List.drop_succ_cons, List.cons_append]
      by_cases hl : lessN l r < l.length
      · rw [dif_pos hl, dif_pos hl]
        split <;> rfl
      · rw [dif_neg hl, dif_neg hl]
    · have e : lessN (x :: l) r = 0 := by rw [lessN, if_neg hx]
      rw [if_neg hx]
      simp only [e, List.length_cons, Nat.zero_lt_succ, dif_pos, List.getElem_cons_zero, List.take_zero, List.drop_zero, List.nil_append]
/-- Where something may change, rising. -/
def pointsF (l : List Rg) : List Int := l.foldl (fun o x => insL (insL o x.1) (x.2 + 1)) [0]
def pointsR (l : List Rg) : List Int := insL (pointsF l) 1114112
theorem fold_points : ∀ (l : List Rg) (o : List Int), (∀ x ∈ l, okR x) → o.Pairwise (· < ·) → (∀ y ∈ o, 0 ≤ y ∧ y ≤ 1114112) → 0 ∈ o →
    (l.foldl (fun o x => insL (insL o x.1) (x.2 + 1)) o).Pairwise (· < ·) ∧ (∀ y ∈ l.foldl (fun o x => insL (insL o x.1) (x.2 + 1)) o, 0 ≤ y ∧ y ≤ 1114112) ∧ 0 ∈ l.foldl (fun o x => insL (insL o x.1) (x.2 + 1)) o ∧
    (∀ y ∈ o, y ∈ l.foldl (fun o x => insL (insL o x.1) (x.2 + 1)) o) ∧ ∀ x ∈ l, x.1 ∈ l.foldl (fun o x => insL (insL o x.1) (x.2 + 1)) o ∧ x.2 + 1 ∈ l.foldl (fun o x => insL (insL o x.1) (x.2 + 1)) o
  | [], o, _, h1, h2, h3 => ⟨h1, h2, h3, fun y hy => hy, fun x hx => by cases hx⟩
  | x :: l, o, ho, h1, h2, h3 => by
    have hx := ho x (List.mem_cons_self ..)
    obtain ⟨i1, i2, i3, i4, i5⟩ := fold_points l (insL (insL o x.1) (x.2 + 1)) (fun y hy => ho y (List.mem_cons_of_mem _ hy)) (insL_sorted _ _ (insL_sorted _ _ h1)) (fun y hy => by
      rcases (insL_mem _ y _).1 hy with rfl | hy
      · have := hx.1; have := hx.2.1; have := hx.2.2; omega
      · rcases (insL_mem _ y _).1 hy with rfl | hy
        · have := hx.1; have := hx.2.1; have := hx.2.2; omega
        · exact h2 y hy) ((insL_mem ..).2 (.inr ((insL_mem ..).2 (.inr h3))))
    rw [List.foldl_cons]
    refine ⟨i1, i2, i3, fun y hy => i4 y ((insL_mem ..).2 (.inr ((insL_mem ..).2 (.inr hy)))), fun z hz => ?_⟩
    rcases List.mem_cons.1 hz with rfl | hz
    · exact ⟨i4 _ ((insL_mem ..).2 (.inr ((insL_mem ..).2 (.inl rfl)))), i4 _ ((insL_mem ..).2 (.inl rfl))⟩
    · exact i5 z hz
theorem points_law {l : List Rg} (ho : ∀ x ∈ l, okR x) : (pointsR l).Pairwise (· < ·) ∧ (∀ y ∈ pointsR l, 0 ≤ y ∧ y ≤ 1114112) ∧ 0 ∈ pointsR l ∧ 1114112 ∈ pointsR l ∧ ∀ x ∈ l, x.1 ∈ pointsR l ∧ x.2 + 1 ∈ pointsR l := by
  obtain ⟨i1, i2, i3, i4, i5⟩ := fold_points l [0] ho (by simp) (fun y hy => by rw [List.mem_singleton.1 hy]; decide) (List.mem_singleton_self 0)
  refine ⟨insL_sorted _ _ i1, fun y hy => ?_, (insL_mem ..).2 (.inr i3), (insL_mem ..).2 (.inl rfl), fun x hx => ⟨(insL_mem ..).2 (.inr (i5 x hx).1), (insL_mem ..).2 (.inr (i5 x hx).2)⟩⟩
  rcases (insL_mem _ y _).1 hy with rfl | hy
  · decide
  · exact i2 y hy
/-- One stretch more. -/
def gatS (W : Int → Bool) (out : List Rg) (p q : Int) : List Rg :=
  if W p then (match out.getLast? with
    | some z => if z.2 + 1 = p then out.dropLast ++ [(z.1, q - 1)] else out ++ [(p, q - 1)]
    | none => out ++ [(p, q - 1)])
  else out
def gatL (W : Int → Bool) : List Rg → List Int → List Rg
  | out, p :: q :: r => gatL W (gatS W out p q) (q :: r)
  | out, _ => out
theorem rightF_snoc : ∀ (o : List Rg) (b : Int) (z : Rg), rightF b o → b < z.1 → (∀ x ∈ o, x.2 + 1 < z.1) → z.1 ≤ z.2 → z.2 ≤ 1114111 → rightF b (o ++ [z])
  | [], b, z, _, h1, _, h2, h3 => ⟨h1, h2, h3, trivial⟩
  | x :: o, b, z, ⟨k1, k2, k3, k4⟩, h1, h, h2, h3 => ⟨k1, k2, k3, rightF_snoc o (x.2 + 1) z k4 (h x (List.mem_cons_self ..)) (fun y hy => h y (List.mem_cons_of_mem _ hy)) h2 h3⟩
theorem rightF_last : ∀ (o : List Rg) (b : Int) (z : Rg) (e : Int), rightF b (o ++ [z]) → z.1 ≤ e → e ≤ 1114111 → rightF b (o ++ [(z.1, e)])
  | [], b, z, e, ⟨k1, k2, k3, k4⟩, h1, h2 => ⟨k1, h1, h2, trivial⟩
  | x :: o, b, z, e, ⟨k1, k2, k3, k4⟩, h1, h2 => ⟨k1, k2, k3, rightF_last o (x.2 + 1) z e k4 h1 h2⟩
theorem gatS_law {W : Int → Bool} {out : List Rg} {p q : Int} (h0 : 0 ≤ p) (hpq : p < q) (hq : q ≤ 1114112) (hW : ∀ r, p ≤ r → r < q → W r = W p) (hr : rightR out) (hb : ∀ x ∈ out, x.2 < p) (hm : ∀ r, memR out r ↔ 0 ≤ r ∧ r < p ∧ W r = true) :
    rightR (gatS W out p q) ∧ (∀ x ∈ gatS W out p q, x.2 < q) ∧ ∀ r, memR (gatS W out p q) r ↔ 0 ≤ r ∧ r < q ∧ W r = true := by
  unfold gatS
  cases hwp : W p
  · rw [if_neg (by decide)]
    refine ⟨hr, fun x hx => by have := hb x hx; omega, fun r => (hm r).trans ?_⟩
    constructor
    · rintro ⟨a, b, c⟩; exact ⟨a, by omega, c⟩
    · rintro ⟨a, b, c⟩
      refine ⟨a, ?_, c⟩
      rcases Int.lt_or_le r p with h | h
      · exact h
      · rw [hW r h b, hwp] at c; cases c
  · rw [if_pos rfl]
    have hfin : ∀ r, (memR out r ∨ (p ≤ r ∧ r < q)) ↔ 0 ≤ r ∧ r < q ∧ W r = true := fun r => by
      rw [hm r]
      constructor
      · rintro (⟨a, b, c⟩ | ⟨a, b⟩)
        · exact ⟨a, by omega, c⟩
        · exact ⟨by omega, b, by rw [hW r a b]; exact hwp⟩
      · rintro ⟨a, b, c⟩
        rcases Int.lt_or_le r p with h | h
        · exact .inl ⟨a, h, c⟩
        · exact .inr ⟨h, b⟩
    have hnew : (∀ x ∈ out, x.2 + 1 < p) → rightR (out ++ [(p, q - 1)]) ∧ (∀ x ∈ out ++ [(p, q - 1)], x.2 < q) ∧ ∀ r, memR (out ++ [(p, q - 1)]) r ↔ 0 ≤ r ∧ r < q ∧ W r = true := fun h => by
      refine ⟨rightF_snoc out (-1) (p, q - 1) hr (by show -1 < p; omega) h (by show p ≤ q - 1; omega) (by show q - 1 ≤ _; omega), fun x hx => ?_, fun r => ?_⟩
      · rcases List.mem_append.1 hx with hx | hx
        · have := hb x hx; omega
        · rw [List.mem_singleton.1 hx]; show q - 1 < q; omega
      · rw [memR_append, memR_cons, ← hfin r]
        constructor
        · rintro (a | ⟨a, b⟩ | a)
          · exact .inl a
          · have b' : r ≤ q - 1 := b
            exact .inr ⟨a, by omega⟩
          · exact absurd a (memR_nil r)
        · rintro (a | ⟨a, b⟩)
          · exact .inl a
          · exact .inr (.inl ⟨a, by show r ≤ q - 1; omega⟩)
    cases hl : out.getLast? with
    | none =>
      have : out = [] := List.getLast?_eq_none_iff.1 hl
      simp only
      exact hnew fun x hx => by rw [this] at hx; cases hx
    | some z =>
      obtain ⟨o, ho⟩ : ∃ o, out = o ++ [z] := by
        have hne : out ≠ [] := fun e => by rw [e] at hl; cases hl
        refine ⟨out.dropLast, ?_⟩
        have h1 := List.dropLast_concat_getLast hne
        have h2 := List.getLast?_eq_some_getLast hne
        rw [hl] at h2
        rw [Option.some.inj h2]
        exact h1.symm
      simp only
      by_cases hz : z.2 + 1 = p
      · rw [if_pos hz]
        have hd : out.dropLast = o := by rw [ho, List.dropLast_concat]
        rw [hd]
        have hzz : z.1 ≤ z.2 := (rightF_all hr z (by rw [ho]; simp)).2.1
        refine ⟨?_, fun x hx => ?_, fun r => ?_⟩
        · rw [ho] at hr
          exact rightF_last o (-1) z (q - 1) hr (by omega) (by omega)
        · rcases List.mem_append.1 hx with hx | hx
          · have := hb x (by rw [ho]; exact List.mem_append_left _ hx); omega
          · rw [List.mem_singleton.1 hx]; show q - 1 < q; omega
        · rw [← hfin r, ho, memR_append, memR_append, memR_cons, memR_cons]
          constructor
          · rintro (a | ⟨a, b⟩ | a)
            · exact .inl (.inl a)
            · have a' : z.1 ≤ r := a
              have b' : r ≤ q - 1 := b
              by_cases h : r ≤ z.2
              · exact .inl (.inr (.inl ⟨a', h⟩))
              · exact .inr ⟨by omega, by omega⟩
            · exact absurd a (memR_nil r)
          · rintro ((a | ⟨a, b⟩ | a) | ⟨a, b⟩)
            · exact .inl a
            · exact .inr (.inl ⟨a, by show r ≤ q - 1; omega⟩)
            · exact absurd a (memR_nil r)
            · exact .inr (.inl ⟨by show z.1 ≤ r; omega, by show r ≤ q - 1; omega⟩)
      · rw [if_neg hz]
        refine hnew fun x hx => ?_
        have h1 := hb x hx
        have hzp := hb z (by rw [ho]; simp)
        rw [ho] at hx
        rcases List.mem_append.1 hx with h | h
        · have hlt : x.2 < z.1 := by
            have : ∀ (o : List Rg) (b : Int), rightF b (o ++ [z]) → ∀ x ∈ o, x.2 + 1 < z.1 := by
              intro o
              induction o with
              | nil => intro b _ x hx; cases hx
              | cons y o ih =>
                intro b hh x hx
                rcases List.mem_cons.1 hx with rfl | hx
                · exact (rightF_all hh.2.2.2 z (by simp)).1
                · exact ih _ hh.2.2.2 x hx
            rw [ho] at hr
            have := this o (-1) hr x h
            omega
          have hzz : z.1 ≤ z.2 := (rightF_all hr z (by rw [ho]; simp)).2.1
          omega
        · rw [List.mem_singleton.1 h]; omega
theorem gatL_law {W : Int → Bool} : ∀ (l : List Int) (p : Int) (out : List Rg), (p :: l).Pairwise (· < ·) → 0 ≤ p → (∀ y ∈ p :: l, y ≤ 1114112) → (∀ q r, p ≤ q → (∀ y ∈ p :: l, ¬ (q < y ∧ y ≤ r)) → q ≤ r → W r = W q) → rightR out → (∀ x ∈ out, x.2 < p) → (∀ r, memR out r ↔ 0 ≤ r ∧ r < p ∧ W r = true) →
    rightR (gatL W out (p :: l)) ∧ ∀ r, memR (gatL W out (p :: l)) r ↔ 0 ≤ r ∧ r < (p :: l).getLast (by simp) ∧ W r = true
  | [], p, out, _, _, _, _, hr, _, hm => ⟨hr, hm⟩
  | q :: l, p, out, hs, h0, hb, hW, hr, hbb, hm => by
    obtain ⟨s1, s2⟩ := List.pairwise_cons.1 hs
    have hpq := s1 q (List.mem_cons_self ..)
    obtain ⟨i1, i2, i3⟩ := gatS_law (W := W) h0 hpq (hb q (by simp)) (fun r h1 h2 => hW p r (Int.le_refl _) (fun y hy => by
      rintro ⟨k1, k2⟩
      rcases List.mem_cons.1 hy with rfl | hy
      · omega
      · rcases List.mem_cons.1 hy with rfl | hy
        · omega
        · have := (List.pairwise_cons.1 s2).1 y hy
          omega) h1) hr hbb hm
    have := gatL_law l q (gatS W out p q) s2 (by omega) (fun y hy => hb y (List.mem_cons_of_mem _ hy)) (fun u v h1 h2 h3 => hW u v (by omega) (fun y hy => by
      rcases List.mem_cons.1 hy with rfl | hy
      · omega
      · exact h2 y hy) h3) i1 i2 i3
    simpa [gatL] using this
theorem const_in {l : List Rg} {at_ : List Int} (h : ∀ x ∈ l, x.1 ∈ at_ ∧ x.2 + 1 ∈ at_) {q r : Int} (hq : q ≤ r) (hn : ∀ y ∈ at_, ¬ (q < y ∧ y ≤ r)) : memR l r ↔ memR l q := by
  constructor
  · rintro ⟨x, hx, h1, h2⟩
    obtain ⟨a, b⟩ := h x hx
    have := hn _ a
    exact ⟨x, hx, by omega, by omega⟩
  · rintro ⟨x, hx, h1, h2⟩
    obtain ⟨a, b⟩ := h x hx
    have := hn _ b
    exact ⟨x, hx, by omega, by omega⟩
/-- The document's gathering: right, and of the numbers that are wanted. -/
theorem gather_law {a b : List Rg} {W : Int → Bool} (ha : ∀ x ∈ a, okR x) (hb : ∀ x ∈ b, okR x) (hW : ∀ q r, (memR a r ↔ memR a q) → (memR b r ↔ memR b q) → W r = W q) :
    rightR (gatL W [] (pointsR (a ++ b))) ∧ ∀ r, memR (gatL W [] (pointsR (a ++ b))) r ↔ 0 ≤ r ∧ r ≤ 1114111 ∧ W r = true := by
  have ho : ∀ x ∈ a ++ b, okR x := fun x hx => (List.mem_append.1 hx).elim (ha x) (hb x)
  obtain ⟨p1, p2, p3, p4, p5⟩ := points_law ho
  cases hp : pointsR (a ++ b) with
  | nil => rw [hp] at p3; cases p3
  | cons p l =>
    rw [hp] at p1 p2 p3 p4 p5
    obtain ⟨s1, s2⟩ := List.pairwise_cons.1 p1
    have hp0 : p = 0 := by
      have h1 := (p2 p (List.mem_cons_self ..)).1
      rcases List.mem_cons.1 p3 with h | h
      · exact h.symm
      · have := s1 0 h; omega
    subst hp0
    have hlast : (0 :: l : List Int).getLast (by simp) = 1114112 := by
      have hle := (p2 _ (List.getLast_mem (l := (0 : Int) :: l) (by simp))).2
      have hge : ∀ (l : List Int) (hne : l ≠ []), l.Pairwise (· < ·) → ∀ y ∈ l, y ≤ l.getLast hne := by
        intro l
        induction l with
        | nil => intro hne; exact absurd rfl hne
        | cons x l ih =>
          intro hne hs y hy
          obtain ⟨t1, t2⟩ := List.pairwise_cons.1 hs
          cases l with
          | nil => rw [List.mem_singleton.1 hy]; exact Int.le_refl _
          | cons z l =>
            rw [List.getLast_cons (by simp)]
            rcases List.mem_cons.1 hy with rfl | hy
            · exact Int.le_of_lt (t1 _ (List.getLast_mem _))
            · exact ih (by simp) t2 y hy
      have := hge _ (by simp) p1 _ p4
      omega
    obtain ⟨i1, i2⟩ := gatL_law (W := W) l 0 [] p1 (Int.le_refl _) (fun y hy => (p2 y hy).2) (fun q r hq hn hqr => hW q r (const_in (fun x hx => p5 x (List.mem_append_left _ hx)) hqr hn) (const_in (fun x hx => p5 x (List.mem_append_right _ hx)) hqr hn)) trivial (fun x hx => by cases hx) (fun r => ⟨fun h => absurd h (memR_nil r), fun h => by omega⟩)
    refine ⟨i1, fun r => ?_⟩
    rw [i2 r, hlast]
    constructor
    · rintro ⟨a, b, c⟩; exact ⟨a, by omega, c⟩
    · rintro ⟨a, b, c⟩; exact ⟨a, by omega, c⟩
end Go.Proofs.Ytbkjanlkklmleaa
