/- Chapter 04: the sets of the classes: the plain law. -/
import Derived.Test.YtbkjanlkklmleaaP4
import Derived.Test.YtbkjanlkklmleaaRgI
import Derived.Test.YtbkjanlkklmleaaRgC
namespace Go.Proofs.Ytbkjanlkklmleaa
open Go.RowKit
open Go.Lib (hid)
set_option linter.unusedVariables false
set_option maxRecDepth 100000

/-- The first n of Hangul's: so many each, from one on. -/
def sylL (f m : Int) (n : Nat) : List Rg := (List.range n).map fun (k : Nat) => (44032 + 28 * (k : Int) + f, 44032 + 28 * (k : Int) + f + m - 1)
theorem sylL_zero (f m : Int) : sylL f m 0 = [] := rfl
theorem sylL_succ (f m : Int) (n : Nat) : sylL f m (n + 1) = sylL f m n ++ [(44032 + 28 * (n : Int) + f, 44032 + 28 * (n : Int) + f + m - 1)] := by
  unfold sylL
  rw [List.range_succ, List.map_append]
  rfl
theorem sylL_len (f m : Int) (n : Nat) : (sylL f m n).length = n := by simp [sylL]
theorem mem_syl (f m : Int) (n : Nat) (r : Int) : memR (sylL f m n) r ↔ ∃ k : Nat, k < n ∧ 44032 + 28 * (k : Int) + f ≤ r ∧ r ≤ 44032 + 28 * (k : Int) + f + m - 1 := by
  constructor
  · rintro ⟨x, hx, h⟩
    obtain ⟨k, hk, rfl⟩ := List.mem_map.1 hx
    exact ⟨k, List.mem_range.1 hk, h⟩
  · rintro ⟨k, hk, h⟩
    exact ⟨_, List.mem_map.2 ⟨k, List.mem_range.2 hk, rfl⟩, h⟩
/-- The ranges that are told of a class. -/
def toldL (c : Nat) : List Rg := if c = 14 then sylL 0 1 399 else if c = 15 then sylL 1 27 399 else C4.refList c
theorem syl14_right : rightB (sylL 0 1 399) = true := by decide +kernel
theorem syl15_right : rightB (sylL 1 27 399) = true := by decide +kernel
theorem refs_right : ((List.range 36).all fun c => rightB (C4.refList c)) = true := by decide +kernel
theorem told_right (c : Nat) (h : c < 36) : rightR (toldL c) := by
  unfold toldL
  split
  · exact (rightB_iff _).1 syl14_right
  · split
    · exact (rightB_iff _).1 syl15_right
    · exact (rightB_iff _).1 (List.all_eq_true.1 refs_right c (List.mem_range.2 h))
theorem told_lens : ((List.range 36).all fun c => decide ((toldL c).length ≤ 400)) = true := by decide +kernel
theorem told_len (c : Nat) (h : c < 36) : (toldL c).length ≤ 400 := of_decide_eq_true (List.all_eq_true.1 told_lens c (List.mem_range.2 h))
theorem ref_beside : ((List.range 36).all fun c => (C4.refList c).all fun p => decide (p.2 < 44032) || decide (55203 < p.1)) = true := by decide +kernel
theorem han_iff (r : Int) : C4.hanB r = true ↔ 44032 ≤ r ∧ r ≤ 55203 := by simp [C4.hanB]
theorem told_cls {c : Nat} (h1 : 1 ≤ c) (h2 : c < 36) {r : Int} (h : memR (toldL c) r) : C4.cls r = c := by
  unfold toldL at h
  split at h
  · rename_i hc
    subst hc
    obtain ⟨k, hk, a, b⟩ := (mem_syl _ _ _ _).1 h
    have hh := (han_iff r).2 (by omega)
    unfold C4.cls
    rw [if_pos hh, if_pos (by omega)]
    rfl
  · split at h
    · rename_i hc
      subst hc
      obtain ⟨k, hk, a, b⟩ := (mem_syl _ _ _ _).1 h
      have hh := (han_iff r).2 (by omega)
      unfold C4.cls
      rw [if_pos hh, if_neg (by omega)]
      rfl
    · obtain ⟨p, hp, a, b⟩ := h
      have hb := List.all_eq_true.1 (List.all_eq_true.1 ref_beside c (List.mem_range.2 h2)) p hp
      simp only [Bool.or_eq_true, decide_eq_true_iff] at hb
      have hh : ¬ C4.hanB r = true := fun e => by have := (han_iff r).1 e; omega
      have ht := List.all_eq_true.1 (List.all_eq_true.1 C4.ref_in_tab c (List.mem_range.2 h2)) p hp
      obtain ⟨x, hx, hx2⟩ := List.any_eq_true.1 ht
      simp only [Bool.and_eq_true, beq_iff_eq] at hx2
      obtain ⟨⟨e1, e2⟩, e3⟩ := hx2
      unfold C4.cls
      rw [if_neg hh, C4.tabCls_mem r C4.tab C4.tab_sorted x hx (by omega) (by omega), e3]
theorem cls_told (r : Int) : C4.cls r = 0 ∨ ∃ c : Nat, 1 ≤ c ∧ c < 36 ∧ C4.cls r = c ∧ memR (toldL c) r := by
  by_cases hh : C4.hanB r = true
  · right
    have hr := (han_iff r).1 hh
    by_cases h0 : (r - 44032) % 28 = 0
    · refine ⟨14, by decide, by decide, by unfold C4.cls; rw [if_pos hh, if_pos h0]; rfl, ?_⟩
      show memR (sylL 0 1 399) r
      exact (mem_syl _ _ _ _).2 ⟨((r - 44032) / 28).toNat, by omega, by omega, by omega⟩
    · refine ⟨15, by decide, by decide, by unfold C4.cls; rw [if_pos hh, if_neg h0]; rfl, ?_⟩
      show memR (sylL 1 27 399) r
      exact (mem_syl _ _ _ _).2 ⟨((r - 44032) / 28).toNat, by omega, by omega, by omega⟩
  · rw [C4.cls_eq]
    unfold C4.refCls
    rw [if_neg hh]
    rcases C4.refFrom_spec r 35 1 with ⟨d, h1, h2, h3, h4⟩ | ⟨_, h2⟩
    · right
      refine ⟨d, h1, by omega, h4, ?_⟩
      unfold C4.inB at h3
      obtain ⟨p, hp, hq⟩ := List.any_eq_true.1 h3
      simp only [Bool.and_eq_true, decide_eq_true_iff] at hq
      have hd : ¬ d = 14 ∧ ¬ d = 15 := by
        constructor
        · rintro rfl; exact absurd hp (by show ¬ p ∈ []; simp)
        · rintro rfl; exact absurd hp (by show ¬ p ∈ []; simp)
      unfold toldL
      rw [if_neg hd.1, if_neg hd.2]
      exact ⟨p, hp, hq⟩
    · exact .inl h2
/-- All ranges of the document, but of Other. -/
def allL : List Rg := (44032, 55203) :: (List.range 35).flatMap fun i => C4.refList (i + 1)
theorem allL_ok0 : (allL.all okB) = true := by decide +kernel
theorem allL_ok : ∀ x ∈ allL, okR x := fun x hx => of_decide_eq_true (List.all_eq_true.1 allL_ok0 x hx)
theorem mem_allL (r : Int) : memR allL r ↔ ∃ c : Nat, 1 ≤ c ∧ c < 36 ∧ memR (toldL c) r := by
  unfold allL
  rw [memR_cons]
  constructor
  · rintro (h | ⟨x, hx, h⟩)
    · rcases cls_told r with h0 | ⟨c, h1, h2, _, h4⟩
      · exfalso
        have hh := (han_iff r).2 h
        unfold C4.cls at h0
        rw [if_pos hh] at h0
        split at h0 <;> exact absurd h0 (by decide)
      · exact ⟨c, h1, h2, h4⟩
    · obtain ⟨i, hi, hx⟩ := List.mem_flatMap.1 hx
      have hi := List.mem_range.1 hi
      refine ⟨i + 1, by omega, by omega, ?_⟩
      have hd : ¬ i + 1 = 14 ∧ ¬ i + 1 = 15 := by
        constructor
        · intro e; rw [e] at hx; exact absurd hx (by show ¬ x ∈ []; simp)
        · intro e; rw [e] at hx; exact absurd hx (by show ¬ x ∈ []; simp)
      unfold toldL
      rw [if_neg hd.1, if_neg hd.2]
      exact ⟨x, hx, h⟩
  · rintro ⟨c, h1, h2, h⟩
    have hc := told_cls h1 h2 h
    by_cases hh : C4.hanB r = true
    · exact .inl ((han_iff r).1 hh)
    · right
      unfold toldL at h
      split at h
      · obtain ⟨k, hk, a, b⟩ := (mem_syl _ _ _ _).1 h
        exact absurd ((han_iff r).2 (by omega)) hh
      · split at h
        · obtain ⟨k, hk, a, b⟩ := (mem_syl _ _ _ _).1 h
          exact absurd ((han_iff r).2 (by omega)) hh
        · obtain ⟨x, hx, h⟩ := h
          refine ⟨x, List.mem_flatMap.2 ⟨c - 1, List.mem_range.2 (by omega), ?_⟩, h⟩
          rw [show c - 1 + 1 = c by omega]
          exact hx
/-- All numbers of a class. -/
def setL (c : Nat) : List Rg := if c = 0 then gathR (gathR allL [] 0) [] 3 else toldL c
theorem other_law : rightR (gathR (gathR allL [] 0) [] 3) ∧ ∀ r, memR (gathR (gathR allL [] 0) [] 3) r ↔ 0 ≤ r ∧ r ≤ 1114111 ∧ ¬ memR allL r := by
  obtain ⟨g1, g2⟩ := gath_or allL_ok (b := []) (fun x hx => by cases hx)
  obtain ⟨k1, k2⟩ := gath_not (right_ok g1) (b := []) (fun x hx => by cases hx)
  refine ⟨k1, fun r => (k2 r).trans ?_⟩
  rw [g2]
  constructor
  · rintro ⟨a, b, c⟩; exact ⟨a, b, fun h => c (.inl h)⟩
  · rintro ⟨a, b, c⟩; exact ⟨a, b, fun h => h.elim c (memR_nil r)⟩
theorem set_right (c : Nat) (h : c < 36) : rightR (setL c) := by
  unfold setL
  split
  · exact other_law.1
  · exact told_right c h
theorem mem_set (c : Nat) (h : c < 36) (r : Int) (h0 : 0 ≤ r) (h1 : r ≤ 1114111) : memR (setL c) r ↔ C4.cls r = c := by
  unfold setL
  split
  · rename_i hc
    subst hc
    rw [other_law.2, mem_allL]
    constructor
    · rintro ⟨_, _, hn⟩
      rcases cls_told r with h0 | ⟨c, k1, k2, _, k4⟩
      · exact h0
      · exact absurd ⟨c, k1, k2, k4⟩ hn
    · intro e
      refine ⟨h0, h1, fun ⟨c, k1, k2, k4⟩ => ?_⟩
      have := told_cls k1 k2 k4
      rw [e] at this
      have : (0 : Int) = c := this
      omega
  · rename_i hc
    constructor
    · exact fun hm => told_cls (by omega) h hm
    · intro e
      rcases cls_told r with k0 | ⟨d, k1, k2, k3, k4⟩
      · rw [e] at k0; omega
      · obtain rfl : c = d := by omega
        exact k4
theorem mem_set_num {c : Nat} (h : c < 36) {r : Int} (hm : memR (setL c) r) : 0 ≤ r ∧ r ≤ 1114111 := mem_num (right_ok (set_right c h)) hm
/-- No number is in the sets of two classes. -/
theorem sets_apart {c d : Nat} (hc : c < 36) (hd : d < 36) (h : c ≠ d) : cutR (setL c) (setL d) = [] := by
  obtain ⟨c1, c2⟩ := cutR_law (set_right c hc) (set_right d hd)
  refine right_none c1 fun r hr => ?_
  obtain ⟨a, b⟩ := (c2 r).1 hr
  obtain ⟨n1, n2⟩ := mem_set_num hc a
  have e1 := (mem_set c hc r n1 n2).1 a
  have e2 := (mem_set d hd r n1 n2).1 b
  omega
theorem gatS_len (W : Int → Bool) (o : List Rg) (p q : Int) : (gatS W o p q).length ≤ o.length + 1 := by
  rcases list_snoc o with rfl | ⟨o, z, rfl⟩
  · cases h : W p
    · rw [gatS_no h]; simp
    · rw [gatS_nil h]; simp
  · cases h : W p
    · rw [gatS_no h]; simp
    · by_cases hz : z.2 + 1 = p
      · rw [gatS_on h hz]; simp
      · rw [gatS_new h hz]; simp
theorem gatL_len (W : Int → Bool) : ∀ (l : List Int) (o : List Rg), (gatL W o l).length ≤ o.length + l.length
  | [], o => Nat.le_refl _
  | [p], o => by rw [gatL_one]; simp
  | p :: q :: r, o => by
    rw [gatL_two]
    have h1 := gatL_len W (q :: r) (gatS W o p q)
    have h2 := gatS_len W o p q
    simp only [List.length_cons] at *
    omega
theorem gathR_len (l k : List Rg) (how : Int) : (gathR l k how).length ≤ 2 * (l ++ k).length + 2 := by
  have h1 := gatL_len (wantR l k how) (pointsR (l ++ k)) []
  have h2 := pointsR_len (l ++ k)
  unfold gathR
  simp only [List.length_nil] at h1
  omega
theorem all_len : allL.length ≤ 400 := of_decide_eq_true (by decide +kernel)
theorem setL_zero : setL 0 = gathR (gathR allL [] 0) [] 3 := if_pos rfl
theorem set_len_other : (setL 0).length ≤ 2000 := by
  rw [setL_zero]
  have h1 := gathR_len allL [] 0
  have h3 := all_len
  generalize gathR allL [] 0 = g at *
  have h2 := gathR_len g [] 3
  rw [List.append_nil] at h1 h2
  generalize gathR g [] 3 = k at *
  omega
theorem set_len (c : Nat) (h : c < 36) : (setL c).length ≤ 2000 := by
  by_cases h0 : c = 0
  · subst h0; exact set_len_other
  · unfold setL; rw [if_neg h0]; have := told_len c h; omega
end Go.Proofs.Ytbkjanlkklmleaa
