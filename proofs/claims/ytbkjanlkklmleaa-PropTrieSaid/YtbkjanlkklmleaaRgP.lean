/- Chapter 02: sets of numbers as lists of ranges: the plain law. Of no program. -/
import Derived.KernelRfl
namespace Go.Proofs.Ytbkjanlkklmleaa
set_option linter.unusedVariables false

abbrev Rg := Int × Int
def okR (x : Rg) : Prop := 0 ≤ x.1 ∧ x.1 ≤ x.2 ∧ x.2 ≤ 1114111
instance (x : Rg) : Decidable (okR x) := inferInstanceAs (Decidable (_ ∧ _ ∧ _))
/-- Is a number in one of them? -/
def memR (l : List Rg) (r : Int) : Prop := ∃ x ∈ l, x.1 ≤ r ∧ r ≤ x.2
/-- They rise, with something between, each beyond b. -/
def rightF : Int → List Rg → Prop
  | _, [] => True
  | b, x :: l => b < x.1 ∧ x.1 ≤ x.2 ∧ x.2 ≤ 1114111 ∧ rightF (x.2 + 1) l
def rightR (l : List Rg) : Prop := rightF (-1) l
theorem memR_nil (r : Int) : ¬ memR [] r := fun ⟨_, h, _⟩ => by cases h
theorem memR_cons (x : Rg) (l : List Rg) (r : Int) : memR (x :: l) r ↔ (x.1 ≤ r ∧ r ≤ x.2) ∨ memR l r := by
  constructor
  · rintro ⟨y, hy, h⟩
    rcases List.mem_cons.1 hy with rfl | hy
    · exact .inl h
    · exact .inr ⟨y, hy, h⟩
  · rintro (h | ⟨y, hy, h⟩)
    · exact ⟨x, List.mem_cons_self .., h⟩
    · exact ⟨y, List.mem_cons_of_mem _ hy, h⟩
theorem memR_append (l k : List Rg) (r : Int) : memR (l ++ k) r ↔ memR l r ∨ memR k r := by
  constructor
  · rintro ⟨y, hy, h⟩
    rcases List.mem_append.1 hy with hy | hy
    · exact .inl ⟨y, hy, h⟩
    · exact .inr ⟨y, hy, h⟩
  · rintro (⟨y, hy, h⟩ | ⟨y, hy, h⟩)
    · exact ⟨y, List.mem_append_left _ hy, h⟩
    · exact ⟨y, List.mem_append_right _ hy, h⟩
theorem rightF_mono : ∀ {l : List Rg} {b c : Int}, c ≤ b → rightF b l → rightF c l
  | [], _, _, _, _ => trivial
  | x :: l, b, c, h, ⟨h1, h2, h3, h4⟩ => ⟨by omega, h2, h3, h4⟩
theorem rightF_mem : ∀ {l : List Rg} {b r : Int}, rightF b l → memR l r → b < r ∧ r ≤ 1114111
  | [], _, _, _, h => absurd h (memR_nil _)
  | x :: l, b, r, ⟨h1, h2, h3, h4⟩, h => by
    rcases (memR_cons x l r).1 h with h | h
    · omega
    · have := rightF_mem h4 h; omega
theorem rightF_all : ∀ {l : List Rg} {b : Int}, rightF b l → ∀ x ∈ l, b < x.1 ∧ x.1 ≤ x.2 ∧ x.2 ≤ 1114111
  | [], _, _, x, h => by cases h
  | y :: l, b, ⟨h1, h2, h3, h4⟩, x, h => by
    rcases List.mem_cons.1 h with rfl | h
    · exact ⟨h1, h2, h3⟩
    · have := rightF_all h4 x h
      exact ⟨by omega, this.2⟩
theorem right_ok {l : List Rg} (h : rightR l) : ∀ x ∈ l, okR x := fun x hx => by
  have := rightF_all h x hx
  exact ⟨by omega, this.2⟩
/-- A right list is told by its numbers. -/
theorem right_unique : ∀ {l k : List Rg} {b c : Int}, rightF b l → rightF c k → (∀ r, memR l r ↔ memR k r) → l = k
  | [], [], _, _, _, _, _ => rfl
  | [], y :: k, b, c, _, ⟨_, h2, _, _⟩, h => by
    have : memR (y :: k) y.1 := (memR_cons ..).2 (.inl ⟨Int.le_refl _, h2⟩)
    exact absurd ((h y.1).2 this) (memR_nil _)
  | x :: l, [], b, c, ⟨_, h2, _, _⟩, _, h => by
    have : memR (x :: l) x.1 := (memR_cons ..).2 (.inl ⟨Int.le_refl _, h2⟩)
    exact absurd ((h x.1).1 this) (memR_nil _)
  | x :: l, y :: k, b, c, ⟨h1, h2, h3, h4⟩, ⟨k1, k2, k3, k4⟩, h => by
    have a1 : y.1 ≤ x.1 := by
      rcases (memR_cons y k _).1 ((h x.1).1 ((memR_cons ..).2 (.inl ⟨Int.le_refl _, h2⟩))) with q | q
      · exact q.1
      · have := rightF_mem k4 q; omega
    have a2 : x.1 ≤ y.1 := by
      rcases (memR_cons x l _).1 ((h y.1).2 ((memR_cons ..).2 (.inl ⟨Int.le_refl _, k2⟩))) with q | q
      · exact q.1
      · have := rightF_mem h4 q; omega
    have b1 : y.2 ≤ x.2 := by
      rcases Int.lt_or_le x.2 y.2 with q | q
      · exfalso
        have hm : memR (y :: k) (x.2 + 1) := (memR_cons ..).2 (.inl ⟨by omega, by omega⟩)
        rcases (memR_cons x l _).1 ((h _).2 hm) with q | q
        · omega
        · have := rightF_mem h4 q; omega
      · exact q
    have b2 : x.2 ≤ y.2 := by
      rcases Int.lt_or_le y.2 x.2 with q | q
      · exfalso
        have hm : memR (x :: l) (y.2 + 1) := (memR_cons ..).2 (.inl ⟨by omega, by omega⟩)
        rcases (memR_cons y k _).1 ((h _).1 hm) with q | q
        · omega
        · have := rightF_mem k4 q; omega
      · exact q
    have e : x = y := Prod.ext (by omega) (by omega)
    subst e
    rw [right_unique h4 k4 fun r => ?_]
    constructor
    · intro hr
      have := rightF_mem h4 hr
      rcases (memR_cons x k r).1 ((h r).1 ((memR_cons ..).2 (.inr hr))) with q | q
      · omega
      · exact q
    · intro hr
      have := rightF_mem k4 hr
      rcases (memR_cons x l r).1 ((h r).2 ((memR_cons ..).2 (.inr hr))) with q | q
      · omega
      · exact q
/-- What merge makes of ranges that are sorted, behind one. -/
def mergeF : Rg → List Rg → List Rg
  | c, [] => [c]
  | c, x :: l => if x.1 ≤ c.2 + 1 then mergeF (c.1, max c.2 x.2) l else c :: mergeF x l
def mergeR : List Rg → List Rg
  | [] => []
  | x :: l => mergeF x l
theorem mergeF_law : ∀ (l : List Rg) (c : Rg) (b : Int), b < c.1 → c.1 ≤ c.2 → c.2 ≤ 1114111 → (∀ x ∈ l, okR x) → (c :: l).Pairwise (fun x y => x.1 ≤ y.1) → rightF b (mergeF c l) ∧ ∀ r, memR (mergeF c l) r ↔ memR (c :: l) r
  | [], c, b, h1, h2, h3, _, _ => ⟨⟨h1, h2, h3, trivial⟩, fun r => Iff.rfl⟩
  | x :: l, c, b, h1, h2, h3, ho, hs => by
    have hx := ho x (List.mem_cons_self ..)
    have hsx := List.pairwise_cons.1 hs
    have hcx := hsx.1 x (List.mem_cons_self ..)
    unfold mergeF
    split
    · rename_i hle
      obtain ⟨i1, i2⟩ := mergeF_law l (c.1, max c.2 x.2) b h1 (by show c.1 ≤ max c.2 x.2; omega) (by show max c.2 x.2 ≤ _; have := hx.2.2; omega) (fun y hy => ho y (List.mem_cons_of_mem _ hy)) (List.pairwise_cons.2 ⟨fun y hy => hsx.1 y (List.mem_cons_of_mem _ hy), (List.pairwise_cons.1 hsx.2).2⟩)
      refine ⟨i1, fun r => (i2 r).trans ?_⟩
      rw [memR_cons, memR_cons, memR_cons]
      have := hx.2.1
      constructor
      · rintro (⟨h5, h6⟩ | h)
        · have h5' : c.1 ≤ r := h5
          have h6' : r ≤ max c.2 x.2 := h6
          by_cases hc : r ≤ c.2
          · exact .inl ⟨h5', hc⟩
          · exact .inr (.inl ⟨by omega, by omega⟩)
        · exact .inr (.inr h)
      · rintro (⟨h5, h6⟩ | ⟨h5, h6⟩ | h)
        · exact .inl ⟨h5, by show r ≤ max c.2 x.2; omega⟩
        · exact .inl ⟨by show c.1 ≤ r; omega, by show r ≤ max c.2 x.2; omega⟩
        · exact .inr h
    · rename_i hgt
      obtain ⟨i1, i2⟩ := mergeF_law l x (c.2 + 1) (by omega) hx.2.1 hx.2.2 (fun y hy => ho y (List.mem_cons_of_mem _ hy)) hsx.2
      refine ⟨⟨h1, h2, h3, i1⟩, fun r => ?_⟩
      rw [memR_cons, memR_cons c, i2 r]
theorem mergeR_law {l : List Rg} (ho : ∀ x ∈ l, okR x) (hs : l.Pairwise (fun x y => x.1 ≤ y.1)) : rightR (mergeR l) ∧ ∀ r, memR (mergeR l) r ↔ memR l r := by
  cases l with
  | nil => exact ⟨trivial, fun r => Iff.rfl⟩
  | cons x l =>
    have hx := ho x (List.mem_cons_self ..)
    exact mergeF_law l x (-1) (by have := hx.1; omega) hx.2.1 hx.2.2 (fun y hy => ho y (List.mem_cons_of_mem _ hy)) hs
theorem memR_perm {l k : List Rg} (h : l.Perm k) (r : Int) : memR l r ↔ memR k r := by
  constructor
  · rintro ⟨x, hx, q⟩; exact ⟨x, h.mem_iff.1 hx, q⟩
  · rintro ⟨x, hx, q⟩; exact ⟨x, h.mem_iff.2 hx, q⟩
/-- What is not in a right list, from a number on. -/
def notF : Int → List Rg → List Rg
  | f, [] => if f ≤ 1114111 then [(f, 1114111)] else []
  | f, x :: l => (if f < x.1 then [(f, x.1 - 1)] else []) ++ notF (x.2 + 1) l
theorem notF_law : ∀ (l : List Rg) (f b : Int), f ≤ 1114112 → rightF b l → f ≤ b + 1 → 0 ≤ f → (∀ c, c < f → rightF c (notF f l)) ∧ ∀ r, memR (notF f l) r ↔ f ≤ r ∧ r ≤ 1114111 ∧ ¬ memR l r
  | [], f, b, hf, _, _, h0 => by
    unfold notF
    split
    · refine ⟨fun c hc => ⟨hc, by assumption, Int.le_refl _, trivial⟩, fun r => ?_⟩
      rw [memR_cons]
      constructor
      · rintro (h | h)
        · exact ⟨h.1, h.2, memR_nil r⟩
        · exact absurd h (memR_nil r)
      · rintro ⟨h1, h2, _⟩; exact .inl ⟨h1, h2⟩
    · exact ⟨fun _ _ => trivial, fun r => ⟨fun h => absurd h (memR_nil r), fun h => by omega⟩⟩
  | x :: l, f, b, hf, ⟨h1, h2, h3, h4⟩, hb, h0 => by
    obtain ⟨i1, i2⟩ := notF_law l (x.2 + 1) (x.2 + 1) (by omega) h4 (by omega) (by omega)
    unfold notF
    by_cases hlt : f < x.1
    · rw [if_pos hlt]
      refine ⟨fun c hc => ⟨hc, by show f ≤ x.1 - 1; omega, by show x.1 - 1 ≤ _; omega, ?_⟩, fun r => ?_⟩
      · show rightF (x.1 - 1 + 1) (notF (x.2 + 1) l)
        exact i1 _ (by omega)
      · rw [List.singleton_append, memR_cons, i2 r, memR_cons]
        constructor
        · rintro (⟨a1, a2⟩ | ⟨a1, a2, a3⟩)
          · have a2' : r ≤ x.1 - 1 := a2
            refine ⟨a1, by omega, ?_⟩
            rintro (q | q)
            · omega
            · have := rightF_mem h4 q; omega
          · refine ⟨by omega, a2, ?_⟩
            rintro (q | q)
            · omega
            · exact a3 q
        · rintro ⟨a1, a2, a3⟩
          by_cases q : r < x.1
          · exact .inl ⟨a1, by show r ≤ x.1 - 1; omega⟩
          · have : ¬ (x.1 ≤ r ∧ r ≤ x.2) := fun q => a3 (.inl q)
            exact .inr ⟨by omega, a2, fun q => a3 (.inr q)⟩
    · rw [if_neg hlt, List.nil_append]
      have hfx : f = x.1 := by omega
      refine ⟨fun c hc => rightF_mono (by omega) (i1 x.2 (by omega)), fun r => ?_⟩
      rw [i2 r, memR_cons]
      constructor
      · rintro ⟨a1, a2, a3⟩
        refine ⟨by omega, a2, ?_⟩
        rintro (q | q)
        · omega
        · exact a3 q
      · rintro ⟨a1, a2, a3⟩
        have : ¬ (x.1 ≤ r ∧ r ≤ x.2) := fun q => a3 (.inl q)
        exact ⟨by omega, a2, fun q => a3 (.inr q)⟩
def notR (l : List Rg) : List Rg := notF 0 l
theorem notR_law {l : List Rg} (h : rightR l) : rightR (notR l) ∧ ∀ r, memR (notR l) r ↔ 0 ≤ r ∧ r ≤ 1114111 ∧ ¬ memR l r := by
  obtain ⟨i1, i2⟩ := notF_law l 0 (-1) (by decide) h (by decide) (by decide)
  exact ⟨i1 _ (by decide), i2⟩
/-- What is in both of two right lists. -/
def cutF : Nat → List Rg → List Rg → List Rg
  | 0, _, _ => []
  | _, [], _ => []
  | _, _, [] => []
  | f + 1, x :: l, y :: k => (if max x.1 y.1 ≤ min x.2 y.2 then [(max x.1 y.1, min x.2 y.2)] else []) ++ (if x.2 < y.2 then cutF f l (y :: k) else cutF f (x :: l) k)
theorem rightF_tail {x : Rg} {l : List Rg} {b : Int} (h : rightF b (x :: l)) : rightF (x.2 + 1) l := h.2.2.2
theorem cutF_law : ∀ (f : Nat) (l k : List Rg) (b c d : Int), l.length + k.length ≤ f → rightF b l → rightF c k → d ≤ b → d ≤ c → rightF d (cutF f l k) ∧ ∀ r, memR (cutF f l k) r ↔ memR l r ∧ memR k r
  | 0, l, k, b, c, d, hf, _, _, _, _ => by
    have hl : l = [] := List.length_eq_zero_iff.1 (by omega)
    subst hl
    exact ⟨trivial, fun r => ⟨fun h => absurd h (memR_nil r), fun h => absurd h.1 (memR_nil r)⟩⟩
  | f + 1, [], k, b, c, d, hf, _, _, _, _ => ⟨trivial, fun r => ⟨fun h => absurd h (memR_nil r), fun h => absurd h.1 (memR_nil r)⟩⟩
  | f + 1, x :: l, [], b, c, d, hf, _, _, _, _ => ⟨trivial, fun r => ⟨fun h => absurd h (memR_nil r), fun h => absurd h.2 (memR_nil r)⟩⟩
  | f + 1, x :: l, y :: k, b, c, d, hf, hl, hk, hdb, hdc => by
    obtain ⟨h1, h2, h3, h4⟩ := hl
    obtain ⟨k1, k2, k3, k4⟩ := hk
    have hcut : ∀ (t : List Rg) (lo : Int), lo = min x.2 y.2 + 1 → (∀ e, e ≤ lo → rightF e t) → (∀ r, memR t r → lo < r) → (∀ r, memR t r ↔ min x.2 y.2 < r ∧ memR (x :: l) r ∧ memR (y :: k) r) → rightF d ((if max x.1 y.1 ≤ min x.2 y.2 then [(max x.1 y.1, min x.2 y.2)] else []) ++ t) ∧ ∀ r, memR ((if max x.1 y.1 ≤ min x.2 y.2 then [(max x.1 y.1, min x.2 y.2)] else []) ++ t) r ↔ memR (x :: l) r ∧ memR (y :: k) r := by
      intro t lo hlo ht hlt hm
      by_cases hc : max x.1 y.1 ≤ min x.2 y.2
      · rw [if_pos hc, List.singleton_append]
        refine ⟨⟨by show d < max x.1 y.1; omega, hc, by show min x.2 y.2 ≤ _; omega, ht _ (by show min x.2 y.2 + 1 ≤ lo; omega)⟩, fun r => ?_⟩
        rw [memR_cons, hm r]
        constructor
        · rintro (⟨a1, a2⟩ | ⟨_, a⟩)
          · have a1' : max x.1 y.1 ≤ r := a1
            have a2' : r ≤ min x.2 y.2 := a2
            exact ⟨(memR_cons ..).2 (.inl ⟨by omega, by omega⟩), (memR_cons ..).2 (.inl ⟨by omega, by omega⟩)⟩
          · exact a
        · rintro ⟨a1, a2⟩
          by_cases q : min x.2 y.2 < r
          · exact .inr ⟨q, a1, a2⟩
          · left
            have e1 : x.1 ≤ r := by
              rcases (memR_cons x l r).1 a1 with e | e
              · exact e.1
              · have := rightF_mem h4 e; omega
            have e2 : y.1 ≤ r := by
              rcases (memR_cons y k r).1 a2 with e | e
              · exact e.1
              · have := rightF_mem k4 e; omega
            exact ⟨by show max x.1 y.1 ≤ r; omega, by show r ≤ min x.2 y.2; omega⟩
      · rw [if_neg hc, List.nil_append]
        refine ⟨ht d (by omega), fun r => ?_⟩
        rw [hm r]
        constructor
        · rintro ⟨_, a⟩; exact a
        · rintro ⟨a1, a2⟩
          refine ⟨?_, a1, a2⟩
          rcases (memR_cons x l r).1 a1 with e | e
          · rcases (memR_cons y k r).1 a2 with e' | e'
            · omega
            · have := rightF_mem k4 e'; omega
          · have := rightF_mem h4 e
            rcases (memR_cons y k r).1 a2 with e' | e'
            · omega
            · have := rightF_mem k4 e'; omega
    unfold cutF
    by_cases hxy : x.2 < y.2
    · rw [if_pos hxy]
      have hlen : l.length + (y :: k).length ≤ f := by simp only [List.length_cons] at hf ⊢; omega
      have key := fun e (he : e ≤ x.2 + 1) => cutF_law f l (y :: k) (x.2 + 1) (min c (y.1 - 1)) (min e (y.1 - 1)) hlen h4 ⟨by omega, k2, k3, k4⟩ (by omega)
      have hmem := (cutF_law f l (y :: k) (x.2 + 1) (y.1 - 1) (min (x.2 + 1) (y.1 - 1)) hlen h4 ⟨by omega, k2, k3, k4⟩ (by omega) (by omega))
      have hgt : ∀ r, memR (cutF f l (y :: k)) r → x.2 + 1 < r := fun r hr => (rightF_mem h4 ((hmem.2 r).1 hr).1).1
      refine hcut _ (x.2 + 1) (by omega) (fun e he => ?_) hgt (fun r => ?_)
      · have hr := hmem.1
        generalize cutF f l (y :: k) = t at *
        cases t with
        | nil => trivial
        | cons z t =>
          obtain ⟨z1, z2, z3, z4⟩ := hr
          exact ⟨by have := hgt z.1 ((memR_cons ..).2 (.inl ⟨Int.le_refl _, z2⟩)); omega, z2, z3, z4⟩
      · rw [hmem.2 r, memR_cons x]
        constructor
        · rintro ⟨a1, a2⟩
          have := rightF_mem h4 a1
          exact ⟨by omega, .inr a1, a2⟩
        · rintro ⟨a0, a1 | a1, a2⟩
          · omega
          · exact ⟨a1, a2⟩
    · rw [if_neg hxy]
      have hlen : (x :: l).length + k.length ≤ f := by simp only [List.length_cons] at hf ⊢; omega
      have hmem := (cutF_law f (x :: l) k (x.1 - 1) (y.2 + 1) (min (y.2 + 1) (x.1 - 1)) hlen ⟨by omega, h2, h3, h4⟩ k4 (by omega) (by omega))
      have hgt : ∀ r, memR (cutF f (x :: l) k) r → y.2 + 1 < r := fun r hr => (rightF_mem k4 ((hmem.2 r).1 hr).2).1
      refine hcut _ (y.2 + 1) (by omega) (fun e he => ?_) hgt (fun r => ?_)
      · have hr := hmem.1
        generalize cutF f (x :: l) k = t at *
        cases t with
        | nil => trivial
        | cons z t =>
          obtain ⟨z1, z2, z3, z4⟩ := hr
          exact ⟨by have := hgt z.1 ((memR_cons ..).2 (.inl ⟨Int.le_refl _, z2⟩)); omega, z2, z3, z4⟩
      · rw [hmem.2 r, memR_cons y]
        constructor
        · rintro ⟨a1, a2⟩
          have := rightF_mem k4 a2
          exact ⟨by omega, a1, .inr a2⟩
        · rintro ⟨a0, a1, a2 | a2⟩
          · omega
          · exact ⟨a1, a2⟩
def cutR (l k : List Rg) : List Rg := cutF (l.length + k.length) l k
theorem cutR_law {l k : List Rg} (h : rightR l) (h' : rightR k) : rightR (cutR l k) ∧ ∀ r, memR (cutR l k) r ↔ memR l r ∧ memR k r :=
  cutF_law _ l k (-1) (-1) (-1) (Nat.le_refl _) h h' (Int.le_refl _) (Int.le_refl _)
/-- How many numbers there are. -/
def countR : List Rg → Int
  | [] => 0
  | x :: l => x.2 - x.1 + 1 + countR l
end Go.Proofs.Ytbkjanlkklmleaa
