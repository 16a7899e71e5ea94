/- Chapter 02: a set's text: the plain law. Of no program. -/
import Derived.Test.YtbkjanlkklmleaaGreatDoorHex
import Derived.Test.YtbkjanlkklmleaaGreatDoorRgP
namespace Go.Proofs.YtbkjanlkklmleaaGreatDoor
set_option linter.unusedVariables false

/-- A range's text. -/
def itemD (x : Rg) : List UInt8 := hex4D x.1.toNat ++ (if x.1 = x.2 then [] else 45 :: hex4D x.2.toNat)
/-- Texts with a comma ahead of each. -/
def tailD : List Rg → List UInt8
  | [] => []
  | x :: l => 44 :: (itemD x ++ tailD l)
def noneD : List UInt8 := [110, 111, 110, 101]
def printD : List Rg → List UInt8
  | [] => noneD
  | x :: l => itemD x ++ tailD l
theorem tailD_append : ∀ (l k : List Rg), tailD (l ++ k) = tailD l ++ tailD k
  | [], k => rfl
  | x :: l, k => by rw [List.cons_append, tailD, tailD, tailD_append l k, List.cons_append, List.append_assoc]
/-- What is read so far: whole ranges, a range's first number, the number so far. -/
structure Rdg where
  out : List Rg
  lo : Option Int
  cur : Int
def Rdg.fin (s : Rdg) : List Rg := s.out ++ [(s.lo.getD s.cur, s.cur)]
def Rdg.step (s : Rdg) (c : UInt8) : Rdg :=
  if c = 44 then ⟨s.fin, none, 0⟩ else if c = 45 then ⟨s.out, some s.cur, 0⟩ else ⟨s.out, s.lo, 16 * s.cur + hxV c⟩
theorem step_hx {c : UInt8} (h : hxP c = true) (s : Rdg) : s.step c = ⟨s.out, s.lo, 16 * s.cur + hxV c⟩ := by
  unfold Rdg.step
  rw [if_neg (by rintro rfl; exact absurd h (by decide)), if_neg (by rintro rfl; exact absurd h (by decide))]
theorem fold_hx : ∀ (l : List UInt8) (s : Rdg), (∀ b ∈ l, hxP b = true) → l.foldl Rdg.step s = ⟨s.out, s.lo, l.foldl (fun (n : Int) b => 16 * n + hxV b) s.cur⟩
  | [], s, _ => rfl
  | c :: l, s, h => by
    rw [List.foldl_cons, step_hx (h c (List.mem_cons_self ..)), fold_hx l _ fun b hb => h b (List.mem_cons_of_mem _ hb)]
    rfl
theorem fold_hex4 (u : Nat) (out : List Rg) (lo : Option Int) : (hex4D u).foldl Rdg.step ⟨out, lo, 0⟩ = ⟨out, lo, u⟩ := by
  rw [fold_hx _ _ (hex4D_hx u)]
  show Rdg.mk _ _ _ = _
  rw [hex4D_sum]
theorem fold_item (x : Rg) (h : okR x) (out : List Rg) : ((itemD x).foldl Rdg.step ⟨out, none, 0⟩).fin = out ++ [x] := by
  obtain ⟨h1, h2, h3⟩ := h
  obtain ⟨a, b⟩ := x
  simp only at h1 h2 h3
  unfold itemD
  rw [List.foldl_append, fold_hex4]
  by_cases he : a = b
  · subst he
    rw [if_pos rfl]
    show out ++ [(((a.toNat : Int)), (a.toNat : Int))] = _
    rw [Int.toNat_of_nonneg h1]
  · rw [if_neg he, List.foldl_cons]
    have : Rdg.step ⟨out, none, (a.toNat : Int)⟩ 45 = ⟨out, some a, 0⟩ := by
      unfold Rdg.step
      rw [if_neg (by decide), if_pos rfl]
      show Rdg.mk out (some (a.toNat : Int)) 0 = _
      rw [Int.toNat_of_nonneg h1]
    show Rdg.fin (List.foldl Rdg.step (Rdg.step ⟨out, none, (a.toNat : Int)⟩ 45) (hex4D b.toNat)) = _
    rw [this, fold_hex4]
    show out ++ [(a, (b.toNat : Int))] = _
    rw [Int.toNat_of_nonneg (by omega)]
theorem fold_tail : ∀ (l : List Rg) (s : Rdg), (∀ x ∈ l, okR x) → ((tailD l).foldl Rdg.step s).fin = s.fin ++ l
  | [], s, _ => (List.append_nil _).symm
  | x :: l, s, h => by
    rw [tailD, List.foldl_cons, List.foldl_append]
    have : s.step 44 = ⟨s.fin, none, 0⟩ := rfl
    rw [this, fold_tail l _ fun y hy => h y (List.mem_cons_of_mem _ hy), fold_item x (h x (List.mem_cons_self ..)), List.append_assoc]
    rfl
theorem fold_print {x : Rg} {l : List Rg} (h : ∀ y ∈ x :: l, okR y) : ((printD (x :: l)).foldl Rdg.step ⟨[], none, 0⟩).fin = x :: l := by
  rw [printD, List.foldl_append, fold_tail l _ fun y hy => h y (List.mem_cons_of_mem _ hy), fold_item x (h x (List.mem_cons_self ..))]
  rfl
theorem itemD_head (x : Rg) : ∃ c r, itemD x = c :: r ∧ hxP c = true := by
  unfold itemD
  cases hh : hex4D x.1.toNat with
  | nil => have := hex4D_pos x.1.toNat; rw [hh] at this; exact absurd this (by decide)
  | cons c r => exact ⟨c, _, rfl, hex4D_hx _ c (by rw [hh]; exact List.mem_cons_self ..)⟩
theorem print_ne_none (x : Rg) (l : List Rg) : printD (x :: l) ≠ noneD := by
  obtain ⟨c, r, hc, hx⟩ := itemD_head x
  intro h
  rw [printD, hc] at h
  injection h with h1 _
  subst h1
  exact absurd hx (by decide)
theorem printD_inj {l k : List Rg} (hl : ∀ x ∈ l, okR x) (hk : ∀ x ∈ k, okR x) (h : printD l = printD k) : l = k := by
  cases l with
  | nil =>
    cases k with
    | nil => rfl
    | cons y k => exact absurd h.symm (print_ne_none y k)
  | cons x l =>
    cases k with
    | nil => exact absurd h (print_ne_none x l)
    | cons y k =>
      rw [← fold_print hl, ← fold_print hk, h]
theorem itemD_len {x : Rg} (h : okR x) : 4 ≤ (itemD x).length ∧ (itemD x).length ≤ 13 := by
  obtain ⟨h1, h2, h3⟩ := h
  have a := hex4D_len x.1.toNat (by omega)
  have b := hex4D_len x.2.toNat (by omega)
  have c := hex4D_pos x.1.toNat
  unfold itemD
  rw [List.length_append]
  split <;> simp only [List.length_nil, List.length_cons] <;> omega
theorem tailD_len : ∀ (l : List Rg), (∀ x ∈ l, okR x) → (tailD l).length ≤ l.length * 14
  | [], _ => Nat.le_refl _
  | x :: l, h => by
    have := tailD_len l fun y hy => h y (List.mem_cons_of_mem _ hy)
    have := (itemD_len (h x (List.mem_cons_self ..))).2
    rw [tailD, List.length_cons, List.length_append, List.length_cons]
    omega
end Go.Proofs.YtbkjanlkklmleaaGreatDoor
