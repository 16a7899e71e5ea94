/- Chapter 02: Union, Not: the walks. -/
import Derived.Test.YtbkjanlkklmleaaGreatDoorRgW
import Derived.Test.YtbkjanlkklmleaaGreatDoorApp2
namespace Go.Proofs.YtbkjanlkklmleaaGreatDoor
open Go.RowKit
open Go.Lib (hid)
set_option linter.unusedVariables false
set_option maxRecDepth 100000

/-- A row of sets. -/
def RRs (w : World) (a : Option Addr) (n cap : Nat) (ls : List (List Rg)) : Prop :=
  n = ls.length ∧ n ≤ cap ∧ cap ≤ 9223372036854775807 ∧ (0 < n → ∃ b off, a = some ⟨b, off, none⟩ ∧ b < w.heap.size ∧ ∀ j (h : j < ls.length), ∃ A m c, w.cell? ⟨b, off + j, none⟩ = some (.slice A m c) ∧ RR w A m c ls[j] ∧ In32 ls[j] ∧ m ≤ 1000000)
theorem RRs.below {w w' : World} {a : Option Addr} {n cap B : Nat} {ls : List (List Rg)} (h : RRs w a n cap ls) (hb : Below B w w') (hB : w.heap.size ≤ B) : RRs w' a n cap ls :=
  ⟨h.1, h.2.1, h.2.2.1, fun hn => by
    obtain ⟨b, off, e, hbl, hz⟩ := h.2.2.2 hn
    refine ⟨b, off, e, Nat.lt_of_lt_of_le hbl hb.size, fun j hj => ?_⟩
    obtain ⟨A, m, c, h1, h2, h3, h4⟩ := hz j hj
    exact ⟨A, m, c, (hb.cell (p := ⟨b, _, none⟩) (by show b < B; omega)).trans h1, h2.below hb hB, h3, h4⟩⟩
theorem RRs.nil (w : World) : RRs w none 0 0 [] := ⟨rfl, Nat.le_refl _, by decide, fun h => absurd h (by decide)⟩
/-- All ranges of the sets that are right. -/
def allK (ls : List (List Rg)) : List Rg := ls.flatMap knownL
theorem allK_len (ls : List (List Rg)) : (allK ls).length ≤ (ls.map List.length).sum := by
  induction ls with
  | nil => exact Nat.le_refl _
  | cons l ls ih =>
    have := knownL_len l
    unfold allK at *
    rw [List.flatMap_cons, List.length_append, List.map_cons, List.sum_cons]
    omega
theorem sum_take_le (l : List Nat) (i : Nat) : (l.take i).sum ≤ l.sum := by
  induction l generalizing i with
  | nil => simp
  | cons x l ih =>
    cases i with
    | zero => simp
    | succ i => have := ih i; simp only [List.take_succ_cons, List.sum_cons]; omega
theorem allK_ok (ls : List (List Rg)) : ∀ x ∈ allK ls, okR x := by
  intro x hx
  obtain ⟨l, hl, h⟩ := List.mem_flatMap.1 hx
  exact right_ok (knownL_right l) x h
theorem memR_all (ls : List (List Rg)) (r : Int) : memR (allK ls) r ↔ ∃ l ∈ ls, memR (knownL l) r := by
  constructor
  · rintro ⟨x, hx, h⟩
    obtain ⟨l, hl, h2⟩ := List.mem_flatMap.1 hx
    exact ⟨l, hl, x, h2, h⟩
  · rintro ⟨l, hl, x, hx, h⟩
    exact ⟨x, List.mem_flatMap.2 ⟨l, hl, hx⟩, h⟩
/-- The right list of numbers of one of the sets. -/
def RetU (w : World) (e : Ending) (w' : World) (ls : List (List Rg)) : Prop := ∃ u : List Rg, rightR u ∧ (∀ r, memR u r ↔ ∃ l ∈ ls, memR (knownL l) r) ∧ RetR w e w' u
/-- .. of memory of the call's own. -/
def RetUW (w : World) (e : Ending) (w' : World) (ls : List (List Rg)) : Prop := ∃ u : List Rg, rightR u ∧ (∀ r, memR u r ↔ ∃ l ∈ ls, memR (knownL l) r) ∧ RetW w e w' u
end Go.Proofs.YtbkjanlkklmleaaGreatDoor
