/- Chapter 02: the document's Make, Union, Cut, Minus, Not: walks; what they make. -/
import Derived.Test.YtbkjanlkklmleaaRgH
namespace Go.Proofs.Ytbkjanlkklmleaa
open Go.RowKit
open Go.Lib (hid)
set_option linter.unusedVariables false

theorem wantR_same {a b : List Rg} {how q r : Int} (h1 : memR a r ↔ memR a q) (h2 : memR b r ↔ memR b q) : wantR a b how r = wantR a b how q := by
  have e1 : inB a r = inB a q := by rw [Bool.eq_iff_iff, inB_iff, inB_iff]; exact h1
  have e2 : inB b r = inB b q := by rw [Bool.eq_iff_iff, inB_iff, inB_iff]; exact h2
  unfold wantR
  rw [e1, e2]
theorem gathR_law {a b : List Rg} {how : Int} (ha : ∀ x ∈ a, okR x) (hb : ∀ x ∈ b, okR x) : rightR (gathR a b how) ∧ ∀ r, memR (gathR a b how) r ↔ 0 ≤ r ∧ r ≤ 1114111 ∧ wantR a b how r = true :=
  gather_law ha hb fun q r h1 h2 => wantR_same h1 h2
theorem mem_num {l : List Rg} (h : ∀ x ∈ l, okR x) {r : Int} (hm : memR l r) : 0 ≤ r ∧ r ≤ 1114111 := by
  obtain ⟨x, hx, h1, h2⟩ := hm
  obtain ⟨a, b, c⟩ := h x hx
  exact ⟨by omega, by omega⟩
theorem gath_or {a b : List Rg} (ha : ∀ x ∈ a, okR x) (hb : ∀ x ∈ b, okR x) : rightR (gathR a b 0) ∧ ∀ r, memR (gathR a b 0) r ↔ memR a r ∨ memR b r := by
  obtain ⟨h1, h2⟩ := gathR_law (how := 0) ha hb
  refine ⟨h1, fun r => (h2 r).trans ?_⟩
  have e : wantR a b 0 r = true ↔ memR a r ∨ memR b r := by
    show (inB a r || inB b r) = true ↔ _
    rw [Bool.or_eq_true, inB_iff, inB_iff]
  rw [e]
  exact ⟨fun h => h.2.2, fun h => ⟨(h.elim (mem_num ha) (mem_num hb)).1, (h.elim (mem_num ha) (mem_num hb)).2, h⟩⟩
theorem gath_and {a b : List Rg} (ha : ∀ x ∈ a, okR x) (hb : ∀ x ∈ b, okR x) : rightR (gathR a b 1) ∧ ∀ r, memR (gathR a b 1) r ↔ memR a r ∧ memR b r := by
  obtain ⟨h1, h2⟩ := gathR_law (how := 1) ha hb
  refine ⟨h1, fun r => (h2 r).trans ?_⟩
  have e : wantR a b 1 r = true ↔ memR a r ∧ memR b r := by
    show (inB a r && inB b r) = true ↔ _
    rw [Bool.and_eq_true, inB_iff, inB_iff]
  rw [e]
  exact ⟨fun h => h.2.2, fun h => ⟨(mem_num ha h.1).1, (mem_num ha h.1).2, h⟩⟩
theorem gath_minus {a b : List Rg} (ha : ∀ x ∈ a, okR x) (hb : ∀ x ∈ b, okR x) : rightR (gathR a b 2) ∧ ∀ r, memR (gathR a b 2) r ↔ memR a r ∧ ¬ memR b r := by
  obtain ⟨h1, h2⟩ := gathR_law (how := 2) ha hb
  refine ⟨h1, fun r => (h2 r).trans ?_⟩
  have e : wantR a b 2 r = true ↔ memR a r ∧ ¬ memR b r := by
    show (inB a r && !inB b r) = true ↔ _
    rw [Bool.and_eq_true, inB_iff, Bool.not_eq_true', ← Bool.not_eq_true, inB_iff]
  rw [e]
  exact ⟨fun h => h.2.2, fun h => ⟨(mem_num ha h.1).1, (mem_num ha h.1).2, h⟩⟩
theorem gath_not {a b : List Rg} (ha : ∀ x ∈ a, okR x) (hb : ∀ x ∈ b, okR x) : rightR (gathR a b 3) ∧ ∀ r, memR (gathR a b 3) r ↔ 0 ≤ r ∧ r ≤ 1114111 ∧ ¬ memR a r := by
  obtain ⟨h1, h2⟩ := gathR_law (how := 3) ha hb
  refine ⟨h1, fun r => (h2 r).trans ?_⟩
  have e : wantR a b 3 r = true ↔ ¬ memR a r := by
    show (!inB a r) = true ↔ _
    rw [Bool.not_eq_true', ← Bool.not_eq_true, inB_iff]
  rw [e]
theorem refmake_any (a1 : Option Addr) (n1 c1 : Nat) (l : List Rg) (w : World) (h1 : RR w a1 n1 c1 l)
    (hn1 : n1 ≤ 400000) (hok1 : ∀ x ∈ l, okR x) :
    Calls Try.prog 24 #[.slice a1 n1 c1] w fun e w' => RetR w e w' (gathR l [] 0) := by
  have H := hid (gather_any a1 n1 c1 l none 0 0 [] 0 w h1 (RR.nil w) hn1 (by decide) hok1 (fun x hx => by cases hx) (by decide))
  clear h1 hok1
  go_enter Try.func24, Try.ntmps24
  go_wp2_with fail
  refine H.out.mono ?_
  rintro e w2 ⟨A, n, c, rfl, hr, hb⟩
  have HR := hid hr
  have HB := hid hb
  clear hr hb
  go_wp2_with fail
  go_ret
  exact ⟨_, _, _, rfl, HR.out, HB.out⟩
theorem refnot_any (a1 : Option Addr) (n1 c1 : Nat) (l : List Rg) (w : World) (h1 : RR w a1 n1 c1 l)
    (hn1 : n1 ≤ 400000) (hok1 : ∀ x ∈ l, okR x) :
    Calls Try.prog 23 #[.slice a1 n1 c1] w fun e w' => RetR w e w' (gathR l [] 3) := by
  have H := hid (gather_any a1 n1 c1 l none 0 0 [] 3 w h1 (RR.nil w) hn1 (by decide) hok1 (fun x hx => by cases hx) (by decide))
  clear h1 hok1
  go_enter Try.func23, Try.ntmps23
  go_wp2_with fail
  refine H.out.mono ?_
  rintro e w2 ⟨A, n, c, rfl, hr, hb⟩
  have HR := hid hr
  have HB := hid hb
  clear hr hb
  go_wp2_with fail
  go_ret
  exact ⟨_, _, _, rfl, HR.out, HB.out⟩

end Go.Proofs.Ytbkjanlkklmleaa
