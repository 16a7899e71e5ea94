/- Chapter 19: the document's tokens as rows. -/
import Derived.Test.YtpnbkecchfhimaaGreatDoorTkU
namespace Go.Proofs.YtpnbkecchfhimaaGreatDoor
open Go.RowKit Go.Shelf
open Go.Lib (hid)
set_option linter.unusedVariables false
set_option maxRecDepth 100000

def DR (w : World) (A : Option Addr) (n : Nat) (l : List Tk) : Prop :=
  n = l.length ∧ (0 < n → ∃ g, A = some ⟨g, 0, none⟩ ∧ g < w.heap.size ∧ ∀ (j : Nat) (h : j < l.length) (f : Nat), f < 7 → w.cell? ⟨g, j * 7 + f, none⟩ = (tD l[j])[f]?)
theorem DR.below {w w' : World} {A : Option Addr} {n B : Nat} {l : List Tk} (h : DR w A n l) (hb : Below B w w') (hB : w.heap.size ≤ B) : DR w' A n l :=
  ⟨h.1, fun hn => by
    obtain ⟨g, e, hg, hz⟩ := h.2 hn
    exact ⟨g, e, Nat.lt_of_lt_of_le hg hb.size, fun j hj f hf => (hb.cell (p := ⟨g, j * 7 + f, none⟩) (by show g < B; omega)).trans (hz j hj f hf)⟩⟩
theorem DR.of_made {n₀ : Nat} {W : World} {v : Value} {l : List Tk} (h : MadeD n₀ W v l) : ∃ A cap, v = .slice A l.length cap ∧ DR W A l.length l := by
  have hr : W.ownsRow n₀ 42 7 v l.length (tdCells l) := h
  obtain ⟨A, cap, rfl⟩ := owns_slice hr
  refine ⟨A, cap, rfl, rfl, fun hn => ?_⟩
  obtain ⟨k, hk⟩ : ∃ k, l.length = k + 1 := ⟨l.length - 1, by omega⟩
  rw [hk] at hr
  obtain ⟨g, cap', e⟩ := ownsRow_succ (k := k) hr
  injection e with e1 _ e3
  subst e1
  refine ⟨g, rfl, (hr.lt g rfl).2, fun j hj f hf => ?_⟩
  rw [← tdCells_get l j hj f hf]
  exact hr.cellAt (j * 7 + f) (by omega)
theorem DR.at_ {w : World} {A : Option Addr} {n : Nat} {l : List Tk} (h : DR w A n l) {j : Nat} (hj : j < l.length) : ∃ g, A = some ⟨g, 0, none⟩ ∧ g < w.heap.size ∧ w.cell? ⟨g, j * 7, none⟩ = some (.int .i64 l[j].kind) ∧ w.cell? ⟨g, j * 7 + 1, none⟩ = some (.int .i64 l[j].fr) ∧ w.cell? ⟨g, j * 7 + 2, none⟩ = some (.int .i64 l[j].til) ∧ w.cell? ⟨g, j * 7 + 3, none⟩ = some (.string l[j].name) ∧ w.cell? ⟨g, j * 7 + 4, none⟩ = some (.int .i32 l[j].r) ∧ w.cell? ⟨g, j * 7 + 5, none⟩ = some (.bool l[j].single) ∧ w.cell? ⟨g, j * 7 + 6, none⟩ = some (.bool false) := by
  have h1 := h.1
  obtain ⟨g, e, hg, hz⟩ := h.2 (by omega)
  exact ⟨g, e, hg, hz j hj 0 (by decide), hz j hj 1 (by decide), hz j hj 2 (by decide), hz j hj 3 (by decide), hz j hj 4 (by decide), hz j hj 5 (by decide), hz j hj 6 (by decide)⟩
end Go.Proofs.YtpnbkecchfhimaaGreatDoor
