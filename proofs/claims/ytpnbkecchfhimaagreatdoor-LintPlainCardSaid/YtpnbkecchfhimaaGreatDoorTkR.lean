/- Chapter 19: lists of tokens as rows. -/
import Derived.Test.YtpnbkecchfhimaaGreatDoorTkM1
namespace Go.Proofs.YtpnbkecchfhimaaGreatDoor
open Go.RowKit Go.Shelf
open Go.Lib (hid)
set_option linter.unusedVariables false
set_option maxRecDepth 100000

def TR (w : World) (A : Option Addr) (n : Nat) (l : List Tk) : Prop :=
  n = l.length ∧ (0 < n → ∃ g, A = some ⟨g, 0, none⟩ ∧ g < w.heap.size ∧ ∀ (j : Nat) (h : j < l.length) (f : Nat), f < 6 → w.cell? ⟨g, j * 6 + f, none⟩ = (tkC l[j])[f]?)
theorem TR.below {w w' : World} {A : Option Addr} {n B : Nat} {l : List Tk} (h : TR w A n l) (hb : Below B w w') (hB : w.heap.size ≤ B) : TR w' A n l :=
  ⟨h.1, fun hn => by
    obtain ⟨g, e, hg, hz⟩ := h.2 hn
    exact ⟨g, e, Nat.lt_of_lt_of_le hg hb.size, fun j hj f hf => (hb.cell (p := ⟨g, j * 6 + f, none⟩) (by show g < B; omega)).trans (hz j hj f hf)⟩⟩
theorem tkCells_get : ∀ (l : List Tk) (j : Nat) (h : j < l.length) (f : Nat), f < 6 → (tkCells l)[j * 6 + f]? = (tkC l[j])[f]?
  | t :: l, 0, h, f, hf => by
    have e : tkCells (t :: l) = (tkC t).toList ++ tkCells l := rfl
    rw [e, Nat.zero_mul, Nat.zero_add, List.getElem?_append_left (by show f < 6; exact hf)]
    simp
  | t :: l, j + 1, h, f, hf => by
    have e : tkCells (t :: l) = (tkC t).toList ++ tkCells l := rfl
    have h6 : (tkC t).toList.length = 6 := rfl
    rw [e, List.getElem?_append_right (by rw [h6]; omega), h6, show (j + 1) * 6 + f - 6 = j * 6 + f by omega]
    exact tkCells_get l j (by simpa using h) f hf
theorem TR.of_made {n₀ : Nat} {W : World} {v : Value} {l : List Tk} (h : MadeT n₀ W v l) : ∃ A cap, v = .slice A l.length cap ∧ TR W A l.length l := by
  obtain ⟨hr, hn⟩ := h
  cases l with
  | nil => exact ⟨none, 0, hn.2 rfl, rfl, fun h => absurd h (by decide)⟩
  | cons t l =>
    obtain ⟨g, cap, rfl⟩ := ownsRow_succ (k := l.length) hr
    refine ⟨some ⟨g, 0, none⟩, cap, rfl, rfl, fun _ => ⟨g, rfl, (hr.lt g rfl).2, fun j hj f hf => ?_⟩⟩
    rw [← tkCells_get (t :: l) j hj f hf]
    have hlen := tkCells_len (t :: l)
    have hb : j * 6 + f < (t :: l).length * 6 := by omega
    rw [hr.cellAt (j * 6 + f) hb]
/-- A token's cells, at its place. -/
theorem TR.at_ {w : World} {A : Option Addr} {n : Nat} {l : List Tk} (h : TR w A n l) {j : Nat} (hj : j < l.length) : ∃ g, A = some ⟨g, 0, none⟩ ∧ g < w.heap.size ∧ w.cell? ⟨g, j * 6, none⟩ = some (.int .i64 l[j].kind) ∧ w.cell? ⟨g, j * 6 + 1, none⟩ = some (.int .i64 l[j].fr) ∧ w.cell? ⟨g, j * 6 + 2, none⟩ = some (.int .i64 l[j].til) ∧ w.cell? ⟨g, j * 6 + 3, none⟩ = some (.string l[j].name) ∧ w.cell? ⟨g, j * 6 + 4, none⟩ = some (.int .i32 l[j].r) ∧ w.cell? ⟨g, j * 6 + 5, none⟩ = some (.bool l[j].single) := by
  have h1 := h.1
  obtain ⟨g, e, hg, hz⟩ := h.2 (by omega)
  exact ⟨g, e, hg, hz j hj 0 (by decide), hz j hj 1 (by decide), hz j hj 2 (by decide), hz j hj 3 (by decide), hz j hj 4 (by decide), hz j hj 5 (by decide)⟩
end Go.Proofs.YtpnbkecchfhimaaGreatDoor
