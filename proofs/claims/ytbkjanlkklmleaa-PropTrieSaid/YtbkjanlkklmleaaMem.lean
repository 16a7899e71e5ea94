/- Small laws on memory, as terms: cells and blocks over new blocks, stores elsewhere, calls. -/
import Derived.Test.YtbkjanlkklmleaaBase
namespace Go.Proofs.Ytbkjanlkklmleaa
open Go.RowKit
open Go.Lib

theorem cell_alloc_of {w : World} {n j : Nat} {v : Value} (o : Obj) (hn : n < w.heap.size) (h : w.cell? ⟨n, j, none⟩ = some v) : (w.alloc o).cell? ⟨n, j, none⟩ = some v := by
  rw [World.cell?_alloc_lt _ _ _ (by simpa using hn)]; exact h
theorem cell_below_of {B : Nat} {W w' : World} {n j : Nat} {v : Value} (hb : Below B W w') (hn : n < B) (h : W.cell? ⟨n, j, none⟩ = some v) : w'.cell? ⟨n, j, none⟩ = some v := by
  rw [hb.cell (by simpa using hn)]; exact h
theorem cell_set_of {w : World} {n j : Nat} {v : Value} (p : Addr) (u : Value) (hn : n ≠ p.block) (h : w.cell? ⟨n, j, none⟩ = some v) : (w.setCell p u).cell? ⟨n, j, none⟩ = some v := by
  rw [← h]
  exact World.cell?_of_block (w := w) (Below.heap_setCell _ _ _ _ hn)
theorem heap_below_of {B : Nat} {W w' : World} {n : Nat} {v : Obj} (hb : Below B W w') (hn : n < B) (h : W.heap[n]? = some v) : w'.heap[n]? = some v := by
  rw [hb.block n hn]; exact h
theorem heap_alloc_of {w : World} {n : Nat} {v : Obj} (o : Obj) (hn : n < w.heap.size) (h : w.heap[n]? = some v) : (w.alloc o).heap[n]? = some v := by
  rw [Below.heap_alloc _ _ _ hn]; exact h
theorem heap_set_of {w : World} {n : Nat} {v : Obj} (p : Addr) (u : Value) (hn : n ≠ p.block) (h : w.heap[n]? = some v) : (w.setCell p u).heap[n]? = some v := by
  rw [Below.heap_setCell _ _ _ _ hn]; exact h
theorem size_set (w : World) (p : Addr) (u : Value) : (w.setCell p u).heap.size = w.heap.size := by simp [World.setCell]
theorem owns_below {B : Nat} {e : TypeId} {k : Nat} {v : Value} {n : Nat} {xs : List Value} {w w' : World} (h : w.ownsRow B e k v n xs) (hb : Below w.heap.size w w') : w'.ownsRow B e k v n xs := by
  obtain ⟨h1, h2⟩ := h
  refine ⟨h1, ?_⟩
  rcases h2 with h2 | ⟨g, cap, cur, hv, hg, hh, r⟩
  · exact .inl h2
  · exact .inr ⟨g, cap, cur, hv, hg, (hb.block g (Array.getElem?_eq_some_iff.1 hh).1).trans hh, r⟩
/-- What the call owns, as a slice: of no elements it may be nil. -/
theorem owns_form {W : World} {B : Nat} {e : TypeId} {k : Nat} {v : Value} {n : Nat} {xs : List Value} (h : W.ownsRow B e k v n xs) :
    ∃ (a : Option Addr) (c : Nat), v = .slice a n c ∧ n ≤ c ∧ c ≤ maxLen ∧ (0 < n → ∃ g, a = some ⟨g, 0, none⟩ ∧ B ≤ g ∧ g < W.heap.size ∧ ∀ j, j < n * k → W.cell? ⟨g, j, none⟩ = xs[j]?) := by
  obtain ⟨h1, h2⟩ := h
  rcases h2 with ⟨rfl, rfl⟩ | ⟨g, cap, cur, rfl, hg, hh, hc, hm, hs, ht⟩
  · exact ⟨none, 0, rfl, Nat.le_refl _, Nat.zero_le _, fun h => absurd h (Nat.lt_irrefl _)⟩
  · refine ⟨_, cap, rfl, hc, hm, fun _ => ⟨g, rfl, hg, (Array.getElem?_eq_some_iff.1 hh).1, fun j hj => ?_⟩⟩
    rw [cell_of_row _ _ _ _ _ _ hh, ← ht, List.getElem?_take, if_pos hj, Array.getElem?_toList]
end Go.Proofs.Ytbkjanlkklmleaa
