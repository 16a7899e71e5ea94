/- Small laws on memory, as terms: cells and blocks over new blocks, stores elsewhere, calls. -/
import Derived.Test.YtalgldnnbjlokaaBase
namespace Go.Proofs.Ytalgldnnbjlokaa
open Go.RowKit
open Go.Lib

theorem cell_alloc_of {w : World} {n j : Nat} {v : Value} (o : Obj) (hn : n < w.heap.size) (h : w.cell? ⟨n, j, none⟩ = some v) : (w.alloc o).cell? ⟨n, j, none⟩ = some v := by
  rw [World.cell?_alloc_lt _ _ _ (by simpa using hn)]; exact h
theorem cell_below_of {B : Nat} {W w' : World} {n j : Nat} {v : Value} (hb : Below B W w') (hn : n < B) (h : W.cell? ⟨n, j, none⟩ = some v) : w'.cell? ⟨n, j, none⟩ = some v := by
  rw [hb.cell (by simpa using hn)]; exact h
theorem cell_set_of {w : World} {n j : Nat} {v : Value} (p : Addr) (u : Value) (hn : n ≠ p.block) (h : w.cell? ⟨n, j, none⟩ = some v) : (w.setCell p u).cell? ⟨n, j, none⟩ = some v := by
  rw [← h]
  exact World.cell?_of_block (w := w) (Below.heap_setCell _ _ _ _ hn)
theorem heap_below_of {B : Nat} {W w' : World} {n : Nat} {v : Obj} (hb : Below B W w') (hn : n < B) (h : W.heap[n]? = some v) : w'.heap[n]? = some v := by
  rw [hb.block n hn]; exact h
theorem heap_alloc_of {w : World} {n : Nat} {v : Obj} (o : Obj) (hn : n < w.heap.size) (h : w.heap[n]? = some v) : (w.alloc o).heap[n]? = some v := by
  rw [Below.heap_alloc _ _ _ hn]; exact h
theorem heap_set_of {w : World} {n : Nat} {v : Obj} (p : Addr) (u : Value) (hn : n ≠ p.block) (h : w.heap[n]? = some v) : (w.setCell p u).heap[n]? = some v := by
  rw [Below.heap_setCell _ _ _ _ hn]; exact h
theorem size_set (w : World) (p : Addr) (u : Value) : (w.setCell p u).heap.size = w.heap.size := by simp [World.setCell]
end Go.Proofs.Ytalgldnnbjlokaa
