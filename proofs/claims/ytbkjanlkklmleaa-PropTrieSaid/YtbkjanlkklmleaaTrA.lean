/- Chapter 03: a trie's builder, in memory: what stands when a place is touched. -/
import Derived.Test.YtbkjanlkklmleaaTrP
import Derived.Test.YtbkjanlkklmleaaByt
import Derived.Test.YtbkjanlkklmleaaMem
namespace Go.Proofs.Ytbkjanlkklmleaa
open Go.RowKit
open Go.Lib (hid)
set_option linter.unusedVariables false
set_option maxRecDepth 100000

def nInt (k : Nat) : Value := .int .i64 (k : Int)
/-- A builder at block g: its entries' slice, of each place the last entry that has all of it, and the row of those that have some. -/
structure BdS (W0 W : World) (B g : Nat) (lv : Value) (s : Bs) (pv : Nat → Value) : Prop where
  gB : B ≤ g
  gl : g < W.heap.size
  c0 : W.cell? ⟨g, 0, none⟩ = some lv
  wh : ∀ p, p < 4352 → W.cell? ⟨g, 1 + p, none⟩ = some (nInt (s.whole p))
  pt : ∀ p, p < 4352 → W.cell? ⟨g, 4353 + p, none⟩ = some (pv p)
  fz : ∀ j, W.frozen? ⟨g, j, none⟩ = false
  row : ∀ p, p < 4352 → W.ownsRow B 3 1 (pv p) (s.parts p).length ((s.parts p).map nInt)
  ap : ∀ p q, p < 4352 → q < 4352 → p ≠ q → ∀ j, (pv p).ownBlock = some j → (pv q).ownBlock ≠ some j
  rg : ∀ p, p < 4352 → (pv p).ownBlock ≠ some g
  bel : Below B W0 W
theorem blk_frozen {w w' : World} {g j : Nat} (h : w'.heap[g]? = w.heap[g]?) : w'.frozen? ⟨g, j, none⟩ = w.frozen? ⟨g, j, none⟩ := by
  unfold World.frozen?
  simp only [h]
/-- All of a place is one entry's: a number is stored, and nil. -/
theorem BdS.whole_ {W0 W : World} {B g i p : Nat} {lv : Value} {s : Bs} {pv : Nat → Value} (h : BdS W0 W B g lv s pv) (hp : p < 4352) (hB : B ≤ W.heap.size) :
    BdS W0 ((W.setCell ⟨g, 1 + p, none⟩ (nInt (i + 1))).setCell ⟨g, 4353 + p, none⟩ (.slice none 0 0)) B g lv ⟨updN s.whole p (i + 1), updN s.parts p []⟩ (updN pv p (.slice none 0 0)) := by
  have hg1 := grown_set W g (1 + p) (nInt (i + 1))
  have hg2 := grown_set (W.setCell ⟨g, 1 + p, none⟩ (nInt (i + 1))) g (4353 + p) (.slice none 0 0)
  have hno : ∀ q, q < 4352 → ∀ k, (pv q).ownBlock = some k → some g ≠ some k := fun q hq k hk e => h.rg q hq (by rw [hk, e])
  have hrow : ∀ q, q < 4352 → ((W.setCell ⟨g, 1 + p, none⟩ (nInt (i + 1))).setCell ⟨g, 4353 + p, none⟩ (.slice none 0 0)).ownsRow B 3 1 (pv q) (s.parts q).length ((s.parts q).map nInt) := fun q hq =>
    own_kept (own_kept (h.row q hq) hg1 (hno q hq)) hg2 (hno q hq)
  refine ⟨h.gB, by rw [size_set, size_set]; exact h.gl, ?_, fun q hq => ?_, fun q hq => ?_, fun j => ?_, fun q hq => ?_, fun a b ha hb hab j hj => ?_, fun q hq => ?_, ?_⟩
  · rw [World.cell?_setCell_other _ _ _ _ (by simp), World.cell?_setCell_other _ _ _ _ (by simp)]
    exact h.c0
  · rw [World.cell?_setCell_other _ _ _ _ (by intro e; injection e with _ e; omega)]
    by_cases e : q = p
    · subst e
      show _ = some (nInt (updN s.whole q (i + 1) q))
      rw [updN_at]
      exact World.cell?_setCell_same _ _ _ (h.wh q hq)
    · show _ = some (nInt (updN s.whole p (i + 1) q))
      rw [World.cell?_setCell_other _ _ _ _ (by intro e2; injection e2 with _ e2; omega), show updN s.whole p (i + 1) q = s.whole q from if_neg e]
      exact h.wh q hq
  · by_cases e : q = p
    · subst e
      rw [show updN pv q (.slice none 0 0) q = .slice none 0 0 from if_pos rfl]
      exact World.cell?_setCell_same _ _ _ ((World.cell?_setCell_other _ _ _ _ (by intro e2; injection e2 with _ e2; omega)).trans (h.pt q hq))
    · rw [show updN pv p (.slice none 0 0) q = pv q from if_neg e, World.cell?_setCell_other _ _ _ _ (by intro e2; injection e2 with _ e2; omega), World.cell?_setCell_other _ _ _ _ (by intro e2; injection e2 with _ e2; omega)]
      exact h.pt q hq
  · rw [World.frozen?_setCell, World.frozen?_setCell]; exact h.fz j
  · by_cases e : q = p
    · subst e
      show World.ownsRow _ _ _ _ (updN pv q (.slice none 0 0) q) (updN s.parts q [] q).length ((updN s.parts q [] q).map nInt)
      rw [show updN pv q (.slice none 0 0) q = .slice none 0 0 from if_pos rfl, updN_at]
      exact World.ownsRow_nil _ _ _ _
    · show World.ownsRow _ _ _ _ (updN pv p (.slice none 0 0) q) (updN s.parts p [] q).length ((updN s.parts p [] q).map nInt)
      rw [show updN pv p (.slice none 0 0) q = pv q from if_neg e, show updN s.parts p [] q = s.parts q from if_neg e]
      exact hrow q hq
  · unfold updN at hj ⊢
    split at hj
    · cases hj
    · split
      · intro e; cases e
      · exact h.ap a b ha hb hab j hj
  · unfold updN
    split
    · intro e; cases e
    · exact h.rg q hq
  · exact (h.bel.grown hg1 hB (fun j e => by injection e with e; have := h.gB; omega)).grown hg2 (by rw [size_set]; exact hB) (fun j e => by injection e with e; have := h.gB; omega)
/-- An entry more has some of a place: its row has grown. -/
theorem BdS.part_ {W0 W w7 : World} {B g i p : Nat} {lv v7 : Value} {s : Bs} {pv : Nat → Value} (h : BdS W0 W B g lv s pv) (hp : p < 4352) (hB : B ≤ W.heap.size)
    (hg : W.grownBy w7 (pv p).ownBlock) (ho : w7.ownsRow B 3 1 v7 ((s.parts p).length + 1) ((s.parts p).map nInt ++ [nInt i])) (hv : v7.ownBlock = (pv p).ownBlock ∨ ∃ j, v7.ownBlock = some j ∧ W.heap.size ≤ j) :
    BdS W0 (w7.setCell ⟨g, 4353 + p, none⟩ v7) B g lv ⟨s.whole, updN s.parts p (s.parts p ++ [i])⟩ (updN pv p v7) := by
  have hblk : w7.heap[g]? = W.heap[g]? := hg.block g h.gl (fun e => h.rg p hp e.symm)
  have hc : ∀ j, w7.cell? ⟨g, j, none⟩ = W.cell? ⟨g, j, none⟩ := fun j => World.cell?_of_block (a := ⟨g, j, none⟩) hblk
  have hg2 := grown_set w7 g (4353 + p) v7
  have hne : v7.ownBlock ≠ some g := fun e => by
    rcases hv with h1 | ⟨j, h1, hj⟩
    · exact h.rg p hp (h1.symm.trans e)
    · rw [h1] at e; injection e with e; have := h.gl; omega
  refine ⟨h.gB, by rw [size_set]; exact Nat.lt_of_lt_of_le h.gl hg.size, ?_, fun q hq => ?_, fun q hq => ?_, fun j => ?_, fun q hq => ?_, fun a b ha hb hab j hj => ?_, fun q hq => ?_, ?_⟩
  · rw [World.cell?_setCell_other _ _ _ _ (by simp), hc]
    exact h.c0
  · rw [World.cell?_setCell_other _ _ _ _ (by intro e; injection e with _ e; omega), hc]
    exact h.wh q hq
  · by_cases e : q = p
    · subst e
      rw [show updN pv q v7 q = v7 from if_pos rfl]
      exact World.cell?_setCell_same _ _ _ ((hc _).trans (h.pt q hq))
    · rw [show updN pv p v7 q = pv q from if_neg e, World.cell?_setCell_other _ _ _ _ (by intro e2; injection e2 with _ e2; omega), hc]
      exact h.pt q hq
  · rw [World.frozen?_setCell, blk_frozen hblk]; exact h.fz j
  · by_cases e : q = p
    · subst e
      show World.ownsRow _ _ _ _ (updN pv q v7 q) (updN s.parts q (s.parts q ++ [i]) q).length ((updN s.parts q (s.parts q ++ [i]) q).map nInt)
      rw [show updN pv q v7 q = v7 from if_pos rfl, updN_at, List.length_append, List.map_append]
      exact own_kept ho hg2 (fun k hk e => hne (by rw [hk, e]))
    · show World.ownsRow _ _ _ _ (updN pv p v7 q) (updN s.parts p (s.parts p ++ [i]) q).length ((updN s.parts p (s.parts p ++ [i]) q).map nInt)
      rw [show updN pv p v7 q = pv q from if_neg e, show updN s.parts p (s.parts p ++ [i]) q = s.parts q from if_neg e]
      exact own_kept (own_kept (h.row q hq) hg (fun k hk e2 => h.ap q p hq hp e k hk e2)) hg2 (fun k hk e2 => h.rg q hq (by rw [hk, e2]))
  · unfold updN at hj ⊢
    by_cases ea : a = p
    · subst ea
      rw [if_pos rfl] at hj
      rw [if_neg (fun e => hab e.symm)]
      rcases hv with h1 | ⟨k, h1, hk⟩
      · exact h.ap a b ha hb hab j (h1.symm.trans hj)
      · rw [h1] at hj
        injection hj with hj
        intro e
        have := ((h.row b hb).lt j e).2
        omega
    · rw [if_neg ea] at hj
      by_cases eb : b = p
      · subst eb
        rw [if_pos rfl]
        rcases hv with h1 | ⟨k, h1, hk⟩
        · rw [h1]; exact h.ap a b ha hb hab j hj
        · rw [h1]
          intro e
          injection e with e
          have := ((h.row a ha).lt j hj).2
          omega
      · rw [if_neg eb]
        exact h.ap a b ha hb hab j hj
  · unfold updN
    split
    · exact hne
    · exact h.rg q hq
  · exact (h.bel.grown hg hB (fun j e => ((h.row p hp).lt j e).1)).grown hg2 (Nat.le_trans hB hg.size) (fun j e => by injection e with e; have := h.gB; omega)
end Go.Proofs.Ytbkjanlkklmleaa
