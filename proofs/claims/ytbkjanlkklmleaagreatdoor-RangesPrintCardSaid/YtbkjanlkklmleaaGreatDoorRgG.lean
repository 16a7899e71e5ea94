/- Chapter 02: the document's points: the walk; rows of ranges that the call owns. -/
import Derived.Test.YtbkjanlkklmleaaGreatDoorRgF
import Derived.Laws.OwnMore
namespace Go.Proofs.YtbkjanlkklmleaaGreatDoor
open Go.RowKit
open Go.Lib (hid)
set_option linter.unusedVariables false
set_option maxRecDepth 100000

theorem insL_len (r : Int) : ∀ l, (insL l r).length ≤ l.length + 1 ∧ l.length ≤ (insL l r).length ∧ 0 < (insL l r).length
  | [] => by simp [insL]
  | x :: l => by
    have := insL_len r l
    unfold insL
    split
    · simp only [List.length_cons]; omega
    · split <;> simp only [List.length_cons] <;> omega
/-- The points of the first i ranges. -/
def ptsI (l : List Rg) (i : Nat) : List Int := pointsF (l.take i)
theorem ptsI_zero (l : List Rg) : ptsI l 0 = [0] := rfl
theorem ptsI_succ {l : List Rg} {i : Nat} (h : i < l.length) : ptsI l (i + 1) = insL (insL (ptsI l i) l[i].1) (l[i].2 + 1) := by
  unfold ptsI pointsF
  rw [List.take_add_one, List.getElem?_eq_getElem h, List.foldl_append]
  rfl
theorem ptsI_len (l : List Rg) : ∀ i, i ≤ l.length → (ptsI l i).length ≤ 2 * i + 1 ∧ 0 < (ptsI l i).length
  | 0, _ => by rw [ptsI_zero]; simp
  | i + 1, h => by
    have := ptsI_len l i (by omega)
    rw [ptsI_succ (by omega)]
    have a := insL_len l[i].1 (ptsI l i)
    have b := insL_len (l[i].2 + 1) (insL (ptsI l i) l[i].1)
    omega
theorem flat_snoc (o : List Rg) (z : Rg) : (o ++ [z]).flatMap rgCells = o.flatMap rgCells ++ rgCells z := by rw [List.flatMap_append]; simp
/-- The last of an own row of ranges. -/
theorem own_last {W : World} {B n c : Nat} {e : TypeId} {A : Option Addr} {o : List Rg} {z : Rg} (h : W.ownsRow B e 2 (.slice A n c) n ((o ++ [z]).flatMap rgCells)) :
    ∃ g, A = some ⟨g, 0, none⟩ ∧ B ≤ g ∧ g < W.heap.size ∧ n = o.length + 1 ∧ W.cell? ⟨g, o.length * 2, none⟩ = some (.int .i32 z.1) ∧ W.cell? ⟨g, o.length * 2 + 1, none⟩ = some (.int .i32 z.2) ∧ W.frozen? ⟨g, o.length * 2 + 1, none⟩ = false ∧
      ∀ y : Int, (W.setCell ⟨g, o.length * 2 + 1, none⟩ (.int .i32 y)).ownsRow B e 2 (.slice A n c) n ((o ++ [(z.1, y)]).flatMap rgCells) := by
  have hl := h.1
  rw [rgCells_len, List.length_append, List.length_singleton] at hl
  have hn : n = o.length + 1 := by omega
  obtain ⟨A', c', hv, _, _, hcc⟩ := owns_form h
  injection hv with hA _ hc
  subst hA hc
  obtain ⟨g, rfl, hB, hg, hcell⟩ := hcc (by omega)
  have hfl := rgCells_len o
  have g0 : ((o ++ [z]).flatMap rgCells)[o.length * 2]? = some (.int .i32 z.1) := by
    rw [flat_snoc, List.getElem?_append_right (by omega), hfl, Nat.sub_self]; rfl
  have g1 : ((o ++ [z]).flatMap rgCells)[o.length * 2 + 1]? = some (.int .i32 z.2) := by
    rw [flat_snoc, List.getElem?_append_right (by omega), hfl, show o.length * 2 + 1 - o.length * 2 = 1 by omega]; rfl
  refine ⟨g, rfl, hB, hg, hn, (hcell _ (by omega)).trans g0, (hcell _ (by omega)).trans g1, h.frozenAt _, fun y => ?_⟩
  have := (h.stored (o.length * 2 + 1) (.int .i32 y)).1
  rw [flat_snoc, List.set_append_right _ _ (by omega), hfl, show o.length * 2 + 1 - o.length * 2 = 1 by omega] at this
  rw [flat_snoc]
  exact this

end Go.Proofs.YtbkjanlkklmleaaGreatDoor
