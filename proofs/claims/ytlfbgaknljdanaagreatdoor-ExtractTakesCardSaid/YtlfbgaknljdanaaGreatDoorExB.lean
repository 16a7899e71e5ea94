/- Chapter 23: an extractor's item: walks. -/
import Derived.Test.YtlfbgaknljdanaaGreatDoorExA
namespace Go.Proofs.YtlfbgaknljdanaaGreatDoor
open Go.RowKit
open Go.Lib (hid)
set_option linter.unusedVariables false
set_option linter.unusedSimpArgs false
set_option maxRecDepth 100000

/-- An extractor's cells, its nest. -/
def XS (g q : Nat) (ty : TypeId) (n : Ne) (fo ch : Bool) (w' : World) : Prop :=
  w'.cell? ⟨g, 0, none⟩ = some (.pointer (some ⟨q, 0, none⟩)) ∧ w'.cell? ⟨g, 1, none⟩ = some (.bool fo) ∧ w'.cell? ⟨g, 2, none⟩ = some (.bool ch) ∧ Blk w' q ty n.cells
theorem XS.alloc {g q : Nat} {ty : TypeId} {n : Ne} {fo ch : Bool} {w' : World} (h0 : w'.cell? ⟨g, 0, none⟩ = some (.pointer (some ⟨q, 0, none⟩))) (h1 : w'.cell? ⟨g, 1, none⟩ = some (.bool fo)) (h2 : w'.cell? ⟨g, 2, none⟩ = some (.bool ch)) (h3 : Blk w' q ty n.cells) (o : Obj) : XS g q ty n fo ch (w'.alloc o) := by
  refine ⟨?_, ?_, ?_, h3.alloc o⟩
  · rw [World.cell?_alloc_some _ _ _ (by rw [h0]; rfl)]; exact h0
  · rw [World.cell?_alloc_some _ _ _ (by rw [h1]; rfl)]; exact h1
  · rw [World.cell?_alloc_some _ _ _ (by rw [h2]; rfl)]; exact h2
theorem XS.alloc2 {g q : Nat} {ty : TypeId} {n : Ne} {fo ch : Bool} {w' : World} (h0 : w'.cell? ⟨g, 0, none⟩ = some (.pointer (some ⟨q, 0, none⟩))) (h1 : w'.cell? ⟨g, 1, none⟩ = some (.bool fo)) (h2 : w'.cell? ⟨g, 2, none⟩ = some (.bool ch)) (h3 : Blk w' q ty n.cells) (o o' : Obj) : XS g q ty n fo ch ((w'.alloc o).alloc o').drew := by
  obtain ⟨k0, k1, k2, k3⟩ := XS.alloc h0 h1 h2 h3 o
  obtain ⟨j0, j1, j2, j3⟩ := XS.alloc k0 k1 k2 k3 o'
  exact ⟨j0, j1, j2, j3.drew⟩
theorem item_row (w : World) (g : Nat) (t : TypeId) (a0 a1 a2 a3 a4 a5 a6 x y c0 c1 c2 c3 c4 c5 c6 : Value) (o : Obj) (hg : w.heap.size ≠ g) :
    Blk (((((((((((w.alloc (.cells #[a0, a1, a2, a3, a4, a5, a6] t)).alloc o).setCell ⟨g, 1, none⟩ x).setCell ⟨g, 2, none⟩ y).setCell ⟨w.heap.size, 0, none⟩ c0).setCell ⟨w.heap.size, 1, none⟩ c1).setCell ⟨w.heap.size, 2, none⟩ c2).setCell ⟨w.heap.size, 3, none⟩ c3).setCell ⟨w.heap.size, 4, none⟩ c4).setCell ⟨w.heap.size, 5, none⟩ c5).setCell ⟨w.heap.size, 6, none⟩ c6).drew w.heap.size t #[c0, c1, c2, c3, c4, c5, c6] := by
  have h := ((((((((((Blk.new w t #[a0, a1, a2, a3, a4, a5, a6]).alloc o).far (p := ⟨g, 1, none⟩) hg x).far (p := ⟨g, 2, none⟩) hg y).set_ 0 c0).set_ 1 c1).set_ 2 c2).set_ 3 c3).set_ 4 c4).set_ 5 c5).set_ 6 c6
  simp only [List.setIfInBounds_toArray, List.set_cons_zero, List.set_cons_succ] at h
  exact h.drew
theorem grownBy_drew (w : World) (r : Option Nat) : w.grownBy w.drew r := ⟨rfl, rfl, rfl, Nat.le_refl _, fun _ _ _ => rfl⟩
set_option maxHeartbeats 2000000 in
theorem item_world (w : World) (g q : Nat) (t ty ty2 : TypeId) (fo ch : Bool) (cs : Array Value) (a0 a1 a2 a3 a4 a5 a6 c0 c1 c2 c3 c4 c5 c6 : Value) (o : Obj) (hx : Blk w g ty2 (exCells q fo ch)) (hk : Blk w q ty cs) (hgq : g ≠ q) :
    Blk (((((((((((w.alloc (.cells #[a0, a1, a2, a3, a4, a5, a6] t)).alloc o).setCell ⟨g, 1, none⟩ (.bool false)).setCell ⟨g, 2, none⟩ (.bool false)).setCell ⟨w.heap.size, 0, none⟩ c0).setCell ⟨w.heap.size, 1, none⟩ c1).setCell ⟨w.heap.size, 2, none⟩ c2).setCell ⟨w.heap.size, 3, none⟩ c3).setCell ⟨w.heap.size, 4, none⟩ c4).setCell ⟨w.heap.size, 5, none⟩ c5).setCell ⟨w.heap.size, 6, none⟩ c6).drew g ty2 (exCells q false false) ∧ Blk (((((((((((w.alloc (.cells #[a0, a1, a2, a3, a4, a5, a6] t)).alloc o).setCell ⟨g, 1, none⟩ (.bool false)).setCell ⟨g, 2, none⟩ (.bool false)).setCell ⟨w.heap.size, 0, none⟩ c0).setCell ⟨w.heap.size, 1, none⟩ c1).setCell ⟨w.heap.size, 2, none⟩ c2).setCell ⟨w.heap.size, 3, none⟩ c3).setCell ⟨w.heap.size, 4, none⟩ c4).setCell ⟨w.heap.size, 5, none⟩ c5).setCell ⟨w.heap.size, 6, none⟩ c6).drew q ty cs ∧ w.grownBy (((((((((((w.alloc (.cells #[a0, a1, a2, a3, a4, a5, a6] t)).alloc o).setCell ⟨g, 1, none⟩ (.bool false)).setCell ⟨g, 2, none⟩ (.bool false)).setCell ⟨w.heap.size, 0, none⟩ c0).setCell ⟨w.heap.size, 1, none⟩ c1).setCell ⟨w.heap.size, 2, none⟩ c2).setCell ⟨w.heap.size, 3, none⟩ c3).setCell ⟨w.heap.size, 4, none⟩ c4).setCell ⟨w.heap.size, 5, none⟩ c5).setCell ⟨w.heap.size, 6, none⟩ c6).drew (some g) := by
  have h1 := Nat.ne_of_lt hx.lt
  have h2 := Nat.ne_of_lt hk.lt
  refine ⟨?_, ?_, ?_⟩
  · have h := ((((((((((hx.alloc (.cells #[a0, a1, a2, a3, a4, a5, a6] t)).alloc o).set_ 1 (.bool false)).set_ 2 (.bool false)).far (p := ⟨w.heap.size, 0, none⟩) h1 c0).far (p := ⟨w.heap.size, 1, none⟩) h1 c1).far (p := ⟨w.heap.size, 2, none⟩) h1 c2).far (p := ⟨w.heap.size, 3, none⟩) h1 c3).far (p := ⟨w.heap.size, 4, none⟩) h1 c4).far (p := ⟨w.heap.size, 5, none⟩) h1 c5).far (p := ⟨w.heap.size, 6, none⟩) h1 c6
    simp only [exCells, List.setIfInBounds_toArray, List.set_cons_zero, List.set_cons_succ] at h ⊢
    exact h.drew
  · have h := ((((((((((hk.alloc (.cells #[a0, a1, a2, a3, a4, a5, a6] t)).alloc o).far (p := ⟨g, 1, none⟩) hgq.symm (.bool false)).far (p := ⟨g, 2, none⟩) hgq.symm (.bool false)).far (p := ⟨w.heap.size, 0, none⟩) h2 c0).far (p := ⟨w.heap.size, 1, none⟩) h2 c1).far (p := ⟨w.heap.size, 2, none⟩) h2 c2).far (p := ⟨w.heap.size, 3, none⟩) h2 c3).far (p := ⟨w.heap.size, 4, none⟩) h2 c4).far (p := ⟨w.heap.size, 5, none⟩) h2 c5).far (p := ⟨w.heap.size, 6, none⟩) h2 c6
    exact h.drew
  · have h0 := (((World.grownBy_alloc w (.cells #[a0, a1, a2, a3, a4, a5, a6] t) (some g)).trans (World.grownBy_alloc _ o (some g))).trans (grown_set _ g 1 (.bool false))).trans (grown_set _ g 2 (.bool false))
    have hr : ∀ j, some w.heap.size = some j → w.heap.size ≤ j ∨ some g = some j := fun j e => .inl (by cases e; exact Nat.le_refl _)
    have h := ((((((h0.andThen (grown_set _ w.heap.size 0 c0) hr).andThen (grown_set _ w.heap.size 1 c1) hr).andThen (grown_set _ w.heap.size 2 c2) hr).andThen (grown_set _ w.heap.size 3 c3) hr).andThen (grown_set _ w.heap.size 4 c4) hr).andThen (grown_set _ w.heap.size 5 c5) hr).andThen (grown_set _ w.heap.size 6 c6) hr
    exact h.trans (grownBy_drew _ (some g))
set_option maxHeartbeats 8000000 in
theorem item_any (g q : Nat) (ty ty2 : TypeId) (n : Ne) (fo ch : Bool) (r at_ sz : Int) (w : World) (hk : Blk w q ty n.cells) (hx : Blk w g ty2 (exCells q fo ch)) (hgq : g ≠ q) : Calls Tryz.prog 40 #[.pointer (some ⟨g, 0, none⟩), .int .i32 r, .int .i64 at_, .int .i64 sz] w fun e w' => e = .returned (.agg #[.int .i32 r, .int .i64 at_, .int .i64 sz, .bool fo, .bool ch, .bool (decide (0 < n.b)), .bool (decide (0 < n.p))]) ∧ Blk w' g ty2 (exCells q false false) ∧ Blk w' q ty n.cells ∧ w.grownBy w' (some g) := by
  have y0 := hx.cell 0
  have y1 := hx.cell 1
  have y2 := hx.cell 2
  simp only [exCells, List.getElem?_toArray, List.getElem?_cons_zero, List.getElem?_cons_succ] at y0 y1 y2
  have yf := hx.frozen
  have hglt := hx.lt
  have zf1 : ∀ (o o' : Obj) (i : Nat), World.frozen? ((w.alloc o).alloc o').drew ⟨g, i, none⟩ = false := fun o o' => ((hx.alloc o).alloc o').drew.frozen
  have yg1 : ∀ (o o' : Obj), World.cell? ((w.alloc o).alloc o') ⟨g, 1, none⟩ = some (.bool fo) := fun o o' => by
    have h := ((hx.alloc o).alloc o').cell 1
    simp only [exCells, List.getElem?_toArray, List.getElem?_cons_zero, List.getElem?_cons_succ] at h
    exact h
  have yg2 : ∀ (o o' : Obj), World.cell? ((w.alloc o).alloc o') ⟨g, 2, none⟩ = some (.bool ch) := fun o o' => by
    have h := ((hx.alloc o).alloc o').cell 2
    simp only [exCells, List.getElem?_toArray, List.getElem?_cons_zero, List.getElem?_cons_succ] at h
    exact h
  have zf2 : ∀ (o o' : Obj) (i : Nat), World.frozen? ((w.alloc o).alloc o') ⟨g, i, none⟩ = false := fun o o' => ((hx.alloc o).alloc o').frozen
  have hg1 : ¬ g = w.heap.size := Nat.ne_of_lt hglt
  have hg2 : ¬ w.heap.size = g := fun e => hg1 e.symm
  have hg3 : ¬ g = w.heap.size + 1 := Nat.ne_of_lt (Nat.lt_succ_of_lt hglt)
  have hg4 : ¬ w.heap.size + 1 = g := fun e => hg3 e.symm
  have HNB := hid (fun W (hW : Blk W q ty n.cells) => nNoBreak_any q ty n W hW)
  have HNP := hid (fun W (hW : Blk W q ty n.cells) => nPre_any q ty n W hW)
  have HBK := hid hk
  have HX := hid hx
  clear hk hx
  go_enter Tryz.func40, Tryz.ntmps40
  go_upto_region 1 with fail
  go_region_held3 (fun w' : World => w'.cell? ⟨g, 0, none⟩ = some (.pointer (some ⟨q, 0, none⟩)) ∧ w'.cell? ⟨g, 1, none⟩ = some (.bool fo) ∧ w'.cell? ⟨g, 2, none⟩ = some (.bool ch) ∧ Blk w' q ty n.cells)
    (first
      | exact ⟨y0, y1, y2, HBK.out⟩
      | (go_split_ands; refine XS.alloc ?_ ?_ ?_ ?_ _ <;> assumption)
      | (go_split_ands; refine ⟨?_, ?_, ?_, ?_⟩ <;> assumption)
      | exact XS.alloc2 y0 y1 y2 HBK.out _ _)
    (first
      | (go_at_call 60; go_split_ands; refine (HNB.out _ (by assumption)).mono ?_; rintro e w' ⟨rfl, hw⟩; obtain rfl := hw.symm)
      | (go_at_call 61; go_split_ands; refine (HNP.out _ (by assumption)).mono ?_; rintro e w' ⟨rfl, hw⟩; obtain rfl := hw.symm))
  all_goals (clear hglt; go_wp2_with fail)
  all_goals exact bodyPost_ret (results_cell_row rfl _ _ w.heap.size _ _ _ _ rfl (item_row w g _ _ _ _ _ _ _ _ _ _ _ _ _ _ _ _ _ _ hg2) Tryz.underlying34 rfl (by kernel_rfl)) rfl ⟨rfl, item_world w g q _ ty ty2 fo ch _ _ _ _ _ _ _ _ _ _ _ _ _ _ _ _ HX.out HBK.out hgq⟩
end Go.Proofs.YtlfbgaknljdanaaGreatDoor
