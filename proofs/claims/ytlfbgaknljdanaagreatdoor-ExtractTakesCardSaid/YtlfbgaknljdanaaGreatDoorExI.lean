/- Chapter 23: items as rows; the document's example: the walk. -/
import Derived.Test.YtlfbgaknljdanaaGreatDoorExG
namespace Go.Proofs.YtlfbgaknljdanaaGreatDoor
open Go.RowKit Go.Shelf
open Go.Lib (hid)
set_option linter.unusedVariables false
set_option linter.unusedSimpArgs false
set_option maxRecDepth 100000

/-- A slice that reads as items. -/
def IR (w : World) (A : Option Addr) (n : Nat) (l : List It) : Prop :=
  n = l.length ∧ (0 < n → ∃ g, A = some ⟨g, 0, none⟩ ∧ g < w.heap.size ∧ ∀ (j : Nat) (h : j < l.length) (f : Nat), f < 7 → w.cell? ⟨g, j * 7 + f, none⟩ = (itC l[j])[f]?)
theorem IR.below {w w' : World} {A : Option Addr} {n B : Nat} {l : List It} (h : IR w A n l) (hb : Below B w w') (hB : w.heap.size ≤ B) : IR w' A n l :=
  ⟨h.1, fun hn => by
    obtain ⟨g, e, hg, hz⟩ := h.2 hn
    exact ⟨g, e, Nat.lt_of_lt_of_le hg hb.size, fun j hj f hf => (hb.cell (p := ⟨g, j * 7 + f, none⟩) (by show g < B; omega)).trans (hz j hj f hf)⟩⟩
theorem IR.of_own {n₀ : Nat} {t : TypeId} {W : World} {v : Value} {l : List It} (h : W.ownsRow n₀ t 7 v l.length (itCells l)) : ∃ A cap, v = .slice A l.length cap ∧ IR W A l.length l := by
  obtain ⟨A, cap, rfl⟩ := owns_slice h
  refine ⟨A, cap, rfl, rfl, fun hn => ?_⟩
  obtain ⟨k, hk⟩ : ∃ k, l.length = k + 1 := ⟨l.length - 1, by omega⟩
  rw [hk] at h
  obtain ⟨g, cap', e⟩ := ownsRow_succ (k := k) h
  injection e with e1 _ e3
  subst e1
  refine ⟨g, rfl, (h.lt g rfl).2, fun j hj f hf => ?_⟩
  rw [← itCells_get l j hj f hf]
  exact h.cellAt (j * 7 + f) (by omega)
theorem IR.at_ {w : World} {A : Option Addr} {n : Nat} {l : List It} (h : IR w A n l) {j : Nat} (hj : j < l.length) : ∃ g, A = some ⟨g, 0, none⟩ ∧ g < w.heap.size ∧ w.cell? ⟨g, j * 7, none⟩ = some (.int .i32 l[j].r) ∧ w.cell? ⟨g, j * 7 + 1, none⟩ = some (.int .i64 l[j].at_) ∧ w.cell? ⟨g, j * 7 + 2, none⟩ = some (.int .i64 l[j].sz) ∧ w.cell? ⟨g, j * 7 + 3, none⟩ = some (.bool l[j].fo) ∧ w.cell? ⟨g, j * 7 + 4, none⟩ = some (.bool l[j].ch) ∧ w.cell? ⟨g, j * 7 + 5, none⟩ = some (.bool l[j].nb) ∧ w.cell? ⟨g, j * 7 + 6, none⟩ = some (.bool l[j].pr) := by
  have h1 := h.1
  obtain ⟨g, e, hg, hz⟩ := h.2 (by omega)
  exact ⟨g, e, hg, hz j hj 0 (by decide), hz j hj 1 (by decide), hz j hj 2 (by decide), hz j hj 3 (by decide), hz j hj 4 (by decide), hz j hj 5 (by decide), hz j hj 6 (by decide)⟩
def exB : ByteArray := ⟨#[97, 60, 98, 114, 62, 38, 108, 116, 59]⟩
def exBC : Array Value := #[.int .u8 97, .int .u8 60, .int .u8 98, .int .u8 114, .int .u8 62, .int .u8 38, .int .u8 108, .int .u8 116, .int .u8 59]
theorem exB_cells : exBC = exB.data.map fun b => Value.int .u8 b.toNat := by kernel_rfl
theorem exB_toks : toks exB = [⟨0, 0, 1, noB, 0, false⟩, ⟨2, 1, 5, ⟨#[98, 114]⟩, 0, false⟩, ⟨1, 5, 9, noB, 60, false⟩] := by kernel_rfl
theorem exB_all : exAll exB = [⟨97, 0, 1, false, false, false, false⟩, ⟨60, 5, 4, true, false, false, false⟩] := by
  unfold exAll
  rw [exB_toks]
  kernel_rfl
set_option maxHeartbeats 8000000 in
theorem exawake_any (w : World) (ht : TabSp w) (hmx : Mx w) : Calls Tryz.prog 12 #[] w fun e w' => e = .returned (.bool true) ∧ Below w.heap.size w w' := by
  have kc := Lib.run_convert_bytes_const (P := Tryz.prog) w 22 5 exBC 9 9 Tryz.underlying22 Tryz.underlying5
  simp only [exBC, List.size_toArray, List.length_cons, List.length_nil, Nat.reduceAdd] at kc
  have hcell := fun i => cell_of_row _ w.heap.size i _ _ _ (heap_alloc_new w (.cells exBC 5 (9, 10)))
  have hb1 := (Below.refl w.heap.size w).alloc (Nat.le_refl _) (.cells exBC 5 (9, 10))
  have hz : Lib.Bytes (w.alloc (.cells exBC 5 (9, 10))) w.heap.size 0 exB := by
    intro i hi
    rw [Nat.zero_add, hcell i, exB_cells, Array.getElem?_map]
    have hi' : i < exB.data.size := hi
    rw [Array.getElem?_eq_getElem hi']
    rfl
  have hba : BA (w.alloc (.cells exBC 5 (9, 10))) (some ⟨w.heap.size, 0, none⟩) 9 9 exB := ⟨rfl, Nat.le_refl _, by decide, fun _ => ⟨w.heap.size, 0, rfl, by simp, hz⟩⟩
  have hall := exAll_any _ 9 9 exB _ hba (hmx.below hb1 (Nat.le_refl _)) (ht.below hb1 (Nat.le_refl _)) (by decide)
  rw [exB_all] at hall
  have HALL := hid hall
  have HB1 := hid hb1
  clear hba hz hb1 hall hcell ht hmx
  go_enter Tryz.func12, Tryz.ntmps12
  go_wp2_with fail
  refine HALL.out.mono ?_
  rintro e w2 ⟨v, rfl, hrow, hb2⟩
  obtain ⟨A, cap, rfl, hir⟩ := IR.of_own hrow
  obtain ⟨g, rfl, hgl, x0, x1, x2, x3, x4, x5, x6⟩ := hir.at_ (j := 0) (by decide)
  obtain ⟨g', e, _, y0, y1, y2, y3, y4, y5, y6⟩ := hir.at_ (j := 1) (by decide)
  cases e
  have HB2 := hid (HB1.out.trans (hb2.mono HB1.out.size))
  simp only [List.getElem_cons_zero, List.getElem_cons_succ, Nat.zero_mul, Nat.one_mul, Nat.reduceAdd] at x0 x1 x2 x3 x4 x5 x6 y0 y1 y2 y3 y4 y5 y6
  clear kc hrow hb2 hir
  go_wp2_with fail
  go_ret
  exact ⟨rfl, HB2.out⟩
end Go.Proofs.YtlfbgaknljdanaaGreatDoor
