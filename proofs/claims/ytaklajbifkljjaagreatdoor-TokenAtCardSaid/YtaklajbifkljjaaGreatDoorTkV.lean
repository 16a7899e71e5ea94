/- Chapter 19: the document's tokens as rows; Is: the walk. -/
import Derived.Test.YtaklajbifkljjaaGreatDoorTkU
namespace Go.Proofs.YtaklajbifkljjaaGreatDoor
open Go.RowKit Go.Shelf
open Go.Lib (hid)
set_option linter.unusedVariables false
set_option maxRecDepth 100000

def DR (w : World) (A : Option Addr) (n : Nat) (l : List Tk) : Prop :=
  n = l.length ∧ (0 < n → ∃ g, A = some ⟨g, 0, none⟩ ∧ g < w.heap.size ∧ ∀ (j : Nat) (h : j < l.length) (f : Nat), f < 7 → w.cell? ⟨g, j * 7 + f, none⟩ = (tD l[j])[f]?)
theorem DR.below {w w' : World} {A : Option Addr} {n B : Nat} {l : List Tk} (h : DR w A n l) (hb : Below B w w') (hB : w.heap.size ≤ B) : DR w' A n l :=
  ⟨h.1, fun hn => by
    obtain ⟨g, e, hg, hz⟩ := h.2 hn
    exact ⟨g, e, Nat.lt_of_lt_of_le hg hb.size, fun j hj f hf => (hb.cell (p := ⟨g, j * 7 + f, none⟩) (by show g < B; omega)).trans (hz j hj f hf)⟩⟩
theorem DR.of_made {n₀ : Nat} {W : World} {v : Value} {l : List Tk} (h : MadeD n₀ W v l) : ∃ A cap, v = .slice A l.length cap ∧ DR W A l.length l := by
  have hr : W.ownsRow n₀ 53 7 v l.length (tdCells l) := h
  obtain ⟨A, cap, rfl⟩ := owns_slice hr
  refine ⟨A, cap, rfl, rfl, fun hn => ?_⟩
  obtain ⟨k, hk⟩ : ∃ k, l.length = k + 1 := ⟨l.length - 1, by omega⟩
  rw [hk] at hr
  obtain ⟨g, cap', e⟩ := ownsRow_succ (k := k) hr
  injection e with e1 _ e3
  subst e1
  refine ⟨g, rfl, (hr.lt g rfl).2, fun j hj f hf => ?_⟩
  rw [← tdCells_get l j hj f hf]
  exact hr.cellAt (j * 7 + f) (by omega)
theorem DR.at_ {w : World} {A : Option Addr} {n : Nat} {l : List Tk} (h : DR w A n l) {j : Nat} (hj : j < l.length) : ∃ g, A = some ⟨g, 0, none⟩ ∧ g < w.heap.size ∧ w.cell? ⟨g, j * 7, none⟩ = some (.int .i64 l[j].kind) ∧ w.cell? ⟨g, j * 7 + 1, none⟩ = some (.int .i64 l[j].fr) ∧ w.cell? ⟨g, j * 7 + 2, none⟩ = some (.int .i64 l[j].til) ∧ w.cell? ⟨g, j * 7 + 3, none⟩ = some (.string l[j].name) ∧ w.cell? ⟨g, j * 7 + 4, none⟩ = some (.int .i32 l[j].r) ∧ w.cell? ⟨g, j * 7 + 5, none⟩ = some (.bool l[j].single) ∧ w.cell? ⟨g, j * 7 + 6, none⟩ = some (.bool false) := by
  have h1 := h.1
  obtain ⟨g, e, hg, hz⟩ := h.2 (by omega)
  exact ⟨g, e, hg, hz j hj 0 (by decide), hz j hj 1 (by decide), hz j hj 2 (by decide), hz j hj 3 (by decide), hz j hj 4 (by decide), hz j hj 5 (by decide), hz j hj 6 (by decide)⟩
set_option maxHeartbeats 2000000 in
theorem is_any (k f t : Int) (nm : ByteArray) (r : Int) (sg cl : Bool) (w : World) :
    Calls Tryz.prog 25 #[.agg #[.int .i64 k, .int .i64 f, .int .i64 t, .string nm, .int .i32 r, .bool sg], .agg #[.int .i64 k, .int .i64 f, .int .i64 t, .string nm, .int .i32 r, .bool sg, .bool cl]] w fun e w' => e = .returned (.bool true) ∧ Below w.heap.size w w' := by
  have hb := ((Below.refl w.heap.size w).alloc (Nat.le_refl _) (.cells #[.int .i64 k, .int .i64 f, .int .i64 t, .string nm, .int .i32 r, .bool sg] 50)).alloc (by simp) (.cells #[.int .i64 k, .int .i64 f, .int .i64 t, .string nm, .int .i32 r, .bool sg, .bool cl] 53)
  have q1 := (Blk.new w 50 #[.int .i64 k, .int .i64 f, .int .i64 t, .string nm, .int .i32 r, .bool sg]).alloc (.cells #[.int .i64 k, .int .i64 f, .int .i64 t, .string nm, .int .i32 r, .bool sg, .bool cl] 53)
  have q2 := Blk.new (w.alloc (.cells #[.int .i64 k, .int .i64 f, .int .i64 t, .string nm, .int .i32 r, .bool sg] 50)) 53 #[.int .i64 k, .int .i64 f, .int .i64 t, .string nm, .int .i32 r, .bool sg, .bool cl]
  rw [World.size_alloc] at q2
  have x0 := q1.cell 0
  have x1 := q1.cell 1
  have x2 := q1.cell 2
  have x3 := q1.cell 3
  have x4 := q1.cell 4
  have x5 := q1.cell 5
  have y0 := q2.cell 0
  have y1 := q2.cell 1
  have y2 := q2.cell 2
  have y3 := q2.cell 3
  have y4 := q2.cell 4
  have y5 := q2.cell 5
  simp only [List.getElem?_toArray, List.getElem?_cons_zero, List.getElem?_cons_succ] at x0 x1 x2 x3 x4 x5 y0 y1 y2 y3 y4 y5
  have HB := hid hb
  clear hb q1 q2
  go_enter Tryz.func25, Tryz.ntmps25
  go_upto_region 1 with fail
  generalize (w.alloc (.cells #[.int .i64 k, .int .i64 f, .int .i64 t, .string nm, .int .i32 r, .bool sg] 50)).alloc (.cells #[.int .i64 k, .int .i64 f, .int .i64 t, .string nm, .int .i32 r, .bool sg, .bool cl] 53) = w2 at *
  go_wp2_with fail
  go_ret
  exact ⟨rfl, HB.out⟩
end Go.Proofs.YtaklajbifkljjaaGreatDoor
