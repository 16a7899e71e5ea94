/- Walk of the document's List. -/
import Derived.Test.YtfhmeemkmdkhoaaProg
import Derived.Test.YtfhmeemkmdkhoaaBase
import Derived.Test.YtfhmeemkmdkhoaaTab
namespace Go.Proofs.Ytfhmeemkmdkhoaa
open Go.RowKit
open Go.Lib

def pairCells : List (Int × Int) → List Value
  | [] => []
  | (a, b) :: r => .int .i32 a :: .int .i32 b :: pairCells r

/-- The value is a new slice over these pairs. -/
def IsPairs (B : Nat) (w : World) (v : Value) (l : List (Int × Int)) : Prop :=
  (l = [] ∧ v = .slice none 0 0) ∨ ∃ b t, B ≤ b ∧ v = .slice (some ⟨b, 0, none⟩) l.length l.length ∧ w.heap[b]? = some (.cells (pairCells l).toArray t (0, 0))

def ListPost (c : Int) (w : World) (e : Ending) (w' : World) : Prop := ∃ v, e = .returned v ∧ IsPairs w.heap.size w' v (refList c.toNat) ∧ Below w.heap.size w w'

theorem lp_mk {c k : Int} {n : Nat} {cs : Array Value} {t : TypeId} {w : World} (h : (c == k) = true) (hn : (refList k.toNat).length = n) (hcs : cs = (pairCells (refList k.toNat)).toArray) :
    ListPost c w (.returned (.slice (some ⟨w.heap.size, 0, none⟩) n n)) (w.alloc (.cells cs t)) := by
  obtain rfl : c = k := by simpa using h
  subst hn hcs
  refine ⟨_, rfl, .inr ⟨w.heap.size, t, Nat.le_refl _, rfl, heap_alloc_new _ _⟩, (Below.refl _ _).alloc (Nat.le_refl _) _⟩

theorem lp_nil {c : Int} {w : World} (h : refList c.toNat = []) : ListPost c w (.returned (.slice none 0 0)) w :=
  ⟨_, rfl, .inl ⟨h, rfl⟩, Below.refl _ _⟩

set_option maxHeartbeats 4000000 in
set_option maxRecDepth 100000 in
theorem reflist_any (c : Int) (h0 : 0 ≤ c) (h1 : c ≤ 35) (w : World) : Calls Try.prog 30 #[.int .i64 c] w (ListPost c w) := by
  go_enter Try.func30, Try.ntmps30
  go_wp2
  all_goals go_ret
  all_goals first
    | exact lp_mk ‹(c == _) = true› rfl rfl
    | (refine lp_nil ?_
       simp only [beq_eq_false_iff_ne, ne_eq] at *
       rcases (by omega : c = 0 ∨ c = 14 ∨ c = 15) with rfl | rfl | rfl <;> rfl)
end Go.Proofs.Ytfhmeemkmdkhoaa
