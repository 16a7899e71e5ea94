/- Walks -/
import Derived.Test.YtfhmeemkmdkhoaaProg
import Derived.Test.YtfhmeemkmdkhoaaBase
import Derived.Test.YtfhmeemkmdkhoaaTab
namespace Go.Proofs.Ytfhmeemkmdkhoaa
open Go.RowKit
open Go.Lib
open Go.Great
def tabCells : List (Int × Int × Int) → List Value
  | [] => []
  | (a, b, c) :: r => .int .i32 a :: .int .i32 b :: .int .i64 c :: tabCells r

set_option maxRecDepth 100000 in
set_option maxHeartbeats 1000000 in
theorem rows_any (w : World) : Calls Try.prog 26 #[] w fun e w' => e = .returned (.agg (tabCells tab).toArray) ∧ Below w.heap.size w w' := by
  refine calls_of_wp Try.func26 rfl ?_
  apply wp_seq_k; intro K0 hK0
  apply wp_region_lit
  refine wpList_runTo rfl (some 0) rfl (.pointer (some ⟨w.heap.size, 0, none⟩)) (w.alloc (.cells ((Try.prog.info? 52).bind (·.zero)).get!.cells 52)) (by as_aux_lemma => kernel_rfl) ?_
  apply wpList_nil
  refine hK0 _ _ ?_
  apply wp_seq_k; intro K1 hK1
  apply wp_region_lit
  refine wpList_table 140 _ _ 52 (.tmp 0) (.tmp 140) w.heap.size (tabCells tab).toArray (by as_aux_lemma => kernel_rfl) (by as_aux_lemma => kernel_rfl) _ _ (heap_alloc_new w _) (by as_aux_lemma => kernel_rfl) (by as_aux_lemma => kernel_rfl) (by as_aux_lemma => kernel_rfl) ?_
  intro a' hd hx
  refine hK1 _ _ ?_
  apply wp_ret
  refine bodyPost_ret (v := .agg (tabCells tab).toArray) (results_cell_row rfl _ _ w.heap.size _ _ _ _ (by simpa [Act.eval] using hx) (setRow_heap _ _ _ _ _ _ (heap_alloc_new w _)) Try.underlying52 rfl (by as_aux_lemma => kernel_rfl)) hd ⟨rfl, ?_⟩
  exact ⟨rfl, rfl, rfl, by simp, fun k hk => by rw [setRow_other _ _ _ _ (by omega)]; exact Below.heap_alloc _ _ _ hk⟩
end Go.Proofs.Ytfhmeemkmdkhoaa
