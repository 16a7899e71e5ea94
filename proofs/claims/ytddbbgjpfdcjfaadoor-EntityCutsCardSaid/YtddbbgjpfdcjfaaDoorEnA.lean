/- Chapter 16: the names' rows, small predicates: walks. -/
import Derived.Test.YtddbbgjpfdcjfaaDoorEnP2
import Derived.Shelf.Abstract
import Derived.Deep.LoopGhost
namespace Go.Proofs.YtddbbgjpfdcjfaaDoor
open Go.RowKit
open Go.Shelf
open Go.Lib (hid)
set_option linter.unusedVariables false

def rowCells (x : ByteArray × Int) : List Value := [.string x.1, .int .i32 x.2]
def rowsV : Array Value := (names.flatMap rowCells).toArray
noncomputable def zeroRows : Array Value := ((Tryd.prog.info? 53).bind (·.zero)).get!.cells
theorem zeroRows_run (w : World) : (Instr.alloc 53 true (.tuple #[])).run Tryd.prog w = .ok (.pointer (some ⟨w.heap.size, 0, none⟩)) (w.alloc (.cells zeroRows 53)) := by kernel_rfl
theorem rows_info : (Tryd.prog.info? 53).map (·.size) = some rowsV.size := by kernel_rfl
theorem zeroRows_size : zeroRows.size = rowsV.size := by kernel_rfl
theorem rows_one : rowsV.all (·.oneCell') = true := by kernel_rfl
theorem names_len : names.length = 26 := by kernel_rfl
theorem rowCells_get : ∀ (l : List (ByteArray × Int)) (k : Nat) (h : k < l.length), (l.flatMap rowCells)[k * 2]? = some (.string l[k].1) ∧ (l.flatMap rowCells)[k * 2 + 1]? = some (.int .i32 l[k].2)
  | x :: r, 0, _ => ⟨rfl, rfl⟩
  | x :: r, k + 1, h => by
    have := rowCells_get r k (by simpa using h)
    simpa [rowCells, Nat.add_mul] using this
theorem rowsV_get (k : Nat) (h : k < names.length) : rowsV[k * 2]? = some (.string names[k].1) ∧ rowsV[k * 2 + 1]? = some (.int .i32 names[k].2) := by
  unfold rowsV
  rw [List.getElem?_toArray, List.getElem?_toArray]
  exact rowCells_get names k h

set_option maxRecDepth 100000 in
set_option maxHeartbeats 1000000 in
theorem rows_any (w : World) : Calls Tryd.prog 28 #[] w fun e w' => e = .returned (.agg rowsV) ∧ Below w.heap.size w w' := by
  refine calls_of_wp Tryd.func28 rfl ?_
  apply wp_seq_k; intro K0 hK0
  apply wp_region_lit
  refine Great.wpList_runTo rfl (some 0) rfl (.pointer (some ⟨w.heap.size, 0, none⟩)) (w.alloc (.cells zeroRows 53)) (by as_aux_lemma => kernel_rfl) ?_
  apply wpList_nil
  refine hK0 _ _ ?_
  apply wp_seq_k; intro K1 hK1
  apply wp_region_lit
  refine wpList_table 27 _ _ 53 (.tmp 0) (.tmp 27) w.heap.size rowsV (by as_aux_lemma => kernel_rfl) (by as_aux_lemma => kernel_rfl) _ _ (heap_alloc_new w _) (by as_aux_lemma => kernel_rfl) (by as_aux_lemma => kernel_rfl) (by as_aux_lemma => kernel_rfl) ?_
  intro a' hd hx
  refine hK1 _ _ ?_
  apply wp_ret
  refine bodyPost_ret (v := .agg rowsV) (results_cell_row rfl _ _ w.heap.size _ _ _ _ (by simpa [Act.eval] using hx) (setRow_heap _ _ _ _ _ _ (heap_alloc_new w _)) Tryd.underlying53 rfl (by as_aux_lemma => kernel_rfl)) hd ⟨rfl, ?_⟩
  exact ⟨rfl, rfl, rfl, by simp, fun k hk => by rw [setRow_other _ _ _ _ (by omega)]; exact Below.heap_alloc _ _ _ hk⟩

theorem letter_any (c : Int) (w : World) : Calls Tryd.prog 35 #[.int .u8 c] w fun e w' => e = .returned (.bool (letP c)) ∧ w' = w := by
  by_cases h1 : 97 ≤ c
  · by_cases h2 : c ≤ 122
    · have HB := hid (show letP c = true from decide_eq_true ⟨h1, h2⟩)
      go_enter Tryd.func35, Tryd.ntmps35
      go_wp2
      go_ret
      exact ⟨ret_bool HB.out.symm, rfl⟩
    · have HB := hid (show letP c = false from decide_eq_false fun h => h2 h.2)
      go_enter Tryd.func35, Tryd.ntmps35
      go_wp2
      go_ret
      exact ⟨ret_bool HB.out.symm, rfl⟩
  · have HB := hid (show letP c = false from decide_eq_false fun h => h1 h.1)
    go_enter Tryd.func35, Tryd.ntmps35
    go_wp2
    go_ret
    exact ⟨ret_bool HB.out.symm, rfl⟩
theorem decimal_any (c : Int) (w : World) : Calls Tryd.prog 34 #[.int .u8 c] w fun e w' => e = .returned (.bool (decP c)) ∧ w' = w := by
  by_cases h1 : 48 ≤ c
  · by_cases h2 : c ≤ 57
    · have HB := hid (show decP c = true from decide_eq_true ⟨h1, h2⟩)
      go_enter Tryd.func34, Tryd.ntmps34
      go_wp2
      go_ret
      exact ⟨ret_bool HB.out.symm, rfl⟩
    · have HB := hid (show decP c = false from decide_eq_false fun h => h2 h.2)
      go_enter Tryd.func34, Tryd.ntmps34
      go_wp2
      go_ret
      exact ⟨ret_bool HB.out.symm, rfl⟩
  · have HB := hid (show decP c = false from decide_eq_false fun h => h1 h.1)
    go_enter Tryd.func34, Tryd.ntmps34
    go_wp2
    go_ret
    exact ⟨ret_bool HB.out.symm, rfl⟩
theorem hex_any (c : Int) (w : World) : Calls Tryd.prog 33 #[.int .u8 c] w fun e w' => e = .returned (.bool (hexP c)) ∧ w' = w := by
  have hd := decimal_any c w
  cases h0 : decP c
  · have hn : ¬ (48 ≤ c ∧ c ≤ 57) := of_decide_eq_false h0
    rw [h0] at hd
    have HD := hid hd
    have hx : hexP c = (decide (97 ≤ c ∧ c ≤ 102) || decide (65 ≤ c ∧ c ≤ 70)) := by unfold hexP; rw [h0, Bool.false_or]
    clear hd h0
    have hcase : (97 ≤ c ∧ c ≤ 102) ∨ (65 ≤ c ∧ c ≤ 70 ∧ ¬ 97 ≤ c) ∨ (¬ 97 ≤ c ∧ ¬ 65 ≤ c) ∨ (¬ 97 ≤ c ∧ 65 ≤ c ∧ ¬ c ≤ 70) ∨ (97 ≤ c ∧ ¬ c ≤ 102) := by omega
    rcases hcase with ⟨h1, h2⟩ | ⟨h1, h2, h3⟩ | ⟨h1, h2⟩ | ⟨h1, h2, h3⟩ | ⟨h1, h2⟩
    · have HB := hid (show hexP c = true by rw [hx]; simp; omega)
      clear hx hn
      go_enter Tryd.func33, Tryd.ntmps33
      go_wp2_with (go_at_call 34; refine HD.out.mono ?_; rintro e w' ⟨rfl, hw⟩; obtain rfl : w = w' := hw.symm)
      go_ret
      exact ⟨ret_bool HB.out.symm, rfl⟩
    · have HB := hid (show hexP c = true by rw [hx]; simp; omega)
      clear hx hn
      go_enter Tryd.func33, Tryd.ntmps33
      go_wp2_with (go_at_call 34; refine HD.out.mono ?_; rintro e w' ⟨rfl, hw⟩; obtain rfl : w = w' := hw.symm)
      go_ret
      exact ⟨ret_bool HB.out.symm, rfl⟩
    · have HB := hid (show hexP c = false by rw [hx]; simp; omega)
      clear hx hn
      go_enter Tryd.func33, Tryd.ntmps33
      go_wp2_with (go_at_call 34; refine HD.out.mono ?_; rintro e w' ⟨rfl, hw⟩; obtain rfl : w = w' := hw.symm)
      go_ret
      exact ⟨ret_bool HB.out.symm, rfl⟩
    · have HB := hid (show hexP c = false by rw [hx]; simp; omega)
      clear hx hn
      go_enter Tryd.func33, Tryd.ntmps33
      go_wp2_with (go_at_call 34; refine HD.out.mono ?_; rintro e w' ⟨rfl, hw⟩; obtain rfl : w = w' := hw.symm)
      go_ret
      exact ⟨ret_bool (by rw [HB.out]; simp; omega), rfl⟩
    · have h3 : ¬ c ≤ 70 := by omega
      have h4 : 65 ≤ c := by omega
      have HB := hid (show hexP c = false by rw [hx]; simp; omega)
      clear hx hn
      go_enter Tryd.func33, Tryd.ntmps33
      go_wp2_with (go_at_call 34; refine HD.out.mono ?_; rintro e w' ⟨rfl, hw⟩; obtain rfl : w = w' := hw.symm)
      go_ret
      exact ⟨ret_bool (by rw [HB.out]; simp; omega), rfl⟩
  · rw [h0] at hd
    have HD := hid hd
    have HB := hid (show hexP c = true by unfold hexP; rw [h0]; rfl)
    clear hd h0
    go_enter Tryd.func33, Tryd.ntmps33
    go_wp2_with (go_at_call 34; refine HD.out.mono ?_; rintro e w' ⟨rfl, hw⟩; obtain rfl : w = w' := hw.symm)
    go_ret
    exact ⟨ret_bool HB.out.symm, rfl⟩

theorem preB_ext (s p : ByteArray) : preB s p = (decide (p.size ≤ s.size) && decide (s.extract 0 p.size = p)) := by
  rw [Bool.eq_iff_iff, preB_iff, Bool.and_eq_true, decide_eq_true_iff, decide_eq_true_iff]
  constructor
  · rintro ⟨h1, h2⟩
    refine ⟨h1, ?_⟩
    apply ext_byt
    · rw [ByteArray.size_extract]; omega
    · intro i hi
      rw [ByteArray.size_extract] at hi
      rw [byt_ext0 _ (by omega) h1]
      exact h2 i (by omega)
  · rintro ⟨h1, h2⟩
    refine ⟨h1, fun i hi => ?_⟩
    rw [← byt_ext0 s hi h1, h2]
set_option maxHeartbeats 1000000 in
theorem litepre_any (s p : ByteArray) (w : World) (h0 : s.size ≤ 9223372036854775807) (h00 : p.size ≤ 9223372036854775807) : Calls Tryd.prog 38 #[.string s, .string p] w fun e w' => e = .returned (.bool (preB s p)) ∧ w' = w := by
  by_cases h : p.size ≤ s.size
  · by_cases h2 : s.extract 0 p.size = p
    · have HB := hid (show preB s p = true by rw [preB_ext, decide_eq_true h, decide_eq_true h2]; rfl)
      have h' : (p.size : Int) ≤ (s.size : Int) := by omega
      have he : ((s.extract 0 p.size).toList == p.toList) = true := by rw [h2]; simp
      clear h2
      go_enter Tryd.func38, Tryd.ntmps38
      go_wp2
      go_ret
      exact ⟨ret_bool HB.out.symm, rfl⟩
    · have HB := hid (show preB s p = false by rw [preB_ext, decide_eq_false h2, Bool.and_false])
      have h' : (p.size : Int) ≤ (s.size : Int) := by omega
      have he : ((s.extract 0 p.size).toList == p.toList) = false := str_ne h2
      clear h2
      go_enter Tryd.func38, Tryd.ntmps38
      go_wp2
      go_ret
      exact ⟨ret_bool HB.out.symm, rfl⟩
  · have HB := hid (show preB s p = false by rw [preB_ext, decide_eq_false h, Bool.false_and])
    have h' : ¬ (p.size : Int) ≤ (s.size : Int) := by omega
    go_enter Tryd.func38, Tryd.ntmps38
    go_wp2
    go_ret
    exact ⟨ret_bool HB.out.symm, rfl⟩
theorem hasprefix_any (s p : ByteArray) (w : World) (h0 : s.size ≤ 9223372036854775807) (h00 : p.size ≤ 9223372036854775807) : Calls Tryd.prog 25 #[.string s, .string p] w fun e w' => e = .returned (.bool (preB s p)) ∧ w' = w := by
  have HP := hid (litepre_any s p w h0 h00)
  go_enter Tryd.func25, Tryd.ntmps25
  go_wp2_with (go_at_call 38; refine HP.out.mono ?_; rintro e w' ⟨rfl, hw⟩; obtain rfl : w = w' := hw.symm)
  go_ret
  exact ⟨rfl, rfl⟩
set_option maxHeartbeats 1000000 in
theorem begins_any (s p : ByteArray) (w : World) (h0 : s.size ≤ 9223372036854775807) (h00 : p.size ≤ 9223372036854775807) : Calls Tryd.prog 26 #[.string s, .string p] w fun e w' => e = .returned (.bool (preB s p)) ∧ w' = w := by
  by_cases h : p.size ≤ s.size
  · by_cases h2 : s.extract 0 p.size = p
    · have HB := hid (show preB s p = true by rw [preB_ext, decide_eq_true h, decide_eq_true h2]; rfl)
      have h' : (p.size : Int) ≤ (s.size : Int) := by omega
      have he : ((s.extract 0 p.size).toList == p.toList) = true := by rw [h2]; simp
      clear h2
      go_enter Tryd.func26, Tryd.ntmps26
      go_wp2
      go_ret
      exact ⟨ret_bool HB.out.symm, rfl⟩
    · have HB := hid (show preB s p = false by rw [preB_ext, decide_eq_false h2, Bool.and_false])
      have h' : (p.size : Int) ≤ (s.size : Int) := by omega
      have he : ((s.extract 0 p.size).toList == p.toList) = false := str_ne h2
      clear h2
      go_enter Tryd.func26, Tryd.ntmps26
      go_wp2
      go_ret
      exact ⟨ret_bool HB.out.symm, rfl⟩
  · have HB := hid (show preB s p = false by rw [preB_ext, decide_eq_false h, Bool.false_and])
    have h' : ¬ (p.size : Int) ≤ (s.size : Int) := by omega
    go_enter Tryd.func26, Tryd.ntmps26
    go_wp2
    go_ret
    exact ⟨ret_bool HB.out.symm, rfl⟩
end Go.Proofs.YtddbbgjpfdcjfaaDoor
