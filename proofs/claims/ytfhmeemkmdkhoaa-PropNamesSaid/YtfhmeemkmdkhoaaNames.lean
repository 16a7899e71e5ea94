/- The classes' names: walks of prop.names, prop.Name, prop.Number, slices.Index at strings, the document's Name. -/
import Derived.Test.YtfhmeemkmdkhoaaProg
import Derived.Test.YtfhmeemkmdkhoaaBase
import Derived.Deep.LoopGhost
namespace Go.Proofs.Ytfhmeemkmdkhoaa
open Go.RowKit
open Go.Lib

/-- The classes' names, in order. -/
def nameList : List ByteArray := [
  ⟨#[79, 116, 104, 101, 114]⟩,
  ⟨#[67, 82]⟩,
  ⟨#[76, 70]⟩,
  ⟨#[78, 101, 119, 108, 105, 110, 101]⟩,
  ⟨#[67, 111, 110, 116, 114, 111, 108]⟩,
  ⟨#[69, 120, 116, 101, 110, 100]⟩,
  ⟨#[90, 87, 74]⟩,
  ⟨#[70, 111, 114, 109, 97, 116]⟩,
  ⟨#[82, 101, 103, 105, 111, 110, 97, 108]⟩,
  ⟨#[80, 114, 101, 112, 101, 110, 100]⟩,
  ⟨#[83, 112, 97, 99, 105, 110, 103]⟩,
  ⟨#[76]⟩,
  ⟨#[86]⟩,
  ⟨#[84]⟩,
  ⟨#[76, 86]⟩,
  ⟨#[76, 86, 84]⟩,
  ⟨#[80, 105, 99, 116]⟩,
  ⟨#[85, 112, 112, 101, 114]⟩,
  ⟨#[76, 111, 119, 101, 114]⟩,
  ⟨#[76, 101, 116, 116, 101, 114]⟩,
  ⟨#[75, 97, 116, 97, 107, 97, 110, 97]⟩,
  ⟨#[73, 100, 101, 111, 103, 114, 97, 112, 104]⟩,
  ⟨#[68, 105, 103, 105, 116]⟩,
  ⟨#[77, 105, 100, 76, 101, 116, 116, 101, 114]⟩,
  ⟨#[77, 105, 100, 78, 117, 109]⟩,
  ⟨#[68, 111, 116]⟩,
  ⟨#[65, 112, 111, 115, 116, 114, 111, 112, 104, 101]⟩,
  ⟨#[81, 117, 111, 116, 101]⟩,
  ⟨#[74, 111, 105, 110, 101, 114]⟩,
  ⟨#[83, 112, 97, 99, 101]⟩,
  ⟨#[84, 101, 114, 109]⟩,
  ⟨#[79, 112, 101, 110]⟩,
  ⟨#[67, 108, 111, 115, 101]⟩,
  ⟨#[72, 121, 112, 104, 101, 110]⟩,
  ⟨#[71, 108, 117, 101]⟩,
  ⟨#[71, 97, 112]⟩]
theorem nameList_len : nameList.length = 36 := by kernel_rfl
def namesV : Array Value := (nameList.map Value.string).toArray
noncomputable def zeroNames : Array Value := ((Try.prog.info? 59).bind (·.zero)).get!.cells
theorem zeroNames_run (w : World) : (Instr.alloc 59 true (.tuple #[])).run Try.prog w = .ok (.pointer (some ⟨w.heap.size, 0, none⟩)) (w.alloc (.cells zeroNames 59)) := by kernel_rfl
theorem names_info : (Try.prog.info? 59).map (·.size) = some namesV.size := by kernel_rfl
theorem zeroNames_size : zeroNames.size = namesV.size := by kernel_rfl
theorem names_one : namesV.all (·.oneCell') = true := by kernel_rfl
theorem namesV_get (i : Nat) (h : i < 36) : namesV[i]? = some (.string (nameList.getD i ByteArray.empty)) := by
  unfold namesV
  have h' : i < nameList.length := by rw [nameList_len]; exact h
  simp [List.getD_eq_getElem?_getD, List.getElem?_eq_getElem h']

set_option maxRecDepth 100000 in
set_option maxHeartbeats 1000000 in
theorem names_any (w : World) : Calls Try.prog 31 #[] w fun e w' => e = .returned (.agg namesV) ∧ Below w.heap.size w w' := by
  refine calls_of_wp Try.func31 rfl ?_
  apply wp_seq_k; intro K0 hK0
  apply wp_region_lit
  refine Great.wpList_runTo rfl (some 0) rfl (.pointer (some ⟨w.heap.size, 0, none⟩)) (w.alloc (.cells zeroNames 59)) (by as_aux_lemma => kernel_rfl) ?_
  apply wpList_nil
  refine hK0 _ _ ?_
  apply wp_seq_k; intro K1 hK1
  apply wp_region_lit
  refine wpList_table 1 _ _ 59 (.tmp 0) (.tmp 1) w.heap.size namesV (by as_aux_lemma => kernel_rfl) (by as_aux_lemma => kernel_rfl) _ _ (heap_alloc_new w _) (by as_aux_lemma => kernel_rfl) (by as_aux_lemma => kernel_rfl) (by as_aux_lemma => kernel_rfl) ?_
  intro a' hd hx
  refine hK1 _ _ ?_
  apply wp_ret
  refine bodyPost_ret (v := .agg namesV) (results_cell_row rfl _ _ w.heap.size _ _ _ _ (by simpa [Act.eval] using hx) (setRow_heap _ _ _ _ _ _ (heap_alloc_new w _)) Try.underlying59 rfl (by as_aux_lemma => kernel_rfl)) hd ⟨rfl, ?_⟩
  exact ⟨rfl, rfl, rfl, by simp, fun k hk => by rw [setRow_other _ _ _ _ (by omega)]; exact Below.heap_alloc _ _ _ hk⟩

/-- A class's name. -/
def nmOf (c : Int) : ByteArray := if 0 ≤ c ∧ c < 36 then nameList.getD c.toNat ByteArray.empty else ByteArray.empty

theorem index_names (c : Int) (h0 : 0 ≤ c) (h1 : c < 36) (w : World) : (Instr.index 59 (.agg namesV) (.int .i64 c)).run Try.prog w = .ok (.string (nmOf c)) w := by
  refine run_index_arr _ 9 36 .string _ _ _ _ _ Try.underlying59 Try.underlying9 rfl (by kernel_rfl) h0 (by omega) ?_
  rw [namesV_get _ (by omega), nmOf, if_pos ⟨h0, h1⟩]

theorem name_any (c : Int) (w : World) : Calls Try.prog 16 #[.int .i64 c] w fun e w' => e = .returned (.string (nmOf c)) ∧ Below w.heap.size w w' := by
  by_cases h0 : c < 0
  · have HN := Lib.hid (show nmOf c = ByteArray.empty by rw [nmOf, if_neg (by omega)])
    go_enter Try.func16, Try.ntmps16
    go_wp2
    go_ret
    exact ⟨by rw [HN.out]; rfl, Below.refl _ _⟩
  · by_cases h1 : 36 ≤ c
    · have HN := Lib.hid (show nmOf c = ByteArray.empty by rw [nmOf, if_neg (by omega)])
      go_enter Try.func16, Try.ntmps16
      go_wp2
      go_ret
      exact ⟨by rw [HN.out]; rfl, Below.refl _ _⟩
    · have hix := fun w => index_names c (by omega) (by omega) w
      generalize nmOf c = s at *
      go_enter Try.func16, Try.ntmps16
      go_wp2_with (go_at_call 31; refine (names_any _).mono ?_; rintro e w1 ⟨rfl, hb⟩)
      go_ret
      exact ⟨rfl, by assumption⟩

/-- Where a text stands first in a list. -/
def IsIdx (zs : List ByteArray) (x : ByteArray) (i : Int) : Prop :=
  (i = -1 ∧ ∀ j, j < zs.length → zs.getD j ByteArray.empty ≠ x) ∨ (∃ k : Nat, k < zs.length ∧ i = k ∧ zs.getD k ByteArray.empty = x)

set_option maxHeartbeats 1000000 in
theorem index_any (b n c : Nat) (zs : List ByteArray) (x : ByteArray) (w : World) (hz : n = zs.length) (hbig : n < 1000000) (hc : ∀ j, j < zs.length → w.cell? ⟨b, j, none⟩ = some (.string (zs.getD j ByteArray.empty))) :
    Calls Try.prog 32 #[.slice (some ⟨b, 0, none⟩) n c, .string x] w fun e w' => ∃ i, e = .returned (.int .i64 i) ∧ IsIdx zs x i ∧ w = w' := by
  have HZ := Lib.hid hz
  have HC := Lib.hid hc
  clear hz hc
  go_enter Try.func32, Try.ntmps32
  go_wp2
  go_loopg [8] n (fun g s8 wr => ∃ k : Nat, k ≤ n ∧ n - k ≤ g ∧ s8 = .int .i64 k ∧ wr = w ∧ Hid (∀ j, j < k → zs.getD j ByteArray.empty ≠ x))
  case atStart => exact ⟨0, Nat.zero_le _, by omega, rfl, rfl, fun j hj => absurd hj (Nat.not_lt_zero _)⟩
  case round =>
    obtain ⟨k, hk, hg, rfl, rfl, A⟩ := hrel
    by_cases hlt : k < n
    · have ck : wr.cell? ⟨b, k, none⟩ = some (.string (zs.getD k ByteArray.empty)) := HC.out k (by rw [← HZ.out]; exact hlt)
      generalize hy : zs.getD k ByteArray.empty = y at ck
      have Y := Lib.hid hy
      clear hy
      by_cases hxy : x = y
      · subst hxy
        go_wp2
        go_ret
        exact ⟨_, rfl, .inr ⟨k, by rw [← HZ.out]; exact hlt, rfl, Y.out⟩, rfl⟩
      · have hne := str_ne hxy
        have HXY := Lib.hid hxy
        clear hxy
        go_wp2
        go_roundg (n - (k + 1))
        case measure => omega
        case rel =>
          refine ⟨k + 1, by omega, Nat.le_refl _, by go_num, rfl, fun j hj => ?_⟩
          by_cases e : j = k
          · subst e
            rw [Y.out]
            exact fun h => HXY.out h.symm
          · exact A.out j (by omega)
    · have : k = n := by omega
      subst this
      go_wp2
      go_ret
      exact ⟨_, rfl, .inl ⟨rfl, by rw [← HZ.out]; exact A.out⟩, rfl⟩

/-- What prop.Number answers. -/
def IsNumber (x : ByteArray) (n : Int) (ok : Bool) : Prop := (ok = false ∧ n = 0 ∧ ∀ j : Int, 0 ≤ j → j < 36 → nmOf j ≠ x) ∨ (ok = true ∧ 0 ≤ n ∧ n < 36 ∧ nmOf n = x)

theorem isNumber_of {x : ByteArray} {i : Int} (h : IsIdx nameList x i) : -1 ≤ i ∧ i < 36 ∧ IsNumber x (max i 0) (decide (0 ≤ i)) := by
  rcases h with ⟨rfl, h⟩ | ⟨k, hk, rfl, h⟩
  · refine ⟨by omega, by omega, .inl ⟨by decide, by decide, fun j h0 h1 => ?_⟩⟩
    rw [nmOf, if_pos ⟨h0, h1⟩]
    exact h _ (by rw [nameList_len]; omega)
  · rw [nameList_len] at hk
    refine ⟨by omega, by omega, .inr ⟨by simp, by omega, by omega, ?_⟩⟩
    rw [show max (k : Int) 0 = (k : Int) by omega, nmOf, if_pos ⟨by omega, by omega⟩, Int.toNat_natCast]
    exact h

def NumberPost (x : ByteArray) (w : World) (e : Ending) (w' : World) : Prop := ∃ n ok, e = .returned (.tuple #[.int .i64 n, .bool ok]) ∧ IsNumber x n ok ∧ Below w.heap.size w w'

set_option maxHeartbeats 1000000 in
theorem number_any (x : ByteArray) (w : World) : Calls Try.prog 17 #[.string x] w (NumberPost x w) := by
  go_enter Try.func17, Try.ntmps17
  go_wp2_with (first
    | (go_at_call 31; refine (names_any _).mono ?_; rintro e w1 ⟨rfl, hb⟩)
    | (with_reducible refine wpList_allocZ 4 59 _ zeroNames 59 zeroNames_run ?_)
    | ((with_reducible refine wpList_store_row (o := ⟨none, .store 59 (.tmp 4) (.tmp 6), _, _, _, _⟩) rfl 59 _ _ rfl w1.heap.size namesV rfl rfl 59 zeroNames (heap_alloc_new _ _) names_info zeroNames_size names_one ?_)))
  have hB : Below w.heap.size w ((w1.alloc (.cells zeroNames 59)).setRow w1.heap.size namesV) := by
    refine hb.trans ?_
    exact ⟨rfl, rfl, rfl, by simp, fun k hk => by rw [setRow_other _ _ _ _ (by have := hb.size; omega)]; exact Below.heap_alloc _ _ _ (by have := hb.size; omega)⟩
  have HR := Lib.hid (setRow_heap _ _ zeroNames namesV 59 (0, 0) (heap_alloc_new w1 (.cells zeroNames 59)))
  have HB := Lib.hid hB
  clear hB hb
  generalize (w1.alloc (.cells zeroNames 59)).setRow w1.heap.size namesV = W1 at *
  generalize w1.heap.size = bl at *
  refine (index_any bl 36 36 nameList x _ nameList_len.symm (by omega) ?_).mono ?_
  · intro j hj
    rw [nameList_len] at hj
    rw [cell_of_row _ _ _ _ _ _ HR.out, namesV_get j hj]
  · rintro e w2 ⟨i, rfl, hi, rfl⟩
    obtain ⟨h1, h2, h3⟩ := isNumber_of hi
    have H3 := Lib.hid h3
    clear h3 hi
    go_wp2
    go_ret2
    exact ⟨_, _, rfl, H3.out, HB.out⟩

end Go.Proofs.Ytfhmeemkmdkhoaa
