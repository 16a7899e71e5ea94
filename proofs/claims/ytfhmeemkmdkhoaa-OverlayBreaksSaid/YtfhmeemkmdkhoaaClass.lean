/- Walk of prop.Class. -/
import Derived.Test.YtfhmeemkmdkhoaaProg
import Derived.Test.YtfhmeemkmdkhoaaRows0
import Derived.Test.YtfhmeemkmdkhoaaClass1
import Derived.Test.YtfhmeemkmdkhoaaCls
import Derived.Shelf.Abstract
namespace Go.Proofs.Ytfhmeemkmdkhoaa
open Go.RowKit
open Go.Lib

theorem tabCells_get : ∀ (l : List (Int × Int × Int)) (k : Nat) (h : k < l.length), (tabCells l)[k * 3]? = some (.int .i32 l[k].1) ∧ (tabCells l)[k * 3 + 1]? = some (.int .i32 l[k].2.1) ∧ (tabCells l)[k * 3 + 2]? = some (.int .i64 l[k].2.2)
  | (a, b, c) :: r, 0, _ => ⟨rfl, rfl, rfl⟩
  | (a, b, c) :: r, k + 1, h => by
    have := tabCells_get r k (by simpa using h)
    simpa [tabCells, Nat.add_mul] using this

theorem tab_len : tab.length = 139 := by kernel_rfl
noncomputable def zeroRows : Array Value := ((Try.prog.info? 52).bind (·.zero)).get!.cells
theorem zeroRows_run (w : World) : (Instr.alloc 52 true (.tuple #[])).run Try.prog w = .ok (.pointer (some ⟨w.heap.size, 0, none⟩)) (w.alloc (.cells zeroRows 52)) := by kernel_rfl
theorem rows_info : (Try.prog.info? 52).map (·.size) = some (tabCells tab).toArray.size := by kernel_rfl
theorem zeroRows_size : zeroRows.size = (tabCells tab).toArray.size := by kernel_rfl
theorem rows_one : (tabCells tab).toArray.all (·.oneCell') = true := by kernel_rfl

/-- What prop.Class's closure and its last lines ask of memory. -/
def ClsInv (w0 : World) (bl : Nat) (r : Int) (W : World) : Prop :=
  W.heap[bl]? = some (.cells (tabCells tab).toArray 52 (0, 0)) ∧ W.cell? ⟨w0.heap.size, 0, none⟩ = some (.int .i32 r) ∧ Below w0.heap.size w0 W

theorem ClsInv.drewN {w0 W : World} {bl : Nat} {r : Int} (h : ClsInv w0 bl r W) (n : Nat) : ClsInv w0 bl r (W.drewN n) :=
  ⟨h.1, h.2.1, h.2.2.trans (below_drewN _ _ _)⟩

set_option maxHeartbeats 1000000 in
theorem class_any (r : Int) (w : World) : Calls Try.prog 13 #[.int .i32 r] w fun e w' => e = .returned (.int .i64 (cls r)) ∧ Below w.heap.size w w' := by
  by_cases hh : hanB r = true
  · have hb : 44032 ≤ r ∧ r ≤ 55203 := by simpa [hanB] using hh
    obtain ⟨hb1, hb2⟩ := hb
    have HH := Lib.hid hh
    clear hh
    by_cases hm : (r - 44032) % 28 = 0
    · have HM := Lib.hid hm
      have hm1 : ((r - 44032) % 28 == 0) = true := by simpa using hm
      clear hm
      go_enter Try.func13, Try.ntmps13
      go_wp2_with (go_at_call 25; refine (hangul_any _ _).mono ?_; rw [HH.out]; rintro e w' ⟨rfl, rfl⟩)
      go_ret
      exact ⟨ret_int (by rw [cls, if_pos HH.out, if_pos HM.out]), (Below.refl _ _).alloc (Nat.le_refl _) _⟩
    · have HM := Lib.hid hm
      have hm1 : ((r - 44032) % 28 == 0) = false := by simpa using hm
      clear hm
      go_enter Try.func13, Try.ntmps13
      go_wp2_with (go_at_call 25; refine (hangul_any _ _).mono ?_; rw [HH.out]; rintro e w' ⟨rfl, rfl⟩)
      go_ret
      exact ⟨ret_int (by rw [cls, if_pos HH.out, if_neg HM.out]), (Below.refl _ _).alloc (Nat.le_refl _) _⟩
  · have hh : hanB r = false := by simpa using hh
    have HH := Lib.hid hh
    clear hh
    go_enter Try.func13, Try.ntmps13
    go_wp2_with (first
      | (go_at_call 25; refine (hangul_any _ _).mono ?_; rw [HH.out]; rintro e w' ⟨rfl, rfl⟩)
      | (go_at_call 26; refine (rows_any _).mono ?_; rintro e w1 ⟨rfl, hb⟩)
      | (with_reducible refine wpList_allocZ 3 52 _ zeroRows 52 zeroRows_run ?_)
      | ((with_reducible refine wpList_store_row (o := ⟨none, .store 52 (.tmp 3) (.tmp 11), _, _, _, _⟩) rfl 52 _ _ rfl w1.heap.size (tabCells tab).toArray rfl rfl 52 zeroRows (heap_alloc_new _ _) rows_info zeroRows_size rows_one ?_)))
    have hinv : ClsInv w w1.heap.size r ((w1.alloc (.cells zeroRows 52)).setRow w1.heap.size (tabCells tab).toArray) := by
      have hs := hb.size
      simp only [World.size_alloc] at hs
      refine ⟨setRow_heap _ _ _ _ _ _ (heap_alloc_new _ _), ?_, ?_⟩
      · rw [cell_setRow_other _ _ _ _ (by simp; omega), World.cell?_alloc_old _ _ _ (by simp; omega), hb.cell (by simp)]
        simp
      · refine (((Below.refl w.heap.size w).alloc (Nat.le_refl _) _).trans (hb.mono (by simp))).trans ?_
        exact ⟨rfl, rfl, rfl, by simp, fun k hk => by rw [setRow_other _ _ _ _ (by omega)]; exact Below.heap_alloc _ _ _ (by omega)⟩
    clear hb
    generalize (w1.alloc (.cells zeroRows 52)).setRow w1.heap.size (tabCells tab).toArray = W1 at *
    generalize w1.heap.size = bl at *
    have HI := Lib.hid hinv
    clear hinv
    refine (search_any 28 #[.pointer (some ⟨bl, 0, none⟩), .pointer (some ⟨w.heap.size, 0, none⟩)] 139 (fun i => decide (r ≤ hiAt tab i)) (ClsInv w bl r) _ (fun _ _ => by kernel_rfl) (by omega) ?_ HI.out).mono ?_
    · intro W i hW hi
      have hi' : i < tab.length := by rw [tab_len]; exact hi
      refine (closure_any bl w.heap.size i (hiAt tab i) r W (by omega) ?_ hW.2.1).mono ?_
      · rw [cell_of_row _ _ _ _ _ _ hW.1]
        have := (tabCells_get tab i hi').2.1
        simpa [hiAt, List.getD_eq_getElem?_getD, List.getElem?_eq_getElem hi'] using this
      · rintro e w' ⟨rfl, n, rfl⟩
        exact ⟨rfl, hW.drewN n⟩
    · rintro e w2 ⟨k, rfl, hF, hI2⟩
      have hfound := found_tab r tab tab_sorted k (by rw [tab_len]; exact hF)
      have hk := hF.le
      have HB := Lib.hid hI2.2.2
      have HC := Lib.hid hI2.1
      have hr := hI2.2.1
      clear hI2 hF HI
      by_cases h139 : k = 139
      · have HR := Lib.hid (hfound.1 (by rw [tab_len]; exact h139))
        subst h139
        clear hfound
        go_wp2
        go_quiet (fail)
        go_wp2
        go_ret
        exact ⟨ret_int (by rw [cls, HH.out, HR.out]; rfl), HB.out.trans (below_drewN _ _ _)⟩
      · have hk' : k < tab.length := by rw [tab_len]; omega
        have HR := Lib.hid (hfound.2 hk')
        clear hfound
        have hc := tabCells_get tab k hk'
        have hc0 : w2.cell? ⟨bl, k * 3, none⟩ = some (.int .i32 tab[k].1) := by rw [cell_of_row _ _ _ _ _ _ HC.out]; simpa using hc.1
        have hc2 : w2.cell? ⟨bl, k * 3 + 2, none⟩ = some (.int .i64 tab[k].2.2) := by rw [cell_of_row _ _ _ _ _ _ HC.out]; simpa using hc.2.2
        clear hc
        generalize tab[k].1 = lo at *
        generalize tab[k].2.2 = c at *
        have hne : ((k : Int) == 139) = false := by simp; omega
        have hlt : (k : Int) < 139 := by omega
        by_cases hlo : lo ≤ r
        · have hg : decide (r < lo) = false := by simp; omega
          go_wp2
          go_quiet (fail)
          go_wp2
          go_ret
          exact ⟨ret_int (by rw [cls, HH.out, HR.out, if_pos hlo]; rfl), HB.out.trans (below_drewN _ _ _)⟩
        · have hg : decide (r < lo) = true := by simp; omega
          go_wp2
          go_quiet (fail)
          go_wp2
          go_ret
          exact ⟨ret_int (by rw [cls, HH.out, HR.out, if_neg (by omega : ¬ lo ≤ r)]; rfl), HB.out.trans (below_drewN _ _ _)⟩
end Go.Proofs.Ytfhmeemkmdkhoaa
