/- The walk of the law OverlayHolds. -/
import Derived.Test.YtfhmeemkmdkhoaaProg
import Derived.Test.YtfhmeemkmdkhoaaOverlayTo
import Derived.Test.YtfhmeemkmdkhoaaMem
import Derived.Deep.RegionWith
import Derived.Deep.DeepCutAuto
import Derived.BigRegion
import Derived.Test.YtfhmeemkmdkhoaaInv
import Derived.Laws.CopyOwn
import Derived.Laws.Tables
import Derived.Test.YtfhmeemkmdkhoaaWords
namespace Go.Proofs.Ytfhmeemkmdkhoaa.overlayHolds
open Go.RowKit
open Go.Lib
set_option linter.unusedVariables false

theorem keep_at {l : Bool} {x : Value} {base : Nat} {w w1 : World} {c : Nat → Obj} {c1 : Nat → Obj} (hcc : c = c1) (h : l = true → ∃ p, x = .pointer (some ⟨p, 0, none⟩) ∧ base ≤ p ∧ w.heap[p]? = some (c p)) (hk : ∀ k, k < w.heap.size → w1.heap[k]? = w.heap[k]?) :
    l = true → ∃ p, x = .pointer (some ⟨p, 0, none⟩) ∧ base ≤ p ∧ w1.heap[p]? = some (c1 p) := by
  subst hcc
  intro hl
  obtain ⟨p, h1, h2, h3⟩ := h hl
  exact ⟨p, h1, h2, (hk p (Array.getElem?_eq_some_iff.1 h3).1).trans h3⟩

def inv1 (m : Int) (a0 : Int) (a1 : Int) (a2 : Int) (a3 : Bool) (a4 : Bool) (a5 : Bool) (a6 : Bool) (b0 : Int) (b1 : Int) (b2 : Int) (b3 : Bool) (b4 : Bool) (b5 : Bool) (b6 : Bool) (rule : Bool) (w : World) (L : Array Bool) (a : Act) (w' : World) : Prop :=
  ∃ (l0 l1 l2 l3 l4 l5 l6 l7 : Bool) (x9 x10 x15 x16 x17 x18 : Value), L = #[l0, l1, l2, l3, l4, l5, l6, l7] ∧ a = { tmps := #[.int .i64 m, .agg #[.int .i32 a0, .int .i64 a1, .int .i64 a2, .bool a3, .bool a4, .bool a5, .bool a6], .agg #[.int .i32 b0, .int .i64 b1, .int .i64 b2, .bool b3, .bool b4, .bool b5, .bool b6], .bool rule, undef, .pointer (some ⟨w.heap.size, 0, none⟩), .pointer (some ⟨w.heap.size + 1, 0, none⟩), undef, .bool false, x9, x10, undef, undef, undef, undef, x15, x16, x17, x18, undef, undef, undef, undef, undef, undef, undef, undef, undef, undef, undef, undef, undef, undef, undef, undef, undef, undef, undef, undef, undef, undef, undef, undef, undef, undef, undef, undef, undef, undef, undef, undef, undef, undef, undef, undef, undef, undef, undef, undef, undef, undef, undef], defers := [] } ∧
    Hid (l0 = true → x15 = .agg #[.int .i32 a0, .int .i64 a1, .int .i64 a2, .bool a3, .bool a4, .bool a5, .bool a6]) ∧ Hid (l1 = true → x16 = .agg #[.int .i32 a0, .int .i64 a1, .int .i64 a2, .bool a3, .bool a4, .bool a5, .bool a6]) ∧ Hid (l2 = true → x17 = .agg #[.int .i32 b0, .int .i64 b1, .int .i64 b2, .bool b3, .bool b4, .bool b5, .bool b6]) ∧ Hid (l3 = true → x18 = .agg #[.int .i32 b0, .int .i64 b1, .int .i64 b2, .bool b3, .bool b4, .bool b5, .bool b6]) ∧
    Hid (l4 = true → ∃ p, x9 = .pointer (some ⟨p, 0, none⟩) ∧ w.heap.size + 2 ≤ p ∧ w'.heap[p]? = some (.cells (if l6 then #[.int .i32 a0, .int .i64 a1, .int .i64 a2, .bool a3, .bool a4, .bool a5, .bool a6] else #[.int .i32 0, .int .i64 0, .int .i64 0, .bool false, .bool false, .bool false, .bool false]) 26 (0, 0))) ∧
    Hid (l5 = true → ∃ p, x10 = .pointer (some ⟨p, 0, none⟩) ∧ w.heap.size + 2 ≤ p ∧ w'.heap[p]? = some (.cells (if l7 then #[.int .i32 b0, .int .i64 b1, .int .i64 b2, .bool b3, .bool b4, .bool b5, .bool b6] else #[.int .i32 0, .int .i64 0, .int .i64 0, .bool false, .bool false, .bool false, .bool false]) 26 (0, 0))) ∧
    Hid (l4 = true → l5 = true → x9 ≠ x10) ∧ Hid (l6 = true → l4 = true) ∧ Hid (l7 = true → l5 = true) ∧
    Hid (Below (w.heap.size + 2) ((w.alloc (.cells #[.int .i32 a0, .int .i64 a1, .int .i64 a2, .bool a3, .bool a4, .bool a5, .bool a6] 23)).alloc (.cells #[.int .i32 b0, .int .i64 b1, .int .i64 b2, .bool b3, .bool b4, .bool b5, .bool b6] 23)) w') ∧ Hid (w.heap.size + 2 ≤ w'.heap.size)

def inv4 (m : Int) (a0 : Int) (a1 : Int) (a2 : Int) (a3 : Bool) (a4 : Bool) (a5 : Bool) (a6 : Bool) (b0 : Int) (b1 : Int) (b2 : Int) (b3 : Bool) (b4 : Bool) (b5 : Bool) (b6 : Bool) (rule : Bool) (w : World) (p q : Nat) (k : Int) (x15 x16 x17 x18 : Value) (w4 : World) (L : Array Bool) (a : Act) (w' : World) : Prop :=
    ∃ (l0 l1 l2 l3 l4 l5 : Bool) (y12 y13 y26 y27 : Value), L = #[l0, l1, l2, l3, l4, l5] ∧ a = { tmps := #[.int .i64 m, .agg #[.int .i32 a0, .int .i64 a1, .int .i64 a2, .bool a3, .bool a4, .bool a5, .bool a6], .agg #[.int .i32 b0, .int .i64 b1, .int .i64 b2, .bool b3, .bool b4, .bool b5, .bool b6], .bool rule, undef, .pointer (some ⟨w.heap.size, 0, none⟩), .pointer (some ⟨w.heap.size + 1, 0, none⟩), undef, .bool false, .pointer (some ⟨p, 0, none⟩), .pointer (some ⟨q, 0, none⟩), .int .i64 k, y12, y13, undef, x15, x16, x17, x18, .pointer (some ⟨p, 5, none⟩), .pointer (some ⟨q, 5, none⟩), .int .i64 m, .agg #[.int .i32 a0, .int .i64 a1, .int .i64 a2, .bool a3, .bool a4, .bool true, .bool a6], .agg #[.int .i32 b0, .int .i64 b1, .int .i64 b2, .bool b3, .bool b4, .bool true, .bool b6], .bool rule, .int .i64 k, y26, y27, undef, undef, undef, undef, undef, undef, undef, undef, undef, undef, undef, undef, undef, undef, undef, undef, undef, undef, undef, undef, undef, undef, undef, undef, undef, undef, undef, undef, undef, undef, undef, undef, undef, undef], defers := [] } ∧
    Hid (l0 = true → y26 = .agg #[.int .i32 a0, .int .i64 a1, .int .i64 a2, .bool a3, .bool a4, .bool true, .bool a6]) ∧ Hid (l1 = true → y27 = .agg #[.int .i32 b0, .int .i64 b1, .int .i64 b2, .bool b3, .bool b4, .bool true, .bool b6]) ∧
    Hid (l2 = true → ∃ p, y12 = .pointer (some ⟨p, 0, none⟩) ∧ w4.heap.size ≤ p ∧ w'.heap[p]? = some (.cells (if l4 then #[.int .i32 a0, .int .i64 a1, .int .i64 a2, .bool a3, .bool a4, .bool true, .bool a6] else #[.int .i32 0, .int .i64 0, .int .i64 0, .bool false, .bool false, .bool false, .bool false]) 26 (0, 0))) ∧
    Hid (l3 = true → ∃ p, y13 = .pointer (some ⟨p, 0, none⟩) ∧ w4.heap.size ≤ p ∧ w'.heap[p]? = some (.cells (if l5 then #[.int .i32 b0, .int .i64 b1, .int .i64 b2, .bool b3, .bool b4, .bool true, .bool b6] else #[.int .i32 0, .int .i64 0, .int .i64 0, .bool false, .bool false, .bool false, .bool false]) 26 (0, 0))) ∧
    Hid (l2 = true → l3 = true → y12 ≠ y13) ∧ Hid (l4 = true → l2 = true) ∧ Hid (l5 = true → l3 = true) ∧
    Hid (Below w4.heap.size w4 w') ∧ Hid (w4.heap.size ≤ w'.heap.size)

set_option maxRecDepth 100000 in
set_option maxHeartbeats 8000000 in
theorem walk (m : Int) (a0 : Int) (a1 : Int) (a2 : Int) (a3 : Bool) (a4 : Bool) (a5 : Bool) (a6 : Bool) (b0 : Int) (b1 : Int) (b2 : Int) (b3 : Bool) (b4 : Bool) (b5 : Bool) (b6 : Bool) (rule : Bool) (w : World) (w0 : (Lit.int .i64 m).wf = true) (w1_0 : (Lit.int .i32 a0).wf = true) (w1_1 : (Lit.int .i64 a1).wf = true) (w1_2 : (Lit.int .i64 a2).wf = true) (w2_0 : (Lit.int .i32 b0).wf = true) (w2_1 : (Lit.int .i64 b1).wf = true) (w2_2 : (Lit.int .i64 b2).wf = true) :
    Calls Try.prog 5 #[.int .i64 m, .agg #[.int .i32 a0, .int .i64 a1, .int .i64 a2, .bool a3, .bool a4, .bool a5, .bool a6], .agg #[.int .i32 b0, .int .i64 b1, .int .i64 b2, .bool b3, .bool b4, .bool b5, .bool b6], .bool rule] w fun e w' => e = .returned (.bool true) ∧ Below w.heap.size w w' := by
  clear w0 w1_0 w1_1 w1_2 w2_0 w2_1 w2_2
  go_enter Try.func5, Try.ntmps5
  go_upto_region 1 with fail
  refine wp_region_inv (inv1 m a0 a1 a2 a3 a4 a5 a6 b0 b1 b2 b3 b4 b5 b6 rule w) rfl (by kernel_rfl) ?h0 ?hstep ?hend
  case h0 =>
    exact ⟨false, false, false, false, false, false, false, false, undef, undef, undef, undef, undef, undef, rfl, rfl, (fun h => by cases h), (fun h => by cases h), (fun h => by cases h), (fun h => by cases h), (fun h => by cases h), (fun h => by cases h), (fun h => by cases h), (fun h => by cases h), (fun h => by cases h), (Below.refl _ _).drew, by show _ ≤ _; simp⟩
  case hstep =>
    rintro L a w' i o ⟨l0, l1, l2, l3, l4, l5, l6, l7, x9, x10, x15, x16, x17, x18, rfl, rfl, H15, H16, H17, H18, H9, H10, HNE, HD6, HD7, HB, HSZ⟩ ho hl haf
    rcases i with _ | _ | _ | _ | _ | _ | _ | _ | i
    · obtain rfl : _ = o := Option.some.inj ho
      obtain ⟨hc, hf⟩ := bcell HB.out
      go_wp2_with fail
      exact ⟨true, _, _, _, _, _, _, _, x9, x10, _, x16, x17, x18, rfl, rfl, (fun _ => rfl), H16, H17, H18, H9, H10, HNE, HD6, HD7, HB, HSZ⟩
    · obtain rfl : _ = o := Option.some.inj ho
      obtain ⟨hc, hf⟩ := bcell HB.out
      have d0 : l0 = true := haf ⟨0, .data⟩ (by simp) rfl
      obtain rfl := H15.out d0
      go_wp2_with fail
      refine (to_any _ _ _ _ _ _ _ _).mono ?_
      rintro e w1 ⟨rfl, hb1⟩
      have hk := fun k h => hb1.block k h
      go_wp2_with fail
      exact ⟨_, true, _, _, _, _, _, _, x9, x10, _, _, x17, x18, rfl, rfl, (fun _ => rfl), (fun _ => rfl), H17, H18, (keep_at (c := fun _ => _) (c1 := fun _ => _) rfl H9.out hk), (keep_at (c := fun _ => _) (c1 := fun _ => _) rfl H10.out hk), HNE, HD6, HD7, (HB.out.trans (hb1.mono HSZ.out)), (Nat.le_trans HSZ.out hb1.size)⟩
    · obtain rfl : _ = o := Option.some.inj ho
      obtain ⟨hc, hf⟩ := bcell HB.out
      go_wp2_with fail
      exact ⟨_, _, true, _, _, _, _, _, x9, x10, x15, x16, _, x18, rfl, rfl, H15, H16, (fun _ => rfl), H18, H9, H10, HNE, HD6, HD7, HB, HSZ⟩
    · obtain rfl : _ = o := Option.some.inj ho
      obtain ⟨hc, hf⟩ := bcell HB.out
      have d0 : l2 = true := haf ⟨2, .data⟩ (by simp) rfl
      obtain rfl := H17.out d0
      go_wp2_with fail
      refine (to_any _ _ _ _ _ _ _ _).mono ?_
      rintro e w1 ⟨rfl, hb1⟩
      have hk := fun k h => hb1.block k h
      go_wp2_with fail
      exact ⟨_, _, _, true, _, _, _, _, x9, x10, x15, x16, _, _, rfl, rfl, H15, H16, (fun _ => rfl), (fun _ => rfl), (keep_at (c := fun _ => _) (c1 := fun _ => _) rfl H9.out hk), (keep_at (c := fun _ => _) (c1 := fun _ => _) rfl H10.out hk), HNE, HD6, HD7, (HB.out.trans (hb1.mono HSZ.out)), (Nat.le_trans HSZ.out hb1.size)⟩
    · obtain rfl : _ = o := Option.some.inj ho
      obtain ⟨hc, hf⟩ := bcell HB.out
      have hl6 : l6 = false := by cases l6 with | false => rfl | true => exact absurd (HD6.out rfl) (by rw [show l4 = false from hl]; decide)
      subst hl6
      have hk := fun k h => Below.heap_alloc w' (.cells #[.int .i32 0, .int .i64 0, .int .i64 0, .bool false, .bool false, .bool false, .bool false] 26) k h
      have hne : true = true → l5 = true → Value.pointer (some ⟨w'.heap.size, 0, none⟩) ≠ x10 := by
        intro _ h5 he
        obtain ⟨q, rfl, _, hq⟩ := H10.out h5
        have := (Array.getElem?_eq_some_iff.1 hq).1
        cases he
        omega
      go_wp2_with fail
      exact ⟨_, _, _, _, true, _, _, _, _, x10, x15, x16, x17, x18, rfl, rfl, H15, H16, H17, H18, (fun _ => ⟨_, rfl, HSZ.out, heap_alloc_new _ _⟩), (keep_at (c := fun _ => _) (c1 := fun _ => _) rfl H10.out hk), (fun _ h => hne trivial h), (fun _ => rfl), HD7, (HB.out.alloc HSZ.out _), (by show _ ≤ _; have := HSZ.out; simp; omega)⟩
    · obtain rfl : _ = o := Option.some.inj ho
      obtain ⟨hc, hf⟩ := bcell HB.out
      have hl7 : l7 = false := by cases l7 with | false => rfl | true => exact absurd (HD7.out rfl) (by rw [show l5 = false from hl]; decide)
      subst hl7
      have hk := fun k h => Below.heap_alloc w' (.cells #[.int .i32 0, .int .i64 0, .int .i64 0, .bool false, .bool false, .bool false, .bool false] 26) k h
      have hne : l4 = true → true = true → x9 ≠ Value.pointer (some ⟨w'.heap.size, 0, none⟩) := by
        intro h5 _ he
        obtain ⟨q, rfl, _, hq⟩ := H9.out h5
        have := (Array.getElem?_eq_some_iff.1 hq).1
        cases he
        omega
      go_wp2_with fail
      exact ⟨_, _, _, _, _, true, _, _, x9, _, x15, x16, x17, x18, rfl, rfl, H15, H16, H17, H18, (keep_at (c := fun _ => _) (c1 := fun _ => _) rfl H9.out hk), (fun _ => ⟨_, rfl, HSZ.out, heap_alloc_new _ _⟩), (fun h _ => hne h trivial), HD6, (fun _ => rfl), (HB.out.alloc HSZ.out _), (by show _ ≤ _; have := HSZ.out; simp; omega)⟩
    · obtain rfl : _ = o := Option.some.inj ho
      obtain ⟨hc, hf⟩ := bcell HB.out
      have d0 : l4 = true := haf ⟨4, .data⟩ (by simp) rfl
      have d1 : l1 = true := haf ⟨1, .data⟩ (by simp) rfl
      have hl6 : l6 = false := hl
      obtain ⟨p, rfl, hp, hheap⟩ := H9.out d0
      obtain rfl := H16.out d1
      subst hl6
      simp only [Bool.false_eq_true, if_false] at hheap
      have hne := HNE.out
      refine wpList_store_row rfl 26 (.tmp 9) (.tmp 16) rfl p #[.int .i32 a0, .int .i64 a1, .int .i64 a2, .bool a3, .bool a4, .bool a5, .bool a6] rfl rfl _ #[.int .i32 0, .int .i64 0, .int .i64 0, .bool false, .bool false, .bool false, .bool false] hheap (by kernel_rfl) rfl (by simp [Value.oneCell']) ?_
      have hz : (w'.setRow p #[.int .i32 a0, .int .i64 a1, .int .i64 a2, .bool a3, .bool a4, .bool a5, .bool a6]).heap.size = w'.heap.size := by simp [World.setRow]
      have hat : (w'.setRow p #[.int .i32 a0, .int .i64 a1, .int .i64 a2, .bool a3, .bool a4, .bool a5, .bool a6]).heap[p]? = some (.cells #[.int .i32 a0, .int .i64 a1, .int .i64 a2, .bool a3, .bool a4, .bool a5, .bool a6] 26 (0, 0)) := by simp [World.setRow, Array.getElem?_modify, hheap]
      have hoth : ∀ k, k ≠ p → (w'.setRow p #[.int .i32 a0, .int .i64 a1, .int .i64 a2, .bool a3, .bool a4, .bool a5, .bool a6]).heap[k]? = w'.heap[k]? := by
        intro k hkp
        simp [World.setRow, Array.getElem?_modify, Ne.symm hkp]
      have h10 : l5 = true → ∃ q, x10 = .pointer (some ⟨q, 0, none⟩) ∧ w.heap.size + 2 ≤ q ∧ (w'.setRow p #[.int .i32 a0, .int .i64 a1, .int .i64 a2, .bool a3, .bool a4, .bool a5, .bool a6]).heap[q]? = some (.cells (if l7 then #[.int .i32 b0, .int .i64 b1, .int .i64 b2, .bool b3, .bool b4, .bool b5, .bool b6] else #[.int .i32 0, .int .i64 0, .int .i64 0, .bool false, .bool false, .bool false, .bool false]) 26 (0, 0)) := by
        intro h5
        obtain ⟨q, h1, h2, h3⟩ := H10.out h5
        refine ⟨q, h1, h2, (hoth q ?_).trans h3⟩
        rintro rfl
        exact hne d0 h5 h1.symm
      exact ⟨_, _, _, _, _, _, true, _, _, x10, x15, _, x17, x18, rfl, rfl, H15, (fun _ => rfl), H17, H18, (fun _ => ⟨p, rfl, hp, hat⟩), h10, HNE, (fun _ => d0), HD7, (below_setRow HB.out hp _), (by show _ ≤ _; rw [hz]; exact HSZ.out)⟩
    · obtain rfl : _ = o := Option.some.inj ho
      obtain ⟨hc, hf⟩ := bcell HB.out
      have d0 : l5 = true := haf ⟨5, .data⟩ (by simp) rfl
      have d1 : l3 = true := haf ⟨3, .data⟩ (by simp) rfl
      have hl7 : l7 = false := hl
      obtain ⟨p, rfl, hp, hheap⟩ := H10.out d0
      obtain rfl := H18.out d1
      subst hl7
      simp only [Bool.false_eq_true, if_false] at hheap
      have hne := HNE.out
      refine wpList_store_row rfl 26 (.tmp 10) (.tmp 18) rfl p #[.int .i32 b0, .int .i64 b1, .int .i64 b2, .bool b3, .bool b4, .bool b5, .bool b6] rfl rfl _ #[.int .i32 0, .int .i64 0, .int .i64 0, .bool false, .bool false, .bool false, .bool false] hheap (by kernel_rfl) rfl (by simp [Value.oneCell']) ?_
      have hz : (w'.setRow p #[.int .i32 b0, .int .i64 b1, .int .i64 b2, .bool b3, .bool b4, .bool b5, .bool b6]).heap.size = w'.heap.size := by simp [World.setRow]
      have hat : (w'.setRow p #[.int .i32 b0, .int .i64 b1, .int .i64 b2, .bool b3, .bool b4, .bool b5, .bool b6]).heap[p]? = some (.cells #[.int .i32 b0, .int .i64 b1, .int .i64 b2, .bool b3, .bool b4, .bool b5, .bool b6] 26 (0, 0)) := by simp [World.setRow, Array.getElem?_modify, hheap]
      have hoth : ∀ k, k ≠ p → (w'.setRow p #[.int .i32 b0, .int .i64 b1, .int .i64 b2, .bool b3, .bool b4, .bool b5, .bool b6]).heap[k]? = w'.heap[k]? := by
        intro k hkp
        simp [World.setRow, Array.getElem?_modify, Ne.symm hkp]
      have h9 : l4 = true → ∃ q, x9 = .pointer (some ⟨q, 0, none⟩) ∧ w.heap.size + 2 ≤ q ∧ (w'.setRow p #[.int .i32 b0, .int .i64 b1, .int .i64 b2, .bool b3, .bool b4, .bool b5, .bool b6]).heap[q]? = some (.cells (if l6 then #[.int .i32 a0, .int .i64 a1, .int .i64 a2, .bool a3, .bool a4, .bool a5, .bool a6] else #[.int .i32 0, .int .i64 0, .int .i64 0, .bool false, .bool false, .bool false, .bool false]) 26 (0, 0)) := by
        intro h5
        obtain ⟨q, h1, h2, h3⟩ := H9.out h5
        refine ⟨q, h1, h2, (hoth q ?_).trans h3⟩
        rintro rfl
        exact hne h5 d0 h1
      exact ⟨_, _, _, _, _, _, _, true, x9, _, x15, x16, x17, _, rfl, rfl, H15, H16, H17, (fun _ => rfl), h9, (fun _ => ⟨p, rfl, hp, hat⟩), HNE, HD6, (fun _ => d0), (below_setRow HB.out hp _), (by show _ ≤ _; rw [hz]; exact HSZ.out)⟩
    · cases ho
  case hend =>
    rintro L a w' ⟨l0, l1, l2, l3, l4, l5, l6, l7, x9, x10, x15, x16, x17, x18, rfl, rfl, H15, H16, H17, H18, H9, H10, HNE, HD6, HD7, HB, HSZ⟩ hall
    have h4 : l4 = true := hall 4 (by simp)
    have h5 : l5 = true := hall 5 (by simp)
    have h6 : l6 = true := hall 6 (by simp)
    have h7 : l7 = true := hall 7 (by simp)
    subst h4 h5 h6 h7
    obtain ⟨p, rfl, hp, hhp⟩ := H9.out rfl
    obtain ⟨q, rfl, hq, hhq⟩ := H10.out rfl
    have hne : p ≠ q := fun e => HNE.out rfl rfl (by rw [e])
    have hne' : q ≠ p := Ne.symm hne
    simp only [if_true] at hhp hhq
    have cp := fun i => cell_of_row w' p i _ _ _ hhp
    have cq := fun i => cell_of_row w' q i _ _ _ hhq
    have fp : ∀ i, w'.frozen? ⟨p, i, none⟩ = false := fun i => by simp [World.frozen?, hhp]
    have fq : ∀ i, w'.frozen? ⟨q, i, none⟩ = false := fun i => by simp [World.frozen?, hhq]
    have HP := hid hhp
    have HQ := hid hhq
    have HAP := hid hp
    have HAQ := hid hq
    clear hall HD6 HD7 HNE H9 H10 H15 H16 H17 H18 hhp hhq hp hq
    go_wp2_with fail
    have hk : btw m a0 true a6 b3 b4 true b6 rule = (if b3 = true then 2 else if m = 3 then -1 else if rule = true then 1 else -1) := by simp [btw, heldB]; by_cases hm : m = 3 <;> simp [hm]
    have hcall := fun W => between_any m a0 a1 a2 a3 a4 true a6 b0 b1 b2 b3 b4 true b6 rule W
    have HK := hid hk
    clear hk
    generalize btw m a0 true a6 b3 b4 true b6 rule = k at *
    have hp3 : Blk ((w'.setCell ⟨p, 5, none⟩ (.bool true)).setCell ⟨q, 5, none⟩ (.bool true)) p 26 #[.int .i32 a0, .int .i64 a1, .int .i64 a2, .bool a3, .bool a4, .bool true, .bool a6] := ((show Blk w' p 26 #[.int .i32 a0, .int .i64 a1, .int .i64 a2, .bool a3, .bool a4, .bool a5, .bool a6] from HP.out).set_ 5 (.bool true)).far hne _
    have hq3 : Blk ((w'.setCell ⟨p, 5, none⟩ (.bool true)).setCell ⟨q, 5, none⟩ (.bool true)) q 26 #[.int .i32 b0, .int .i64 b1, .int .i64 b2, .bool b3, .bool b4, .bool true, .bool b6] := ((show Blk w' q 26 #[.int .i32 b0, .int .i64 b1, .int .i64 b2, .bool b3, .bool b4, .bool b5, .bool b6] from HQ.out).far hne' _).set_ 5 (.bool true)
    have hb3 : Below (w.heap.size + 2) ((w.alloc (.cells #[.int .i32 a0, .int .i64 a1, .int .i64 a2, .bool a3, .bool a4, .bool a5, .bool a6] 23)).alloc (.cells #[.int .i32 b0, .int .i64 b1, .int .i64 b2, .bool b3, .bool b4, .bool b5, .bool b6] 23)) ((w'.setCell ⟨p, 5, none⟩ (.bool true)).setCell ⟨q, 5, none⟩ (.bool true)) := (HB.out.setCell HAP.out _).setCell HAQ.out _
    have z3 : w.heap.size + 2 ≤ ((w'.setCell ⟨p, 5, none⟩ (.bool true)).setCell ⟨q, 5, none⟩ (.bool true)).heap.size := by have := HSZ.out; simpa using this
    generalize ((w'.setCell ⟨p, 5, none⟩ (.bool true)).setCell ⟨q, 5, none⟩ (.bool true)) = w3 at *
    clear cp cq fp fq HP HQ HAP HAQ HB HSZ
    refine (hcall _).mono ?_
    rintro e w4 ⟨rfl, hb4⟩
    have hb := hb3.trans (hb4.mono z3)
    have HB3 := hid hb
    have z4 := hb4.size
    have hp4 := hp3.below hb4 hp3.lt
    have hq4 := hq3.below hb4 hq3.lt
    have cp4 := hp4.cell
    have cq4 := hq4.cell
    have HP4 := hid hp4.lt
    have HQ4 := hid hq4.lt
    have CP4 := hid cp4
    have CQ4 := hid cq4
    clear hcall hb4 hb hp3 hq3 hp4 hq4 cp4 cq4 hb3
    go_upto_region 4 with fail
    refine wp_region_inv (inv4 m a0 a1 a2 a3 a4 a5 a6 b0 b1 b2 b3 b4 b5 b6 rule w p q k x15 x16 x17 x18 w4) rfl (by kernel_rfl) ?h0 ?hstep ?hend
    case h0 =>
      exact ⟨false, false, false, false, false, false, undef, undef, undef, undef, rfl, rfl, (fun h => by cases h), (fun h => by cases h), (fun h => by cases h), (fun h => by cases h), (fun h => by cases h), (fun h => by cases h), (fun h => by cases h), (Below.refl _ _).drew, Nat.le_refl _⟩
    case hstep =>
      rintro L a w' i o ⟨l0, l1, l2, l3, l4, l5, y12, y13, y26, y27, rfl, rfl, H26, H27, H12, H13, HNE, HD4, HD5, HB, HSZ⟩ ho hl haf
      rcases i with _ | _ | _ | _ | _ | _ | i
      · obtain rfl : _ = o := Option.some.inj ho
        have hsz := HSZ.out
        have cp := fun i => (HB.out.cell (p := ⟨p, i, none⟩) HP4.out).trans (CP4.out i)
        have cq := fun i => (HB.out.cell (p := ⟨q, i, none⟩) HQ4.out).trans (CQ4.out i)
        go_wp2_with fail
        exact ⟨true, _, _, _, _, _, y12, y13, _, y27, rfl, rfl, (fun _ => rfl), H27, H12, H13, HNE, HD4, HD5, HB, HSZ⟩
      · obtain rfl : _ = o := Option.some.inj ho
        have hsz := HSZ.out
        have cp := fun i => (HB.out.cell (p := ⟨p, i, none⟩) HP4.out).trans (CP4.out i)
        have cq := fun i => (HB.out.cell (p := ⟨q, i, none⟩) HQ4.out).trans (CQ4.out i)
        go_wp2_with fail
        exact ⟨_, true, _, _, _, _, y12, y13, y26, _, rfl, rfl, H26, (fun _ => rfl), H12, H13, HNE, HD4, HD5, HB, HSZ⟩
      · obtain rfl : _ = o := Option.some.inj ho
        have hsz := HSZ.out
        have cp := fun i => (HB.out.cell (p := ⟨p, i, none⟩) HP4.out).trans (CP4.out i)
        have cq := fun i => (HB.out.cell (p := ⟨q, i, none⟩) HQ4.out).trans (CQ4.out i)
        have hl6 : l4 = false := by cases l4 with | false => rfl | true => exact absurd (HD4.out rfl) (by rw [show l2 = false from hl]; decide)
        subst hl6
        have hk := fun k h => Below.heap_alloc w' (.cells #[.int .i32 0, .int .i64 0, .int .i64 0, .bool false, .bool false, .bool false, .bool false] 26) k h
        have hne : true = true → l3 = true → Value.pointer (some ⟨w'.heap.size, 0, none⟩) ≠ y13 := by
          intro _ h5 he
          obtain ⟨q, rfl, _, hq⟩ := H13.out h5
          have := (Array.getElem?_eq_some_iff.1 hq).1
          cases he
          omega
        go_wp2_with fail
        exact ⟨_, _, true, _, _, _, _, y13, y26, y27, rfl, rfl, H26, H27, (fun _ => ⟨_, rfl, HSZ.out, heap_alloc_new _ _⟩), (keep_at (c := fun _ => _) (c1 := fun _ => _) rfl H13.out hk), (fun _ h => hne trivial h), (fun _ => rfl), HD5, (HB.out.alloc HSZ.out _), (by show _ ≤ _; have := HSZ.out; simp; omega)⟩
      · obtain rfl : _ = o := Option.some.inj ho
        have hsz := HSZ.out
        have cp := fun i => (HB.out.cell (p := ⟨p, i, none⟩) HP4.out).trans (CP4.out i)
        have cq := fun i => (HB.out.cell (p := ⟨q, i, none⟩) HQ4.out).trans (CQ4.out i)
        have hl6 : l5 = false := by cases l5 with | false => rfl | true => exact absurd (HD5.out rfl) (by rw [show l3 = false from hl]; decide)
        subst hl6
        have hk := fun k h => Below.heap_alloc w' (.cells #[.int .i32 0, .int .i64 0, .int .i64 0, .bool false, .bool false, .bool false, .bool false] 26) k h
        have hne : l2 = true → true = true → y12 ≠ Value.pointer (some ⟨w'.heap.size, 0, none⟩) := by
          intro h5 _ he
          obtain ⟨q, rfl, _, hq⟩ := H12.out h5
          have := (Array.getElem?_eq_some_iff.1 hq).1
          cases he
          omega
        go_wp2_with fail
        exact ⟨_, _, _, true, _, _, y12, _, y26, y27, rfl, rfl, H26, H27, (keep_at (c := fun _ => _) (c1 := fun _ => _) rfl H12.out hk), (fun _ => ⟨_, rfl, HSZ.out, heap_alloc_new _ _⟩), (fun h _ => hne h trivial), HD4, (fun _ => rfl), (HB.out.alloc HSZ.out _), (by show _ ≤ _; have := HSZ.out; simp; omega)⟩
      · obtain rfl : _ = o := Option.some.inj ho
        have hsz := HSZ.out
        have cp := fun i => (HB.out.cell (p := ⟨p, i, none⟩) HP4.out).trans (CP4.out i)
        have cq := fun i => (HB.out.cell (p := ⟨q, i, none⟩) HQ4.out).trans (CQ4.out i)
        have d0 : l2 = true := haf ⟨2, .data⟩ (by simp) rfl
        have d1 : l0 = true := haf ⟨0, .data⟩ (by simp) rfl
        have hl4 : l4 = false := hl
        obtain ⟨u, rfl, hu, hheap⟩ := H12.out d0
        obtain rfl := H26.out d1
        subst hl4
        simp only [Bool.false_eq_true, if_false] at hheap
        have hne := HNE.out
        refine wpList_store_row rfl 26 (.tmp 12) (.tmp 26) rfl u #[.int .i32 a0, .int .i64 a1, .int .i64 a2, .bool a3, .bool a4, .bool true, .bool a6] rfl rfl _ #[.int .i32 0, .int .i64 0, .int .i64 0, .bool false, .bool false, .bool false, .bool false] hheap (by kernel_rfl) rfl (by simp [Value.oneCell']) ?_
        have hz : (w'.setRow u #[.int .i32 a0, .int .i64 a1, .int .i64 a2, .bool a3, .bool a4, .bool true, .bool a6]).heap.size = w'.heap.size := by simp [World.setRow]
        have hat := setRow_heap w' u _ #[.int .i32 a0, .int .i64 a1, .int .i64 a2, .bool a3, .bool a4, .bool true, .bool a6] _ _ hheap
        have hoth := fun k => setRow_other w' u k #[.int .i32 a0, .int .i64 a1, .int .i64 a2, .bool a3, .bool a4, .bool true, .bool a6]
        have h10 : l3 = true → ∃ q, y13 = .pointer (some ⟨q, 0, none⟩) ∧ w4.heap.size ≤ q ∧ (w'.setRow u #[.int .i32 a0, .int .i64 a1, .int .i64 a2, .bool a3, .bool a4, .bool true, .bool a6]).heap[q]? = some (.cells (if l5 then #[.int .i32 b0, .int .i64 b1, .int .i64 b2, .bool b3, .bool b4, .bool true, .bool b6] else #[.int .i32 0, .int .i64 0, .int .i64 0, .bool false, .bool false, .bool false, .bool false]) 26 (0, 0)) := by
          intro h5
          obtain ⟨q, h1, h2, h3⟩ := H13.out h5
          refine ⟨q, h1, h2, (hoth q ?_).trans h3⟩
          rintro rfl
          exact hne d0 h5 h1.symm
        exact ⟨_, _, _, _, true, _, _, y13, _, y27, rfl, rfl, (fun _ => rfl), H27, (fun _ => ⟨u, rfl, hu, hat⟩), h10, HNE, (fun _ => d0), HD5, (below_setRow HB.out hu _), (by show _ ≤ _; rw [hz]; exact HSZ.out)⟩
      · obtain rfl : _ = o := Option.some.inj ho
        have hsz := HSZ.out
        have cp := fun i => (HB.out.cell (p := ⟨p, i, none⟩) HP4.out).trans (CP4.out i)
        have cq := fun i => (HB.out.cell (p := ⟨q, i, none⟩) HQ4.out).trans (CQ4.out i)
        have d0 : l3 = true := haf ⟨3, .data⟩ (by simp) rfl
        have d1 : l1 = true := haf ⟨1, .data⟩ (by simp) rfl
        have hl5 : l5 = false := hl
        obtain ⟨u, rfl, hu, hheap⟩ := H13.out d0
        obtain rfl := H27.out d1
        subst hl5
        simp only [Bool.false_eq_true, if_false] at hheap
        have hne := HNE.out
        refine wpList_store_row rfl 26 (.tmp 13) (.tmp 27) rfl u #[.int .i32 b0, .int .i64 b1, .int .i64 b2, .bool b3, .bool b4, .bool true, .bool b6] rfl rfl _ #[.int .i32 0, .int .i64 0, .int .i64 0, .bool false, .bool false, .bool false, .bool false] hheap (by kernel_rfl) rfl (by simp [Value.oneCell']) ?_
        have hz : (w'.setRow u #[.int .i32 b0, .int .i64 b1, .int .i64 b2, .bool b3, .bool b4, .bool true, .bool b6]).heap.size = w'.heap.size := by simp [World.setRow]
        have hat := setRow_heap w' u _ #[.int .i32 b0, .int .i64 b1, .int .i64 b2, .bool b3, .bool b4, .bool true, .bool b6] _ _ hheap
        have hoth := fun k => setRow_other w' u k #[.int .i32 b0, .int .i64 b1, .int .i64 b2, .bool b3, .bool b4, .bool true, .bool b6]
        have h10 : l2 = true → ∃ q, y12 = .pointer (some ⟨q, 0, none⟩) ∧ w4.heap.size ≤ q ∧ (w'.setRow u #[.int .i32 b0, .int .i64 b1, .int .i64 b2, .bool b3, .bool b4, .bool true, .bool b6]).heap[q]? = some (.cells (if l4 then #[.int .i32 a0, .int .i64 a1, .int .i64 a2, .bool a3, .bool a4, .bool true, .bool a6] else #[.int .i32 0, .int .i64 0, .int .i64 0, .bool false, .bool false, .bool false, .bool false]) 26 (0, 0)) := by
          intro h5
          obtain ⟨q, h1, h2, h3⟩ := H12.out h5
          refine ⟨q, h1, h2, (hoth q ?_).trans h3⟩
          rintro rfl
          exact hne h5 d0 h1
        exact ⟨_, _, _, _, _, true, y12, _, y26, _, rfl, rfl, H26, (fun _ => rfl), h10, (fun _ => ⟨u, rfl, hu, hat⟩), HNE, HD4, (fun _ => d0), (below_setRow HB.out hu _), (by show _ ≤ _; rw [hz]; exact HSZ.out)⟩
      · cases ho
    case hend =>
      rintro L a w5 ⟨l0, l1, l2, l3, l4, l5, y12, y13, y26, y27, rfl, rfl, H26, H27, H12, H13, HNE, HD4, HD5, HB, HSZ⟩ hall
      have h2 : l2 = true := hall 2 (by simp)
      have h3 : l3 = true := hall 3 (by simp)
      have h4 : l4 = true := hall 4 (by simp)
      have h5 : l5 = true := hall 5 (by simp)
      subst h2 h3 h4 h5
      obtain ⟨u, rfl, hu, hhu⟩ := H12.out rfl
      obtain ⟨v, rfl, hv, hhv⟩ := H13.out rfl
      have hnu : u ≠ v := fun e => HNE.out rfl rfl (by rw [e])
      have hnu' : v ≠ u := Ne.symm hnu
      simp only [if_true] at hhu hhv
      have cu := fun i => cell_of_row w5 u i _ _ _ hhu
      have cv := fun i => cell_of_row w5 v i _ _ _ hhv
      have fu : ∀ i, w5.frozen? ⟨u, i, none⟩ = false := fun i => by simp [World.frozen?, hhu]
      have fv : ∀ i, w5.frozen? ⟨v, i, none⟩ = false := fun i => by simp [World.frozen?, hhv]
      have hb5 := HB3.out.trans (HB.out.mono (by omega : w.heap.size + 2 ≤ w4.heap.size))
      have HB5 := hid hb5
      have HU := hid hu
      have HV := hid hv
      have z5 := HSZ.out
      have hk : btw m a0 false false b3 false false false rule = (if b3 = true then 2 else if m = 3 then (if rule = true then 1 else if a0 = 173 then 3 else -1) else if rule = true then 1 else -1) := by simp [btw, heldB]; by_cases hm : m = 3 <;> simp [hm]
      have hcall := fun W => between_any m a0 a1 a2 a3 a4 false false b0 b1 b2 b3 false false false rule W
      have HK2 := hid hk
      have HAW := hid awake25_any
      clear hk hall HD4 HD5 HNE H12 H13 H26 H27 hhu hhv hb5 hu hv HB
      generalize btw m a0 false false b3 false false false rule = k2 at *
      have HCALL := hid hcall
      clear hcall
      go_wp2_with fail
      refine (HCALL.out _).mono ?_
      rintro e w6 ⟨rfl, hb6⟩
      have hu2 : w.heap.size + 2 ≤ u := by have := HU.out; omega
      have hv2 : w.heap.size + 2 ≤ v := by have := HV.out; omega
      have hb := (((((HB5.out.setCell (p := ⟨u, 5, none⟩) hu2 (.bool false)).setCell (p := ⟨v, 5, none⟩) hv2 (.bool false)).setCell (p := ⟨u, 6, none⟩) hu2 (.bool false)).setCell (p := ⟨v, 6, none⟩) hv2 (.bool false)).setCell (p := ⟨v, 4, none⟩) hv2 (.bool false)).trans (hb6.mono (by simp; omega))
      obtain ⟨hc, hf⟩ := bcell hb
      have HB6 := hid hb
      have z6 : w.heap.size + 2 ≤ w6.heap.size := by have := hb6.size; simp at this; omega
      have hk1 := HK.out
      have hk2 := HK2.out
      have HBW : Hid (Below w.heap.size w w6) := (((Below.refl w.heap.size w).alloc (Nat.le_refl _) _).alloc (by simp) _).trans (HB6.out.mono (by omega))
      clear hb hb6 HB5 HK HK2 HCALL cu cv fu fv HB6
      by_cases hm : m = 3
      · subst hm
        cases b3
        · obtain rfl : k = -1 := by rw [hk1]; simp
          clear hk1 hk2
          go_wp2_with fail
          refine (HAW.out _).mono ?_
          rintro e w7 ⟨rfl, hb7⟩
          go_wp2_with fail
          go_ret
          exact ⟨rfl, HBW.out.trans (hb7.mono (by omega))⟩
        · obtain rfl : k = 2 := by rw [hk1]; simp
          clear hk1 hk2
          go_wp2_with fail
          refine (HAW.out _).mono ?_
          rintro e w7 ⟨rfl, hb7⟩
          go_wp2_with fail
          go_ret
          exact ⟨rfl, HBW.out.trans (hb7.mono (by omega))⟩
      · obtain rfl : k2 = k := by rw [hk1, hk2]; simp [hm]
        have hm' : (m == 3) = false := by simpa using hm
        clear hk1 hk2
        go_wp2_with fail
        refine (HAW.out _).mono ?_
        rintro e w7 ⟨rfl, hb7⟩
        go_wp2_with fail
        go_ret
        exact ⟨rfl, HBW.out.trans (hb7.mono (by omega))⟩
end Go.Proofs.Ytfhmeemkmdkhoaa.overlayHolds
