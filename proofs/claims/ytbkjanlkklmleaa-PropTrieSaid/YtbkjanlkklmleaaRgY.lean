/- Chapter 02: Not: the walk. -/
import Derived.Test.YtbkjanlkklmleaaRgX
namespace Go.Proofs.Ytbkjanlkklmleaa
open Go.RowKit
open Go.Lib (hid)
set_option linter.unusedVariables false
set_option maxRecDepth 100000

theorem notF_fold_len (l : List Rg) (s : List Rg × Int) : (l.foldl notS s).1.length ≤ s.1.length + l.length := by
  induction l generalizing s with
  | nil => exact Nat.le_refl _
  | cons x l ih =>
    rw [List.foldl_cons]
    refine Nat.le_trans (ih _) ?_
    unfold notS
    simp only [List.length_cons]
    split
    · rw [List.length_append, List.length_singleton]; omega
    · omega
set_option maxHeartbeats 4000000 in
theorem not_any (a : Option Addr) (n cap : Nat) (l : List Rg) (w : World) (hl : RR w a n cap l) (hn : n ≤ 1000000) (h32 : In32 l) :
    Calls Try.prog 18 #[.slice a n cap] w fun e w' => RetR w e w' (notR (knownL l)) := by
  obtain ⟨i0, hi, hz0, hz1, hz2⟩ := info_parts info_rg
  have HK := hid (known_any a n cap l w hl hn h32)
  have HOK := hid (right_ok (knownL_right l))
  have hkl := knownL_len l
  rw [← hl.1] at hkl
  generalize knownL l = k at *
  clear hl h32
  go_enter Try.func18, Try.ntmps18
  go_wp2_with fail
  refine HK.out.mono ?_
  rintro e w1 ⟨A1, n1, c1, rfl, hr1, hb1⟩
  have HR := hid hr1
  have HB1 := hid hb1
  have HN := hid hr1.1
  have hn1 : n1 ≤ 1000000 := by have := hr1.1; omega
  clear hr1 hb1 HK hkl
  have hB1 := HB1.out.size
  go_wp2_with fail
  go_loopg [3, 4, 10] n1 (fun kx s3 s4 s10 wr => ∃ (i m c : Nat) (A : Option Addr) (out : List Rg) (f : Int), s3 = .slice A m c ∧ s4 = .int .i32 f ∧ s10 = .int .i64 i ∧ i ≤ n1 ∧ n1 - i ≤ kx ∧ m ≤ i ∧ 0 ≤ f ∧ f ≤ 1114112 ∧ Hid (m = out.length) ∧ Hid (wr.ownsRow w1.heap.size 48 2 (.slice A m c) m (out.flatMap rgCells)) ∧ Hid (Below w1.heap.size w1 wr) ∧ Hid (k.foldl notS ([], 0) = (k.drop i).foldl notS (out, f)))
  case atStart => exact ⟨0, 0, 0, none, [], 0, rfl, rfl, rfl, Nat.zero_le _, by omega, Nat.zero_le _, by omega, by omega, rfl, World.ownsRow_nil _ _ _ _, Below.refl _ _, rfl⟩
  case round =>
    obtain ⟨i, m, c, A, out, f, rfl, rfl, rfl, hi1, hg, hmi, hf0, hf1, HM, HROW, HB, HF⟩ := hrel
    have hszr := HB.out.size
    by_cases hlt : i < n1
    · have hlt' : (i : Int) < (n1 : Int) := by omega
      have hil : i < k.length := by have := HN.out; omega
      obtain ⟨b, off, rfl, hbl, c0, c1⟩ := (HR.out.below HB.out (Nat.le_refl _)).at hil
      have hkx := HOK.out k[i] (List.getElem_mem hil)
      have hdr : (k.drop i).foldl notS (out, f) = (k.drop (i + 1)).foldl notS (notS (out, f) k[i]) := by rw [List.drop_eq_getElem_cons hil, List.foldl_cons]
      generalize k[i] = x at *
      obtain ⟨lo, hi2⟩ := x
      obtain ⟨k1, k2, k3⟩ := hkx
      simp only at c0 c1 k1 k2 k3
      have HDR := hid (HF.out.trans hdr)
      have e1 : IntKind.i32.wrap (lo - 1) = lo - 1 := wrap32 (by omega) (by omega)
      have e2 : IntKind.i32.wrap (hi2 + 1) = hi2 + 1 := wrap32 (by omega) (by omega)
      have HROW3 := hid (HROW.out.alloc (.cells #[.int .i32 lo, .int .i32 hi2] 48))
      have HB3 := hid (HB.out.alloc hszr (.cells #[.int .i32 lo, .int .i32 hi2] 48))
      have hx0 : (wr.alloc (.cells #[.int .i32 lo, .int .i32 hi2] 48)).cell? ⟨wr.heap.size, 0, none⟩ = some (.int .i32 lo) := (Blk.new wr _ _).cell 0
      have hx1 : (wr.alloc (.cells #[.int .i32 lo, .int .i32 hi2] 48)).cell? ⟨wr.heap.size, 1, none⟩ = some (.int .i32 hi2) := (Blk.new wr _ _).cell 1
      have hxl := (Blk.new wr 48 #[.int .i32 lo, .int .i32 hi2]).lt
      clear hdr
      by_cases hc : f < lo
      · have HN2 := hid (HDR.out.trans (congrArg (fun o => (k.drop (i + 1)).foldl notS o) (show notS (out, f) (lo, hi2) = (out ++ [(f, lo - 1)], hi2 + 1) by unfold notS; simp only [if_pos hc])))
        go_upto_region 6 with fail
        generalize wr.alloc (.cells #[.int .i32 lo, .int .i32 hi2] 48) = w5 at *
        have hs5 := HB3.out.size
        have qx1 := fun (W : World) (hg : w5.grownBy W (Value.slice A m c).ownBlock) => hg
        have hne : (Value.slice A m c).ownBlock ≠ some wr.heap.size := fun e => by have := own_lt HROW.out e; omega
        have HNE := hid hne
        clear hne
        go_wp2_with (at_builtin; refine wpList_append_any _ rfl (.tmp 18) (.tmp 24) 23 rfl w1.heap.size 48 i0 (.agg #[.int .i32 0, .int .i32 0]) 2 8 Try.underlying23 hi hz0 hz1 hz2 rfl (by decide) _ m (out.flatMap rgCells) rfl (HROW3.out.alloc _) _ _ 1 1 [.int .i32 f, .int .i32 (lo - 1)] rfl (reads_blk2 (Blk.new w5 _ _)) (by simp [Value.oneCell']) (by unfold maxLen; omega) (by omega) (by simp; omega) ?_; intro v1 w7 ho7 hg7 hq7; have HB7 := hid ((HB3.out.alloc HB3.out.size _).grown hg7 (by simp; omega) (own_ge HROW3.out)); have hy1 := (hg7.cell_far ⟨wr.heap.size, 1, none⟩ (by simp; omega) (Ne.symm HNE.out)).trans ((World.cell?_alloc_lt _ _ _ hxl).trans hx1); obtain ⟨A7, c7, rfl⟩ := owns_slice ho7; have HO7 := hid ho7; clear ho7 hg7 hq7)
        go_roundg (n1 - (i + 1))
        case measure => omega
        case rel => exact ⟨i + 1, m + 1, c7, A7, out ++ [(f, lo - 1)], hi2 + 1, rfl, rfl, by go_num, by omega, Nat.le_refl _, by omega, by omega, by omega, (by show m + 1 = _; rw [List.length_append, ← HM.out]; rfl), (by show World.ownsRow _ _ _ _ _ _ _; rw [flat_snoc]; exact HO7.out), HB7, HN2⟩
      · have HN2 := hid (HDR.out.trans (congrArg (fun o => (k.drop (i + 1)).foldl notS o) (show notS (out, f) (lo, hi2) = (out, hi2 + 1) by unfold notS; simp only [if_neg hc])))
        go_wp2_with fail
        go_roundg (n1 - (i + 1))
        case measure => omega
        case rel => exact ⟨i + 1, m, c, A, out, hi2 + 1, rfl, rfl, by go_num, by omega, Nat.le_refl _, by omega, by omega, by omega, HM, HROW3, HB3, HN2⟩
    · obtain rfl : i = n1 := by omega
      have hdr : k.drop i = [] := List.drop_eq_nil_of_le (by have := HN.out; omega)
      have hnr := not_fold k
      rw [HF.out, hdr] at hnr
      have HNR := hid hnr
      clear hnr hdr HF
      by_cases hc : f ≤ 1114111
      · have HE := hid (show notR k = out ++ [(f, 1114111)] by rw [← HNR.out]; show notE (out, f) = _; unfold notE; rw [if_pos hc])
        go_wp2_with (at_builtin; refine wpList_append_any _ rfl (.tmp 32) (.tmp 35) 23 rfl w1.heap.size 48 i0 (.agg #[.int .i32 0, .int .i32 0]) 2 8 Try.underlying23 hi hz0 hz1 hz2 rfl (by decide) _ m (out.flatMap rgCells) rfl (HROW.out.alloc _) _ _ 1 1 [.int .i32 f, .int .i32 1114111] rfl (reads_blk2 (Blk.new wr _ _)) (by simp [Value.oneCell']) (by unfold maxLen; omega) (by omega) (by simp; omega) ?_; intro v1 w7 ho7 hg7 hq7; have HB7 := hid ((HB.out.alloc hszr _).grown hg7 (by simp; omega) (own_ge HROW.out)); obtain ⟨A7, c7, rfl⟩ := owns_slice ho7; have HO7 := hid ho7; clear ho7 hg7 hq7)
        go_ret
        refine ⟨_, _, _, rfl, ?_, HB1.out.trans (HB7.out.mono hB1)⟩
        rw [HE.out]
        have ho := HO7.out
        rw [show out.flatMap rgCells ++ [.int .i32 f, .int .i32 1114111] = (out ++ [(f, 1114111)]).flatMap rgCells by rw [flat_snoc]; rfl] at ho
        exact RR.of_own ho
      · have HE := hid (show notR k = out by rw [← HNR.out]; show notE (out, f) = _; unfold notE; rw [if_neg hc])
        go_wp2_with fail
        go_ret
        refine ⟨_, _, _, rfl, ?_, HB1.out.trans (HB.out.mono hB1)⟩
        rw [HE.out]
        exact RR.of_own HROW.out
end Go.Proofs.Ytbkjanlkklmleaa
