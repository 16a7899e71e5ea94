/- Chapter 04: the document's set of a class: the walk. -/
import Derived.Test.YtbkjanlkklmleaaPsB
namespace Go.Proofs.Ytbkjanlkklmleaa
open Go.RowKit
open Go.Lib (hid)
set_option linter.unusedVariables false
set_option maxRecDepth 100000

theorem pair_flat : ∀ l : List (Int × Int), C4.pairCells l = l.flatMap rgCells
  | [] => rfl
  | (a, b) :: r => by
    show .int .i32 a :: .int .i32 b :: C4.pairCells r = _
    rw [pair_flat r]
    rfl
theorem rr_of_pairs {B : Nat} {w : World} {v : Value} {l : List Rg} (h : C4.IsPairs B w v l) (hl : l.length ≤ 1000000) : ∃ A n c, v = .slice A n c ∧ RR w A n c l := by
  rcases h with ⟨rfl, rfl⟩ | ⟨b, t, _, rfl, hb⟩
  · exact ⟨_, _, _, rfl, RR.nil w⟩
  · have hlt := (Array.getElem?_eq_some_iff.1 hb).1
    refine ⟨_, _, _, rfl, rfl, Nat.le_refl _, by omega, fun _ => ⟨b, 0, rfl, hlt, fun j hj => ?_⟩⟩
    obtain ⟨g0, g1⟩ := C4.pairCells_get l j hj
    have hc : ∀ i, w.cell? ⟨b, i, none⟩ = (C4.pairCells l)[i]? := fun i => by simp [World.cell?, hb]
    rw [Nat.zero_add, hc, hc]
    exact ⟨g0, g1⟩
def allU (k : Nat) : List Rg := (44032, 55203) :: (List.range k).flatMap fun i => C4.refList (i + 1)
theorem allU_all : allU 35 = allL := rfl
theorem allU_succ (k : Nat) : allU (k + 1) = allU k ++ C4.refList (k + 1) := by
  unfold allU
  rw [List.range_succ, List.flatMap_append]
  simp
theorem allU_lens : ((List.range 36).all fun k => decide ((allU k).length ≤ 400)) = true := by decide +kernel
theorem allU_len (k : Nat) (h : k ≤ 35) : (allU k).length ≤ 400 := of_decide_eq_true (List.all_eq_true.1 allU_lens k (List.mem_range.2 (by omega)))
theorem own_one (w : World) (e : TypeId) (x y : Value) : (w.alloc (.cells #[x, y] e)).ownsRow w.heap.size e 2 (.slice (some ⟨w.heap.size, 0, none⟩) 1 1) 1 [x, y] :=
  ⟨rfl, .inr ⟨w.heap.size, 1, #[x, y], rfl, Nat.le_refl _, Blk.new w e _, Nat.le_refl _, by unfold maxLen; decide, rfl, rfl⟩⟩
set_option maxHeartbeats 4000000 in
theorem refset_any (c : Nat) (hc : c < 36) (w : World) : Calls Try.prog 9 #[.int .i64 c] w fun e w' => RetR w e w' (setL c) := by
  obtain ⟨i0, hi, hz0, hz1, hz2⟩ := info_parts info_rg2
  have hca : c = 14 ∨ c = 15 ∨ c = 0 ∨ (¬ c = 14 ∧ ¬ c = 15 ∧ ¬ c = 0) := by omega
  rcases hca with rfl | rfl | rfl | ⟨n14, n15, n0⟩
  · have HS := hid (show setL 14 = sylL 0 1 399 from rfl)
    have hsu := fun n => sylL_succ 0 1 n
    have HSU := hid hsu
    have hs0 := hid (sylL_zero 0 1)
    generalize sylL 0 1 = S at *
    clear hsu hc
    go_enter Try.func9, Try.ntmps9
    go_wp2_with fail
    go_loopg [3, 4] 399 (fun kx s5 s6 wr => ∃ (k c : Nat) (A : Option Addr) (r : Int), s5 = .slice A k c ∧ s6 = .int .i32 r ∧ k ≤ 399 ∧ 399 - k ≤ kx ∧ Hid (r = 44032 + 28 * (k : Int)) ∧ Hid (wr.ownsRow w.heap.size 49 2 (.slice A k c) k ((S k).flatMap rgCells)) ∧ Hid (Below w.heap.size w wr))
    case atStart => exact ⟨0, 0, none, 44032, rfl, rfl, Nat.zero_le _, Nat.le_refl _, rfl, (by show World.ownsRow _ _ _ _ _ _ _; rw [hs0.out]; exact World.ownsRow_nil _ _ _ _), Below.refl _ _⟩
    case round =>
      obtain ⟨k, c, A, r, rfl, rfl, hk, hg, HR, HROW, HB⟩ := hrel
      have hszr := HB.out.size
      by_cases hlt : k < 399
      · have hr1 : r ≤ 55203 := by have := HR.out; omega
        have hr0 : 44032 ≤ r := by have := HR.out; omega
        have e4 : IntKind.i32.wrap (r + 28) = r + 28 := wrap32 (by omega) (by omega)
        have HSN := hid (show S (k + 1) = S k ++ [(r, r)] by
          rw [HSU.out k]
          have := HR.out
          congr 3
          · omega
          · omega)
        have HR4 := hid (show r + 28 = 44032 + 28 * ((k + 1 : Nat) : Int) by have := HR.out; omega)
        go_wp2_with (at_builtin; refine wpList_append_any _ rfl (.tmp 19) (.tmp 23) 28 rfl w.heap.size 49 i0 (.agg #[.int .i32 0, .int .i32 0]) 2 8 Try.underlying28 hi hz0 hz1 hz2 rfl (by decide) _ k ((S k).flatMap rgCells) rfl (HROW.out.alloc _) _ _ 1 1 [.int .i32 r, .int .i32 r] rfl (reads_blk2 (Blk.new wr _ _)) (by simp [Value.oneCell']) (by unfold maxLen; omega) (by omega) (by simp; omega) ?_; intro v1 w7 ho7 hg7 hq7; have HB7 := hid ((HB.out.alloc hszr _).grown hg7 (by simp; omega) (own_ge HROW.out)); obtain ⟨A7, c7, rfl⟩ := owns_slice ho7; have HO7 := hid ho7; clear ho7 hg7 hq7)
        go_roundg (399 - (k + 1))
        case measure => omega
        case rel => exact ⟨k + 1, c7, A7, r + 28, rfl, rfl, by omega, Nat.le_refl _, HR4.out, (by show World.ownsRow _ _ _ _ _ _ _; rw [HSN.out, flat_snoc]; exact HO7.out), HB7.out⟩
      · obtain rfl : k = 399 := by omega
        have hr1 : ¬ r ≤ 55203 := by have := HR.out; omega
        go_wp2_with fail
        go_ret
        exact ⟨_, _, _, rfl, by rw [HS.out]; exact RR.of_own HROW.out, HB.out⟩
  · have HS := hid (show setL 15 = sylL 1 27 399 from rfl)
    have hsu := fun n => sylL_succ 1 27 n
    have HSU := hid hsu
    have hs0 := hid (sylL_zero 1 27)
    generalize sylL 1 27 = S at *
    clear hsu hc
    go_enter Try.func9, Try.ntmps9
    go_wp2_with fail
    go_loopg [3, 4] 399 (fun kx s5 s6 wr => ∃ (k c : Nat) (A : Option Addr) (r : Int), s5 = .slice A k c ∧ s6 = .int .i32 r ∧ k ≤ 399 ∧ 399 - k ≤ kx ∧ Hid (r = 44032 + 28 * (k : Int)) ∧ Hid (wr.ownsRow w.heap.size 49 2 (.slice A k c) k ((S k).flatMap rgCells)) ∧ Hid (Below w.heap.size w wr))
    case atStart => exact ⟨0, 0, none, 44032, rfl, rfl, Nat.zero_le _, Nat.le_refl _, rfl, (by show World.ownsRow _ _ _ _ _ _ _; rw [hs0.out]; exact World.ownsRow_nil _ _ _ _), Below.refl _ _⟩
    case round =>
      obtain ⟨k, c, A, r, rfl, rfl, hk, hg, HR, HROW, HB⟩ := hrel
      have hszr := HB.out.size
      by_cases hlt : k < 399
      · have hr1 : r ≤ 55203 := by have := HR.out; omega
        have hr0 : 44032 ≤ r := by have := HR.out; omega
        have e1 : IntKind.i32.wrap (r + 1) = r + 1 := wrap32 (by omega) (by omega)
        have e2 : IntKind.i32.wrap (r + 27) = r + 27 := wrap32 (by omega) (by omega)
        have e4 : IntKind.i32.wrap (r + 28) = r + 28 := wrap32 (by omega) (by omega)
        have HSN := hid (show S (k + 1) = S k ++ [(r + 1, r + 27)] by
          rw [HSU.out k]
          have := HR.out
          congr 3
          · omega
          · omega)
        have HR4 := hid (show r + 28 = 44032 + 28 * ((k + 1 : Nat) : Int) by have := HR.out; omega)
        go_wp2_with (at_builtin; refine wpList_append_any _ rfl (.tmp 25) (.tmp 31) 28 rfl w.heap.size 49 i0 (.agg #[.int .i32 0, .int .i32 0]) 2 8 Try.underlying28 hi hz0 hz1 hz2 rfl (by decide) _ k ((S k).flatMap rgCells) rfl (HROW.out.alloc _) _ _ 1 1 [.int .i32 (r + 1), .int .i32 (r + 27)] rfl (reads_blk2 (Blk.new wr _ _)) (by simp [Value.oneCell']) (by unfold maxLen; omega) (by omega) (by simp; omega) ?_; intro v1 w7 ho7 hg7 hq7; have HB7 := hid ((HB.out.alloc hszr _).grown hg7 (by simp; omega) (own_ge HROW.out)); obtain ⟨A7, c7, rfl⟩ := owns_slice ho7; have HO7 := hid ho7; clear ho7 hg7 hq7)
        go_roundg (399 - (k + 1))
        case measure => omega
        case rel => exact ⟨k + 1, c7, A7, r + 28, rfl, rfl, by omega, Nat.le_refl _, HR4.out, (by show World.ownsRow _ _ _ _ _ _ _; rw [HSN.out, flat_snoc]; exact HO7.out), HB7.out⟩
      · obtain rfl : k = 399 := by omega
        have hr1 : ¬ r ≤ 55203 := by have := HR.out; omega
        go_wp2_with fail
        go_ret
        exact ⟨_, _, _, rfl, by rw [HS.out]; exact RR.of_own HROW.out, HB.out⟩
  · have HLI := hid (fun c h0 h1 W => C4.reflist_any c h0 h1 W)
    have HAS := hid allU_succ
    have HAL := hid allU_len
    have HUA := hid allU_all
    have HOK := hid allL_ok
    have HSL := hid setL_zero
    have HRL := hid (fun c h => C4.refLen_lt c h)
    have HROW1 := hid (own_one w 49 (.int .i32 44032) (.int .i32 55203))
    have HB1 := hid ((Below.refl w.heap.size w).alloc (Nat.le_refl _) (.cells #[.int .i32 44032, .int .i32 55203] 49))
    clear hc
    go_enter Try.func9, Try.ntmps9
    go_wp2_with fail
    generalize w.alloc (.cells #[.int .i32 44032, .int .i32 55203] 49) = w1 at *
    go_loopg [5, 6] 35 (fun kx s5 s6 wr => ∃ (k n c : Nat) (A : Option Addr) (x : Int), s5 = .slice A n c ∧ s6 = .int .i64 x ∧ Hid (x = (k : Int) + 1) ∧ k ≤ 35 ∧ 35 - k ≤ kx ∧ Hid (n = (allU k).length) ∧ Hid (wr.ownsRow w.heap.size 49 2 (.slice A n c) n ((allU k).flatMap rgCells)) ∧ Hid (Below w.heap.size w wr))
    case atStart => exact ⟨0, 1, 1, some ⟨w.heap.size, 0, none⟩, 1, rfl, rfl, rfl, Nat.zero_le _, Nat.le_refl _, rfl, HROW1.out, HB1.out⟩
    case round =>
      obtain ⟨k, n, c, A, x, rfl, rfl, HX, hk, hg, HN, HROW, HB⟩ := hrel
      have hszr := HB.out.size
      have hn4 : n ≤ 400 := by have := HN.out; have := HAL.out k hk; omega
      by_cases hlt : k < 35
      · obtain ⟨k1, hk1⟩ : ∃ k1, k1 = k + 1 := ⟨_, rfl⟩
        have hxk : x = (k1 : Int) := by have := HX.out; omega
        have hx35 : x ≤ 35 := by omega
        have hk36 : k1 < 36 := by omega
        have HK1 := hid hk1
        clear hk1
        subst hxk
        have HLC := hid (HLI.out (k1 : Int) (by omega) (by omega) wr)
        go_wp2_with fail
        refine HLC.out.mono ?_
        rintro e w2 ⟨v, rfl, hp, hb2⟩
        rw [Int.toNat_natCast] at hp
        have hl1 := HRL.out k1 hk36
        obtain ⟨A2, n2, c2, rfl, hr2⟩ := rr_of_pairs hp (by omega)
        have hn2 : n2 < 100 := by have := hr2.1; omega
        have HN2 := hid hr2.1
        have HRD := hid hr2.reads
        have HROW2 := hid (HROW.out.kept (grown_of_below hb2 none) (by cases h : (Value.slice A n c).ownBlock <;> simp))
        have HB2 := hid (HB.out.trans (hb2.mono hszr))
        have hs2 := HB2.out.size
        have HSTEP := hid (show allU (k + 1) = allU k ++ C4.refList k1 by rw [HAS.out k, HK1.out])
        clear hp hr2 hb2 hl1
        go_wp2_with (at_builtin; refine wpList_append_any _ rfl (.tmp 44) (.tmp 46) 28 rfl w.heap.size 49 i0 (.agg #[.int .i32 0, .int .i32 0]) 2 8 Try.underlying28 hi hz0 hz1 hz2 rfl (by decide) _ n ((allU k).flatMap rgCells) rfl HROW2.out _ A2 n2 c2 ((C4.refList k1).flatMap rgCells) rfl HRD.out (rg_one _) (by unfold maxLen; omega) (by omega) hs2 ?_; intro v1 w7 ho7 hg7 hq7; have HB7 := hid (HB2.out.grown hg7 hs2 (own_ge HROW2.out)); obtain ⟨A7, c7, rfl⟩ := owns_slice ho7; have HO7 := hid ho7; clear ho7 hg7 hq7)
        have hx2 : (k1 : Int) + 1 = ((k + 1 : Nat) : Int) + 1 := by have := HK1.out; omega
        go_roundg (35 - (k + 1))
        case measure => omega
        case rel => exact ⟨k + 1, n + n2, c7, A7, _, rfl, by go_num, hx2, by omega, Nat.le_refl _, (by show n + n2 = _; rw [HSTEP.out, List.length_append, ← HN.out, ← HN2.out]), (by show World.ownsRow _ _ _ _ _ _ _; rw [HSTEP.out, List.flatMap_append]; exact HO7.out), HB7.out⟩
      · obtain rfl : k = 35 := by omega
        have hx36 : x = 36 := by have := HX.out; omega
        subst hx36
        rw [HUA.out] at HN HROW
        have HRR := hid (RR.of_own HROW.out)
        clear HLI HAS HAL HRL hlt hg hk
        go_wp2_with fail
        refine (refmake_any A n c allL wr HRR.out (by omega) HOK.out).mono ?_
        rintro e w2 ⟨A2, n2, c2, rfl, hr2, hb2⟩
        have h1 := gathR_len allL [] 0
        have h3 := all_len
        have hg := gath_or HOK.out (b := []) (fun x hx => by cases hx)
        have hsl := HSL.out
        generalize gathR allL [] 0 = g at *
        have HSG := hid hsl
        have HR2 := hid hr2
        have hn2 : n2 ≤ 1000 := by have := hr2.1; rw [List.append_nil] at h1; omega
        have HOG := hid (right_ok hg.1)
        have HB2 := hid (HB.out.trans (hb2.mono hszr))
        clear hr2 hb2 hg h1 h3 hsl
        go_wp2_with fail
        refine (refnot_any A2 n2 c2 g w2 HR2.out (by omega) HOG.out).mono ?_
        rintro e w3 ⟨A3, n3, c3, rfl, hr3, hb3⟩
        have HR3 := hid hr3
        have HB3 := hid (HB2.out.trans (hb3.mono HB2.out.size))
        clear hr3 hb3
        go_wp2_with fail
        go_ret
        exact ⟨_, _, _, rfl, by rw [HSG.out]; exact HR3.out, HB3.out⟩
  · have HS := hid (show setL c = C4.refList c by unfold setL toldL; rw [if_neg n0, if_neg n14, if_neg n15])
    have HLC := hid (C4.reflist_any (c : Int) (by omega) (by omega) w)
    have hl1 := C4.refLen_lt c hc
    have b14 : ((c : Int) == 14) = false := by rw [beq_eq_false_iff_ne]; omega
    have b15 : ((c : Int) == 15) = false := by rw [beq_eq_false_iff_ne]; omega
    have b0 : ((c : Int) == 0) = false := by rw [beq_eq_false_iff_ne]; omega
    clear n14 n15 n0
    go_enter Try.func9, Try.ntmps9
    go_wp2_with fail
    refine HLC.out.mono ?_
    rintro e w2 ⟨v, rfl, hp, hb2⟩
    rw [Int.toNat_natCast] at hp
    obtain ⟨A2, n2, c2, rfl, hr2⟩ := rr_of_pairs hp (by omega)
    have HR2 := hid hr2
    have HB2 := hid hb2
    clear hp hr2 hb2
    go_wp2_with fail
    go_ret
    exact ⟨_, _, _, rfl, by rw [HS.out]; exact HR2.out, HB2.out⟩
end Go.Proofs.Ytbkjanlkklmleaa
