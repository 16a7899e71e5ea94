/- Chapter 04: the ranges of a class: walks. -/
import Derived.Test.YtbkjanlkklmleaaPsP
import Derived.Test.YtbkjanlkklmleaaRgX
namespace Go.Proofs.Ytbkjanlkklmleaa
open Go.RowKit
open Go.Lib (hid)
set_option linter.unusedVariables false
set_option maxRecDepth 100000

theorem ext3 (cs : Array Value) (o : Nat) (a b c : Value) (h0 : cs[o]? = some a) (h1 : cs[o + 1]? = some b) (h2 : cs[o + 2]? = some c) : cs.extract o (o + 3) = #[a, b, c] := by
  have l2 := (Array.getElem?_eq_some_iff.1 h2).1
  apply Array.ext_getElem?
  intro i
  rw [Array.getElem?_extract]
  rcases i with _ | _ | _ | i
  · rw [if_pos (by omega)]; simpa using h0
  · rw [if_pos (by omega)]; simpa using h1
  · rw [if_pos (by omega)]; simpa using h2
  · rw [if_neg (by omega)]; simp
/-- 'a[i]' of the table of rows. -/
theorem run_row (i : Nat) (hi : i < C4.tab.length) (w : World) : (Instr.index 54 (.agg (C4.tabCells C4.tab).toArray) (.int .i64 i)).run Try.prog w = .ok (.agg #[.int .i32 C4.tab[i].1, .int .i32 C4.tab[i].2.1, .int .i64 C4.tab[i].2.2]) w := by
  obtain ⟨g0, g1, g2⟩ := C4.tabCells_get C4.tab i hi
  rw [C4.tab_len] at hi
  have hx := ext3 (C4.tabCells C4.tab).toArray (i * 3) _ _ _ (by simpa using g0) (by simpa using g1) (by simpa using g2)
  generalize (C4.tabCells C4.tab).toArray = cs at *
  have hagg : (isAgg 53).run Try.prog w = .ok true w := Try.isAgg53 w
  have hsz : (sizeOf 53).run Try.prog w = .ok 3 w := Try.sizeOf53 w
  have h0 : (0 : Int) ≤ (i : Int) := by omega
  have h1 : (i : Int) < (139 : Nat) := by omega
  have h2 : ¬ 139 ≤ i := by omega
  simp [Instr.index, run_underlying Try.underlying54, asIntOf, h0, h2, part, hsz, hx]
theorem wrapN32 {x : Int} (h : -2147483648 ≤ x) (h2 : x ≤ 2147483647) : IntKind.i32.wrap x = x := wrap32 h h2
set_option maxHeartbeats 2000000 in
theorem syllables_any (f m : Int) (h : 0 ≤ f ∧ f ≤ 1 ∧ 1 ≤ m ∧ m ≤ 27) (w : World) : Calls Try.prog 34 #[.int .i32 f, .int .i32 m] w fun e w' => RetW w e w' (sylL f m 399) := by
  obtain ⟨i0, hi, hz0, hz1, hz2⟩ := info_parts info_rg
  obtain ⟨f0, f1, m0, m1⟩ := h
  have hsu := fun n => sylL_succ f m n
  have HSU := hid hsu
  have hs0 := hid (sylL_zero f m)
  generalize sylL f m = S at *
  clear hsu
  go_enter Try.func34, Try.ntmps34
  go_wp2_with fail
  go_loopg [5, 6] 399 (fun kx s5 s6 wr => ∃ (k c : Nat) (A : Option Addr) (r : Int), s5 = .slice A k c ∧ s6 = .int .i32 r ∧ k ≤ 399 ∧ 399 - k ≤ kx ∧ Hid (r = 44032 + 28 * (k : Int)) ∧ Hid (wr.ownsRow w.heap.size 48 2 (.slice A k c) k ((S k).flatMap rgCells)) ∧ Hid (Below w.heap.size w wr))
  case atStart => exact ⟨0, 0, none, 44032, rfl, rfl, Nat.zero_le _, Nat.le_refl _, rfl, (by show World.ownsRow _ _ _ _ _ _ _; rw [hs0.out]; exact World.ownsRow_nil _ _ _ _), Below.refl _ _⟩
  case round =>
    obtain ⟨k, c, A, r, rfl, rfl, hk, hg, HR, HROW, HB⟩ := hrel
    have hszr := HB.out.size
    by_cases hlt : k < 399
    · have hr1 : r ≤ 55203 := by have := HR.out; omega
      have hr0 : 44032 ≤ r := by have := HR.out; omega
      have e1 : IntKind.i32.wrap (r + f) = r + f := wrap32 (by omega) (by omega)
      have e2 : IntKind.i32.wrap (r + f + m) = r + f + m := wrap32 (by omega) (by omega)
      have e3 : IntKind.i32.wrap (r + f + m - 1) = r + f + m - 1 := wrap32 (by omega) (by omega)
      have e4 : IntKind.i32.wrap (r + 28) = r + 28 := wrap32 (by omega) (by omega)
      have HSN := hid (show S (k + 1) = S k ++ [(r + f, r + f + m - 1)] by rw [HSU.out k, HR.out])
      have HR4 := hid (show r + 28 = 44032 + 28 * ((k + 1 : Nat) : Int) by have := HR.out; omega)
      go_wp2_with (at_builtin; refine wpList_append_any _ rfl (.tmp 11) (.tmp 22) 23 rfl w.heap.size 48 i0 (.agg #[.int .i32 0, .int .i32 0]) 2 8 Try.underlying23 hi hz0 hz1 hz2 rfl (by decide) _ k ((S k).flatMap rgCells) rfl (HROW.out.alloc _) _ _ 1 1 [.int .i32 (r + f), .int .i32 (r + f + m - 1)] rfl (reads_blk2 (Blk.new wr _ _)) (by simp [Value.oneCell']) (by unfold maxLen; omega) (by omega) (by simp; omega) ?_; intro v1 w7 ho7 hg7 hq7; have HB7 := hid ((HB.out.alloc hszr _).grown hg7 (by simp; omega) (own_ge HROW.out)); obtain ⟨A7, c7, rfl⟩ := owns_slice ho7; have HO7 := hid ho7; clear ho7 hg7 hq7)
      go_roundg (399 - (k + 1))
      case measure => omega
      case rel => exact ⟨k + 1, c7, A7, r + 28, rfl, rfl, by omega, Nat.le_refl _, HR4.out, (by show World.ownsRow _ _ _ _ _ _ _; rw [HSN.out, flat_snoc]; exact HO7.out), HB7.out⟩
    · obtain rfl : k = 399 := by omega
      have hr1 : ¬ r ≤ 55203 := by have := HR.out; omega
      go_wp2_with fail
      go_ret
      exact ⟨_, _, _, rfl, HROW.out, HB.out⟩
/-- The rows of a class. -/
def rowsL (c : Int) (l : List (Int × Int × Int)) : List Rg := (l.filter fun x => decide (x.2.2 = c)).map fun x => (x.1, x.2.1)
theorem rowsL_is : ((List.range 36).all fun c => decide (c = 14 ∨ c = 15) || decide (rowsL (c : Int) C4.tab = C4.refList c)) = true := by decide +kernel
theorem rowsL_none : rowsL 14 C4.tab = [] ∧ rowsL 15 C4.tab = [] := by decide +kernel
theorem rowsL_step {c : Int} {i : Nat} (h : i < C4.tab.length) : rowsL c (C4.tab.take (i + 1)) = if C4.tab[i].2.2 = c then rowsL c (C4.tab.take i) ++ [(C4.tab[i].1, C4.tab[i].2.1)] else rowsL c (C4.tab.take i) := by
  unfold rowsL
  rw [List.take_add_one, List.getElem?_eq_getElem h, List.filter_append, List.map_append]
  by_cases hc : C4.tab[i].2.2 = c
  · rw [if_pos hc]
    simp [hc]
  · rw [if_neg hc]
    simp [hc]
theorem rowsL_len (c : Int) (i : Nat) : (rowsL c (C4.tab.take i)).length ≤ 139 := by
  unfold rowsL
  rw [List.length_map]
  refine Nat.le_trans (List.length_filter_le _ _) ?_
  rw [List.length_take]
  have := C4.tab_len
  omega
theorem rrs_one1 {w : World} {q : Nat} {t : TypeId} {A1 : Option Addr} {n1 c1 : Nat} {l1 : List Rg} (h : Blk w q t #[.slice A1 n1 c1]) (h1 : RR w A1 n1 c1 l1) (i1 : In32 l1) (b1 : n1 ≤ 1000000) :
    RRs w (some ⟨q, 0, none⟩) 1 1 [l1] := by
  refine ⟨rfl, Nat.le_refl _, by decide, fun _ => ⟨q, 0, rfl, h.lt, fun j hj => ?_⟩⟩
  have hj2 : j < 1 := hj
  rw [Nat.zero_add, h.cell]
  rcases j with _ | j
  · exact ⟨_, _, _, rfl, h1, i1, b1⟩
  · omega
theorem in32_right {l : List Rg} (h : rightR l) : In32 l := fun x hx => by
  obtain ⟨a, b, c⟩ := right_ok h x hx
  exact ⟨⟨by omega, by omega⟩, ⟨by omega, by omega⟩⟩
/-- The last part of told: the union of what there is. -/
theorem told_end {A : Option Addr} {n c : Nat} {l : List Rg} {B : Nat} {W : World} (ho : W.ownsRow B 48 2 (.slice A n c) n (l.flatMap rgCells)) (hr : rightR l) (hn : n ≤ 1000) :
    Calls Try.prog 19 #[.slice (some ⟨W.heap.size, 0, none⟩) 1 1] (W.alloc (.cells #[.slice A n c] 23)) fun e w' => RetW (W.alloc (.cells #[.slice A n c] 23)) e w' l := by
  have hrr : RR (W.alloc (.cells #[.slice A n c] 23)) A n c l := (RR.of_own ho).below ((Below.refl W.heap.size W).alloc (Nat.le_refl _) _) (Nat.le_refl _)
  have hlen := hrr.1
  refine (unionW_any _ 1 1 [l] _ (rrs_one1 (Blk.new W 23 #[.slice A n c]) hrr (in32_right hr) (by omega)) (by simp; omega) (by decide)).mono ?_
  rintro e w' ⟨u, hu, hm, hret⟩
  have : u = l := right_unique hu hr fun r => (hm r).trans ⟨fun ⟨x, hx, h⟩ => by rw [List.mem_singleton.1 hx, knownL_of hr] at h; exact h, fun h => ⟨l, List.mem_singleton.2 rfl, by rw [knownL_of hr]; exact h⟩⟩
  rw [← this]
  exact hret
set_option maxHeartbeats 4000000 in
theorem told_any (c : Nat) (hc : c < 36) (w : World) : Calls Try.prog 17 #[.int .i64 c] w fun e w' => RetW w e w' (toldL c) := by
  obtain ⟨i0, hi, hz0, hz1, hz2⟩ := info_parts info_rg
  have HRO := hid (fun W => C4.rows_any W)
  have HRI := hid (told_right c hc)
  have HIX := hid (fun i (hi : i < C4.tab.length) (W : World) => run_row i hi W)
  have HST := hid (fun i (hi : i < C4.tab.length) => rowsL_step (c := (c : Int)) hi)
  have HLE := hid (rowsL_len c)
  have htl := C4.tab_len
  have HTL := hid htl
  have HSY := hid (fun f m h W => syllables_any f m h W)
  have HEND := hid (fun A n c B W l ho hr hn => @told_end A n c l B W ho hr hn)
  have hfin : (¬ c = 14 → ¬ c = 15 → rowsL c C4.tab = toldL c) ∧ (c = 14 → rowsL c C4.tab = [] ∧ toldL c = sylL 0 1 399) ∧ (c = 15 → rowsL c C4.tab = [] ∧ toldL c = sylL 1 27 399) := by
    refine ⟨fun h1 h2 => ?_, fun h => ?_, fun h => ?_⟩
    · have := List.all_eq_true.1 rowsL_is c (List.mem_range.2 hc)
      rw [Bool.or_eq_true, decide_eq_true_iff, decide_eq_true_iff] at this
      unfold toldL
      rw [if_neg h1, if_neg h2]
      exact this.resolve_left (by omega)
    · subst h; exact ⟨rowsL_none.1, rfl⟩
    · subst h; exact ⟨rowsL_none.2, rfl⟩
  have HFIN := hid hfin
  have hca : c = 14 ∨ c = 15 ∨ (¬ c = 14 ∧ ¬ c = 15) := by omega
  clear hfin htl
  go_enter Try.func17, Try.ntmps17
  go_wp2_with fail
  refine (HRO.out _).mono ?_
  rintro e w1 ⟨rfl, hb1⟩
  have HB1 := hid hb1
  have hs1 := hb1.size
  clear hb1
  generalize (C4.tabCells C4.tab).toArray = TC at *
  obtain ⟨t0, ht0⟩ : ∃ t0 : Int, t0 = (c : Int) := ⟨_, rfl⟩
  have HT0 := hid ht0
  rw [← ht0] at HST HLE HFIN ⊢
  go_wp2_with fail
  go_loopg [3, 7] 139 (fun kx s3 s7 wr => ∃ (i n c : Nat) (A : Option Addr), s3 = .slice A n c ∧ s7 = .int .i64 i ∧ i ≤ 139 ∧ 139 - i ≤ kx ∧ Hid (n = (rowsL t0 (C4.tab.take i)).length) ∧ Hid (wr.ownsRow w1.heap.size 48 2 (.slice A n c) n ((rowsL t0 (C4.tab.take i)).flatMap rgCells)) ∧ Hid (Below w1.heap.size w1 wr))
  case atStart => exact ⟨0, 0, 0, none, rfl, rfl, Nat.zero_le _, Nat.le_refl _, rfl, World.ownsRow_nil _ _ _ _, Below.refl _ _⟩
  case round =>
    obtain ⟨i, n, c2, A, rfl, rfl, hi1, hg, HN, HROW, HB⟩ := hrel
    have hszr := HB.out.size
    have hn139 : n ≤ 139 := by have := HN.out; have := HLE.out i; omega
    by_cases hlt : i < 139
    · have hlt' : (i : Int) < 139 := by omega
      have hil : i < C4.tab.length := by rw [HTL.out]; exact hlt
      have hix := HIX.out i hil
      have hst := HST.out i hil
      generalize C4.tab[i] = x at *
      obtain ⟨lo, hi2, cl⟩ := x
      simp only at hix hst
      have HST2 := hid hst
      clear hst
      have hx0 : (wr.alloc (.cells #[.int .i32 lo, .int .i32 hi2, .int .i64 cl] 53)).cell? ⟨wr.heap.size, 0, none⟩ = some (.int .i32 lo) := (Blk.new wr _ _).cell 0
      have hx1 : (wr.alloc (.cells #[.int .i32 lo, .int .i32 hi2, .int .i64 cl] 53)).cell? ⟨wr.heap.size, 1, none⟩ = some (.int .i32 hi2) := (Blk.new wr _ _).cell 1
      have hx2 : (wr.alloc (.cells #[.int .i32 lo, .int .i32 hi2, .int .i64 cl] 53)).cell? ⟨wr.heap.size, 2, none⟩ = some (.int .i64 cl) := (Blk.new wr _ _).cell 2
      have HROW3 := hid (HROW.out.alloc (.cells #[.int .i32 lo, .int .i32 hi2, .int .i64 cl] 53))
      have HB3 := hid (HB.out.alloc hszr (.cells #[.int .i32 lo, .int .i32 hi2, .int .i64 cl] 53))
      go_upto_region 5 with fail
      generalize wr.alloc (.cells #[.int .i32 lo, .int .i32 hi2, .int .i64 cl] 53) = w5 at *
      have hs5 := HB3.out.size
      by_cases hcl : cl = t0
      · subst hcl
        have HN2 := hid (HST2.out.trans (if_pos rfl))
        have hbb : (cl == cl) = true := by simp
        go_wp2_with (at_builtin; refine wpList_append_any _ rfl (.tmp 14) (.tmp 20) 23 rfl w1.heap.size 48 i0 (.agg #[.int .i32 0, .int .i32 0]) 2 8 Try.underlying23 hi hz0 hz1 hz2 rfl (by decide) _ n _ rfl (HROW3.out.alloc _) _ _ 1 1 [.int .i32 lo, .int .i32 hi2] rfl (reads_blk2 (Blk.new w5 _ _)) (by simp [Value.oneCell']) (by unfold maxLen; omega) (by omega) (by simp; omega) ?_; intro v1 w7 ho7 hg7 hq7; have HB7 := hid ((HB3.out.alloc hs5 _).grown hg7 (by simp; omega) (own_ge HROW3.out)); obtain ⟨A7, c7, rfl⟩ := owns_slice ho7; have HO7 := hid ho7; clear ho7 hg7 hq7)
        go_roundg (139 - (i + 1))
        case measure => omega
        case rel => exact ⟨i + 1, n + 1, c7, A7, rfl, by go_num, by omega, Nat.le_refl _, (by show n + 1 = _; rw [HN2.out, List.length_append, ← HN.out]; rfl), (by show World.ownsRow _ _ _ _ _ _ _; rw [HN2.out, flat_snoc]; exact HO7.out), HB7.out⟩
      · have HN2 := hid (HST2.out.trans (if_neg hcl))
        have hbb : (cl == t0) = false := by simpa using hcl
        go_wp2_with fail
        go_roundg (139 - (i + 1))
        case measure => omega
        case rel => exact ⟨i + 1, n, c2, A, rfl, by go_num, by omega, Nat.le_refl _, (by show n = _; rw [HN2.out]; exact HN.out), (by show World.ownsRow _ _ _ _ _ _ _; rw [HN2.out]; exact HROW3.out), HB3.out⟩
    · obtain rfl : i = 139 := by omega
      have hta : C4.tab.take 139 = C4.tab := List.take_of_length_le (by rw [HTL.out]; exact Nat.le_refl _)
      rw [hta] at HN HROW
      clear hta HIX HST
      rcases hca with h14 | h15 | ⟨n14, n15⟩
      · obtain ⟨r0, r1⟩ := HFIN.out.2.1 h14
        have hn0 : n = 0 := by have := HN.out; rw [r0] at this; exact this
        subst hn0
        rw [r0] at HROW
        have HTO := hid r1
        have h14' : t0 = 14 := by have := HT0.out; omega
        subst h14'
        clear r0 r1 h14 hlt hg hi1 hn139
        go_wp2_with fail
        refine (HSY.out 0 1 (by decide) wr).mono ?_
        rintro e w8 ⟨A8, n8, c8, rfl, ho8, hb8⟩
        have hn8 : n8 = 399 := by have := ho8.1; rw [rgCells_len, sylL_len] at this; omega
        subst hn8
        have HRD8 := hid (RR.of_own ho8).reads
        have HB8 := hid (HB.out.trans (hb8.mono hszr))
        have HROW8 := hid (HROW.out.kept (grown_of_below hb8 none) (by cases h : (Value.slice A 0 c2).ownBlock <;> simp))
        clear ho8 hb8
        have hs8 := HB8.out.size
        go_wp2_with (at_builtin; refine wpList_append_any _ rfl (.tmp 26) (.tmp 27) 23 rfl w1.heap.size 48 i0 (.agg #[.int .i32 0, .int .i32 0]) 2 8 Try.underlying23 hi hz0 hz1 hz2 rfl (by decide) _ 0 _ rfl HROW8.out _ A8 399 c8 ((sylL 0 1 399).flatMap rgCells) rfl HRD8.out (rg_one _) (by unfold maxLen; omega) (by omega) hs8 ?_; intro v1 w7 ho7 hg7 hq7; have HB7 := hid (HB8.out.grown hg7 hs8 (own_ge HROW8.out)); obtain ⟨A7, c7, rfl⟩ := owns_slice ho7; have HO7 := hid ho7; clear ho7 hg7 hq7)
        have ho := HO7.out
        rw [List.flatMap_nil, List.nil_append, ← HTO.out] at ho
        refine (HEND.out _ _ _ _ _ _ ho HRI.out (by decide)).mono ?_
        rintro e w9 ⟨A9, n9, c9, rfl, hr9, hb9⟩
        have HR9 := hid hr9
        have HB9 := hid ((HB1.out.trans ((HB7.out.alloc HB7.out.size _).mono hs1)).trans (hb9.mono (by have := HB7.out.size; simp; omega)))
        clear hr9 hb9 ho
        go_wp2_with fail
        go_ret
        exact ⟨_, _, _, rfl, owns_base HR9.out (by have := HB7.out.size; simp; omega), HB9.out⟩
      · obtain ⟨r0, r1⟩ := HFIN.out.2.2 h15
        have hn0 : n = 0 := by have := HN.out; rw [r0] at this; exact this
        subst hn0
        rw [r0] at HROW
        have HTO := hid r1
        have h15' : t0 = 15 := by have := HT0.out; omega
        subst h15'
        clear r0 r1 h15 hlt hg hi1 hn139
        go_wp2_with fail
        refine (HSY.out 1 27 (by decide) wr).mono ?_
        rintro e w8 ⟨A8, n8, c8, rfl, ho8, hb8⟩
        have hn8 : n8 = 399 := by have := ho8.1; rw [rgCells_len, sylL_len] at this; omega
        subst hn8
        have HRD8 := hid (RR.of_own ho8).reads
        have HB8 := hid (HB.out.trans (hb8.mono hszr))
        have HROW8 := hid (HROW.out.kept (grown_of_below hb8 none) (by cases h : (Value.slice A 0 c2).ownBlock <;> simp))
        clear ho8 hb8
        have hs8 := HB8.out.size
        go_wp2_with (at_builtin; refine wpList_append_any _ rfl (.tmp 31) (.tmp 32) 23 rfl w1.heap.size 48 i0 (.agg #[.int .i32 0, .int .i32 0]) 2 8 Try.underlying23 hi hz0 hz1 hz2 rfl (by decide) _ 0 _ rfl HROW8.out _ A8 399 c8 ((sylL 1 27 399).flatMap rgCells) rfl HRD8.out (rg_one _) (by unfold maxLen; omega) (by omega) hs8 ?_; intro v1 w7 ho7 hg7 hq7; have HB7 := hid (HB8.out.grown hg7 hs8 (own_ge HROW8.out)); obtain ⟨A7, c7, rfl⟩ := owns_slice ho7; have HO7 := hid ho7; clear ho7 hg7 hq7)
        have ho := HO7.out
        rw [List.flatMap_nil, List.nil_append, ← HTO.out] at ho
        refine (HEND.out _ _ _ _ _ _ ho HRI.out (by decide)).mono ?_
        rintro e w9 ⟨A9, n9, c9, rfl, hr9, hb9⟩
        have HR9 := hid hr9
        have HB9 := hid ((HB1.out.trans ((HB7.out.alloc HB7.out.size _).mono hs1)).trans (hb9.mono (by have := HB7.out.size; simp; omega)))
        clear hr9 hb9 ho
        go_wp2_with fail
        go_ret
        exact ⟨_, _, _, rfl, owns_base HR9.out (by have := HB7.out.size; simp; omega), HB9.out⟩
      · have r0 := HFIN.out.1 n14 n15
        rw [r0] at HN HROW
        have b14 : (t0 == 14) = false := by have := HT0.out; rw [beq_eq_false_iff_ne]; omega
        have b15 : (t0 == 15) = false := by have := HT0.out; rw [beq_eq_false_iff_ne]; omega
        clear r0
        go_wp2_with fail
        refine (HEND.out _ _ _ _ _ _ HROW.out HRI.out (by omega)).mono ?_
        rintro e w9 ⟨A9, n9, c9, rfl, hr9, hb9⟩
        have HR9 := hid hr9
        have HB9 := hid ((HB1.out.trans ((HB.out.alloc hszr _).mono hs1)).trans (hb9.mono (by simp; omega)))
        clear hr9 hb9
        go_wp2_with fail
        go_ret
        exact ⟨_, _, _, rfl, owns_base HR9.out (by simp; omega), HB9.out⟩
end Go.Proofs.Ytbkjanlkklmleaa
