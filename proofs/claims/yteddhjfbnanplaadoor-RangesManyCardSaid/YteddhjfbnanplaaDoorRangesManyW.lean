/- The law RangesMany: the walk. -/
import Derived.Test.YteddhjfbnanplaaDoorRgAw
namespace Go.Proofs.YteddhjfbnanplaaDoor.rangesMany
open Go.RowKit
open Go.Lib (hid)
set_option linter.unusedVariables false
set_option maxRecDepth 100000

/-- The ranges that the law lays. -/
def manyF : Nat → Nat → List Rg
  | _, 0 => []
  | i, k + 1 => (3 * (i : Int), 3 * (i : Int) + 1) :: manyF (i + 1) k
theorem many_len : ∀ (k i : Nat), (manyF i k).length = k
  | 0, _ => rfl
  | k + 1, i => by rw [manyF, List.length_cons, many_len k (i + 1)]
theorem many_right (k i : Nat) (b : Int) (h1 : b < 3 * (i : Int)) (h2 : 3 * ((i : Int) + k) ≤ 1000000) : rightF b (manyF i k) := by
  induction k generalizing i b with
  | zero => trivial
  | succ k ih =>
    have h3 : 3 * (i : Int) + 1 + 1 < 3 * ((i + 1 : Nat) : Int) := by omega
    have h4 : 3 * (((i + 1 : Nat) : Int) + k) ≤ 1000000 := by omega
    have ih := ih (i + 1) (3 * (i : Int) + 1 + 1) h3 h4
    have h5 : 3 * (i : Int) ≤ 3 * (i : Int) + 1 := by omega
    have h6 : 3 * (i : Int) + 1 ≤ 1114111 := by omega
    rw [manyF, rightF]
    exact ⟨h1, h5, h6, ih⟩
theorem many_count : ∀ (k i : Nat), countR (manyF i k) = 2 * (k : Int)
  | 0, _ => rfl
  | k + 1, i => by
    rw [manyF, countR, many_count k (i + 1)]
    show 3 * (i : Int) + 1 - 3 * (i : Int) + 1 + 2 * (k : Int) = _
    omega
theorem many_snoc : ∀ (k i : Nat), manyF i (k + 1) = manyF i k ++ [(3 * ((i + k : Nat) : Int), 3 * ((i + k : Nat) : Int) + 1)]
  | 0, i => rfl
  | k + 1, i => by
    show _ :: manyF (i + 1) (k + 1) = (_ :: manyF (i + 1) k) ++ _
    rw [many_snoc k (i + 1), show i + 1 + k = i + (k + 1) by omega]
    rfl
theorem many_one {k : Nat} (h : 0 < k) : inB (manyF 0 k) 1 = true := by
  refine inB_yes ?_
  cases k with
  | zero => omega
  | succ k => exact (memR_cons _ _ _).2 (.inl ⟨by show 3 * ((0 : Nat) : Int) ≤ 1; omega, by show 1 ≤ 3 * ((0 : Nat) : Int) + 1; omega⟩)
theorem many_two {k : Nat} (h : 3 * (k : Int) ≤ 1000000) : inB (manyF 0 k) 2 = false := by
  refine inB_no ?_
  cases k with
  | zero => exact memR_nil _
  | succ k =>
    intro q
    rcases (memR_cons _ _ _).1 q with q | q
    · have : (2 : Int) ≤ 3 * ((0 : Nat) : Int) + 1 := q.2
      omega
    · have := rightF_mem (many_right k 1 2 (by omega) (by omega)) q
      omega
theorem many_gath {k : Nat} (h : 3 * (k : Int) ≤ 1000000) : gathR (manyF 0 k) [] 0 = manyF 0 k := by
  have hr : rightR (manyF 0 k) := many_right k 0 (-1) (by omega) (by omega)
  obtain ⟨g1, g2⟩ := gath_or (b := []) (right_ok hr) (fun x hx => by cases hx)
  exact right_unique g1 hr fun r => (g2 r).trans ⟨fun q => q.elim id (fun q => absurd q (memR_nil r)), .inl⟩
theorem set_two (pre rest : List Value) (r0 r1 a b : Value) (j : Nat) (h : j = pre.length) : ((pre ++ (r0 :: r1 :: rest)).set j a).set (j + 1) b = pre ++ [a, b] ++ rest := by
  subst h
  rw [List.set_append_right _ _ (Nat.le_refl _), Nat.sub_self, List.set_cons_zero, List.set_append_right _ _ (by omega), show pre.length + 1 - pre.length = 1 by omega, List.set_cons_succ, List.set_cons_zero, List.append_assoc]
  rfl
set_option maxHeartbeats 4000000 in
theorem walk (n : Int) (r : Int) (w : World) (w0 : (Lit.int .u8 n).wf = true) (w1 : (Lit.int .i32 r).wf = true) (hdb : Db w) :
    Calls Tryd.prog 4 #[.int .u8 n, .int .i32 r] w fun e w' => e = .returned (.bool true) ∧ Below w.heap.size w w' := by
  obtain ⟨i0, hi, hz0, hz1, hz2⟩ := info_parts info_rg
  have hr : -2147483648 ≤ r ∧ r ≤ 2147483647 := by
    simp only [Lit.wf, IntKind.min, IntKind.max, IntKind.signed, IntKind.bits, Bool.and_eq_true] at w1
    simp at w1
    omega
  have hn : 0 ≤ n ∧ n ≤ 255 := by
    simp only [Lit.wf, IntKind.min, IntKind.max, IntKind.signed, IntKind.bits, Bool.and_eq_true] at w0
    simp at w0
    omega
  obtain ⟨hn0, hn1⟩ := hn
  have HAW := hid (awake_any w hdb)
  have HDB := hid hdb
  obtain ⟨k, hk⟩ : ∃ k : Nat, 990 + n % 20 = (k : Int) := ⟨(990 + n % 20).toNat, by omega⟩
  have hk1 : 990 ≤ k ∧ k ≤ 1009 := by omega
  obtain ⟨hka, hkb⟩ := hk1
  clear w0 w1 hdb
  go_enter Tryd.func4, Tryd.ntmps4
  go_wp2_with fail
  refine HAW.out.mono ?_
  rintro e w2 ⟨rfl, hb⟩
  have HB := hid hb
  have hb2 := hb.size
  clear hb HAW
  go_wp2_with (at_make; refine wpList_make_full _ rfl _ _ 24 rfl w2.heap.size 40 i0 (.agg #[.int .i32 0, .int .i32 0]) 2 Tryd.underlying24 hi hz0 hz1 .i64 .i64 _ _ k rfl rfl (by first | exact hk | rfl) (by first | exact hk | rfl) (by rw [hz2]; omega) (by unfold maxLen; omega) (Nat.le_refl _) ?_; intro w3 ho3 hg3)
  have HO3 := hid ho3
  have HB3 := hid (HB.out.trans ((show Below w2.heap.size w2 w3 from ⟨hg3.os, hg3.tape, hg3.output, hg3.size, fun b hb => hg3.block b hb (by simp)⟩).mono hb2))
  have HB23 := hid (show Below w2.heap.size w2 w3 from ⟨hg3.os, hg3.tape, hg3.output, hg3.size, fun b hb => hg3.block b hb (by simp)⟩)
  have hlm := ho3.1
  obtain ⟨XS, hXS⟩ : ∃ XS, XS = (madeCells (Value.agg #[.int .i32 0, .int .i32 0]).cells (k * 2)).toList := ⟨_, rfl⟩
  rw [← hXS] at HO3 hlm
  clear ho3 hg3 hXS
  have hg2 : w2.heap.size < w3.heap.size := by
    have := own_lt HO3.out (k := w2.heap.size) rfl
    exact this
  go_wp2_with fail
  go_loopg [7] k (fun kx s7 wr => ∃ (i : Nat) (rest : List Value), s7 = .int .i64 i ∧ i ≤ k ∧ k - i ≤ kx ∧ rest.length = 2 * (k - i) ∧ Hid (wr.ownsRow w2.heap.size 40 2 (.slice (some ⟨w2.heap.size, 0, none⟩) k k) k ((manyF 0 i).flatMap rgCells ++ rest)) ∧ Hid (Below w2.heap.size w2 wr))
  case atStart => exact ⟨0, XS, rfl, Nat.zero_le _, by omega, by omega, HO3.out, HB23.out⟩
  case round =>
    obtain ⟨i, rest, rfl, hi1, hg, hrl, HROW, HBR⟩ := hrel
    by_cases hlt : i < k
    · have hlt' : (i : Int) < (k : Int) := by omega
      obtain ⟨i1, hi1e⟩ : ∃ i1, i1 = i + 1 := ⟨_, rfl⟩
      have hii : (i : Int) + 1 = (i1 : Int) := by omega
      have e1 : IntKind.i32.wrap (3 * (i : Int)) = 3 * (i : Int) := wrap32 (by omega) (by omega)
      have e2 : IntKind.i32.wrap (3 * (i : Int) + 1) = 3 * (i : Int) + 1 := wrap32 (by omega) (by omega)
      obtain ⟨r0, r1, rest', rfl⟩ : ∃ r0 r1 rest', rest = r0 :: r1 :: rest' := by
        rcases rest with _ | ⟨r0, _ | ⟨r1, rest'⟩⟩
        · simp at hrl; omega
        · simp at hrl; omega
        · exact ⟨r0, r1, rest', rfl⟩
      have hpl : i * 2 = ((manyF 0 i).flatMap rgCells).length := by rw [rgCells_len, many_len]
      have hst := ((HROW.out.stored (i * 2) (.int .i32 (3 * (i : Int)))).1.stored (i * 2 + 1) (.int .i32 (3 * (i : Int) + 1))).1
      rw [set_two _ _ _ _ _ _ _ hpl] at hst
      have hsn : (manyF 0 i1).flatMap rgCells = (manyF 0 i).flatMap rgCells ++ [.int .i32 (3 * (i : Int)), .int .i32 (3 * (i : Int) + 1)] := by
        rw [hi1e, many_snoc, List.flatMap_append, Nat.zero_add]
        rfl
      rw [← hsn] at hst
      have HST := hid hst
      have c0 : wr.cell? ⟨w2.heap.size, i * 2, none⟩ = some r0 := (HROW.out.cellAt (i * 2) (by omega)).trans (by rw [List.getElem?_append_right (by omega), ← hpl, Nat.sub_self]; rfl)
      have c1 : wr.cell? ⟨w2.heap.size, i * 2 + 1, none⟩ = some r1 := (HROW.out.cellAt (i * 2 + 1) (by omega)).trans (by rw [List.getElem?_append_right (by omega), ← hpl, show i * 2 + 1 - i * 2 = 1 by omega]; rfl)
      have f0 := HROW.out.frozenAt (i * 2)
      have f1 := HROW.out.frozenAt (i * 2 + 1)
      have HB2 := hid ((HBR.out.setCell (p := ⟨w2.heap.size, i * 2, none⟩) (Nat.le_refl _) (.int .i32 (3 * (i : Int)))).setCell (p := ⟨w2.heap.size, i * 2 + 1, none⟩) (Nat.le_refl _) (.int .i32 (3 * (i : Int) + 1)))
      have HI1 := hid hi1e
      have HRL := hid (show rest'.length = 2 * (k - i1) by simp only [List.length_cons] at hrl; omega)
      clear hi1e hst hsn hpl hrl
      go_wp2_with fail
      go_roundg (k - i1)
      case measure => have := HI1.out; omega
      case rel => exact ⟨i1, rest', rfl, by have := HI1.out; omega, Nat.le_refl _, HRL.out, HST, HB2⟩
    · obtain rfl : i = k := by omega
      have hrn : rest = [] := List.eq_nil_of_length_eq_zero (by omega)
      subst hrn
      rw [List.append_nil] at HROW
      have HR := hid (RR.of_own HROW.out)
      have HF := hid (Flat.of_own HROW.out)
      have HWR := hid (HB.out.trans (HBR.out.mono hb2))
      have hsr := HWR.out.size
      have HK := hid hk
      clear hrl
      have hml : (manyF 0 i).length = i := many_len i 0
      go_wp2_with fail
      refine (make_any _ i i (manyF 0 i) wr HR.out HF.out (by omega)).mono ?_
      rintro e w4 ⟨A4, n4, c4, rfl, hr4, hb⟩
      have HB4 := hid (HWR.out.trans (hb.mono hsr))
      clear hb
      have hs4 := HB4.out.size
      by_cases hbig : 1000 < i
      · have hbig' : (1000 : Int) < (i : Int) := by omega
        have hmk : makeR (manyF 0 i) = ([], 3) := by unfold makeR; rw [if_pos (by rw [hml]; exact hbig)]
        rw [hmk] at hr4
        rw [hmk]
        obtain rfl : n4 = 0 := hr4.1
        clear hml hmk hr4
        go_wp2_with fail
        go_ret
        exact ⟨rfl, HB4.out⟩
      · have hbig' : ¬ (1000 : Int) < (i : Int) := by omega
        have hrt : rightR (manyF 0 i) := many_right i 0 (-1) (by omega) (by omega)
        have hmk : makeR (manyF 0 i) = (manyF 0 i, 0) := by
          unfold makeR
          rw [if_neg (by rw [hml]; exact hbig), if_neg, many_gath (by omega)]
          rw [badB_none fun j hj => decide_eq_true (right_ok hrt _ (List.getElem_mem hj))]
          decide
        rw [hmk] at hr4
        rw [hmk]
        have hn4 : n4 = i := hr4.1.trans hml
        subst hn4
        have HR4 := hid hr4
        have H32 := hid (in32_of_ok (right_ok hrt))
        have HKN := hid (knownL_of hrt)
        have H1 := hid (many_one (k := n4) (by omega))
        have H2 := hid (many_two (k := n4) (by omega))
        have HC := hid (many_count n4 0)
        have hee : ((n4 : Int) == (n4 : Int)) = true := by simp
        have hee2 : (2 * (n4 : Int) == 2 * (n4 : Int)) = true := by simp
        generalize manyF 0 n4 = G at *
        clear hml hmk hr4 hrt
        go_wp2_with fail
        refine (union_any none 0 0 [] w4 (RRs.nil _) (by decide) (by decide)).mono ?_
        rintro e w5 ⟨u, hu1, hu2, A5, n5, c5, rfl, hr5, hb⟩
        have hu : u = [] := right_none hu1 fun r q => by obtain ⟨l, hl, _⟩ := (hu2 r).1 q; cases hl
        subst hu
        obtain rfl : n5 = 0 := hr5.1
        have HB5 := hid (HB4.out.trans (hb.mono hs4))
        have HS5 := hid (HR4.out.below hb (Nat.le_refl _))
        have hs5 := HB5.out.size
        clear hu1 hu2 hr5 hb
        go_wp2_with fail
        refine (has_any none 0 0 [] r w5 (RR.nil _) (by decide) (fun x hx => by cases hx) hr.1 hr.2).mono ?_
        rintro e w6 ⟨rfl, hb⟩
        have HB6 := hid (HB5.out.trans (hb.mono hs5))
        have HS6 := hid (HS5.out.below hb (Nat.le_refl _))
        have hs6 := HB6.out.size
        clear hb
        rw [show inB (knownL []) r = false from rfl]
        go_wp2_with fail
        refine (print_any none 0 0 [] w6 (RR.nil _) (by decide) (fun x hx => by cases hx) (HDB.out.below HB6.out (Nat.le_refl _))).mono ?_
        rintro e w7 ⟨rfl, hb⟩
        have HB7 := hid (HB6.out.trans (hb.mono hs6))
        have HS7 := hid (HS6.out.below hb (Nat.le_refl _))
        have hs7 := HB7.out.size
        clear hb
        rw [show mkB (printD (knownL [])) = ⟨#[110, 111, 110, 101]⟩ from rfl]
        go_wp2_with fail
        refine (has_any A4 n4 c4 G 1 w7 HS7.out (by omega) H32.out (by decide) (by decide)).mono ?_
        rintro e w8 ⟨rfl, hb⟩
        have HB8 := hid (HB7.out.trans (hb.mono hs7))
        have HS8 := hid (HS7.out.below hb (Nat.le_refl _))
        have hs8 := HB8.out.size
        clear hb
        rw [HKN.out, H1.out]
        go_wp2_with fail
        refine (has_any A4 n4 c4 G 2 w8 HS8.out (by omega) H32.out (by decide) (by decide)).mono ?_
        rintro e w9 ⟨rfl, hb⟩
        have HB9 := hid (HB8.out.trans (hb.mono hs8))
        have HS9 := hid (HS8.out.below hb (Nat.le_refl _))
        have hs9 := HB9.out.size
        clear hb
        rw [HKN.out, H2.out]
        have HCC := hid (count_any A4 n4 c4 G w9 HS9.out (by omega) H32.out)
        rw [HKN.out, HC.out] at HCC
        go_wp2_with fail
        refine HCC.out.mono ?_
        rintro e w10 ⟨rfl, hb⟩
        have HB10 := hid (HB9.out.trans (hb.mono hs9))
        clear hb
        go_wp2_with fail
        go_ret
        exact ⟨rfl, HB10.out⟩
end Go.Proofs.YteddhjfbnanplaaDoor.rangesMany
