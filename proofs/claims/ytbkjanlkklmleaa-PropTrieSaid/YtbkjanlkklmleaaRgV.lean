/- Chapter 02: merge: the walk. -/
import Derived.Test.YtbkjanlkklmleaaRgT
import Derived.Test.YtbkjanlkklmleaaRgH
import Derived.StillTailTactics
import Derived.Outline
namespace Go.Proofs.Ytbkjanlkklmleaa
open Go.RowKit
open Go.Lib (hid)
set_option linter.unusedVariables false
set_option maxRecDepth 100000

/-- The ends so far are numbers. -/
def EndsN (o : List Rg) : Prop := ∀ x ∈ o, 0 ≤ x.2 ∧ x.2 ≤ 1114111
theorem EndsN.snoc {o : List Rg} {z : Rg} (h : EndsN o) (h1 : 0 ≤ z.2) (h2 : z.2 ≤ 1114111) : EndsN (o ++ [z]) := fun x hx => by
  rcases List.mem_append.1 hx with hx | hx
  · exact h x hx
  · rw [List.mem_singleton.1 hx]; exact ⟨h1, h2⟩
theorem EndsN.init {o : List Rg} {z : Rg} (h : EndsN (o ++ [z])) : EndsN o := fun x hx => h x (List.mem_append_left _ hx)
set_option maxHeartbeats 8000000 in
theorem mergeW_any (A : Option Addr) (n c : Nat) (l : List Rg) (w : World) (hl : RR w A n c l) (hf : Flat A) (hn : n ≤ 900000) (hok : ∀ x ∈ l, okR x) :
    Calls Try.prog 35 #[.slice A n c] w fun e w' => ∃ k : List Rg, k.Perm l ∧ k.Pairwise (fun x y => x.1 ≤ y.1) ∧ RetW w e w' (mergeR k) := by
  obtain ⟨i0, hi, hz0, hz1, hz2⟩ := info_parts info_rg
  have HL := hid hl
  have HOK := hid hok
  have HF := hid hf
  have HNL := hid hl.1
  clear hl hok hf
  go_enter Try.func35, Try.ntmps35
  go_wp2_with fail
  refine (clone_any A n c l w HL.out HF.out (by omega)).mono ?_
  rintro e w1 ⟨A1, n1, c1, rfl, ho1, hb1⟩
  have hn1 : n1 = n := by have := ho1.1; rw [rgCells_len] at this; have := HNL.out; omega
  subst hn1
  have HO1 := hid ho1
  have HB1 := hid hb1
  clear ho1 hb1
  go_wp2_with fail
  refine (sort_any A1 w.heap.size n1 c1 _ l w1 HO1.out HB1.out.size HOK.out (by omega)).mono ?_
  rintro e w2 ⟨rfl, k, hk1, hk2, hk3, hk4⟩
  have HK1 := hid hk1
  have HK2 := hid hk2
  have HR := hid hk3
  have HNK := hid hk3.1
  have hcap := hk3.2.1
  have hcm := hk3.2.2.1
  have HB2 := hid (HB1.out.trans hk4)
  have HOKK := hid (fun x (hx : x ∈ k) => HOK.out x (hk1.mem_iff.1 hx))
  clear hk1 hk2 hk3 hk4
  have hB2 := HB2.out.size
  go_wp2_with fail
  go_loopg [3, 13] n1 (fun kx s3 s13 wr => ∃ (i n c : Nat) (A : Option Addr) (out : List Rg), s3 = .slice A n c ∧ s13 = .int .i64 i ∧ i ≤ n1 ∧ n1 - i ≤ kx ∧ n ≤ i ∧ Hid (n = out.length) ∧ Hid (wr.ownsRow w2.heap.size 48 2 (.slice A n c) n (out.flatMap rgCells)) ∧ Hid (Below w2.heap.size w2 wr) ∧ Hid (k.foldl mrgS [] = (k.drop i).foldl mrgS out) ∧ Hid (EndsN out))
  case atStart => exact ⟨0, 0, 0, none, [], rfl, rfl, Nat.zero_le _, by omega, Nat.zero_le _, rfl, World.ownsRow_nil _ _ _ _, Below.refl _ _, rfl, fun x hx => by cases hx⟩
  case round =>
    obtain ⟨i, n, c, A, out, rfl, rfl, hi1, hg, hni, HNO, HROW, HB, HG, HE⟩ := hrel
    have hszr := HB.out.size
    by_cases hlt : i < n1
    · have hlt' : (i : Int) < (n1 : Int) := by omega
      have hil : i < k.length := by have := HNK.out; omega
      obtain ⟨b, off, rfl, hbl, hc⟩ := HR.out.2.2.2 (by omega)
      obtain ⟨c0, c1⟩ := hc i hil
      have c0 := (HB.out.cell (p := ⟨b, _, none⟩) hbl).trans c0
      have c1 := (HB.out.cell (p := ⟨b, _, none⟩) hbl).trans c1
      have hkx := HOKK.out k[i] (List.getElem_mem hil)
      have hdr : (k.drop i).foldl mrgS out = (k.drop (i + 1)).foldl mrgS (mrgS out k[i]) := by rw [List.drop_eq_getElem_cons hil, List.foldl_cons]
      generalize k[i] = x at *
      obtain ⟨lo, hi2⟩ := x
      obtain ⟨k1, k2, k3⟩ := hkx
      simp only at c0 c1 k1 k2 k3
      have HDR := hid (HG.out.trans hdr)
      clear hc hdr
      rcases list_snoc out with ho | ⟨o, z, ho⟩
      · subst ho
        obtain rfl : n = 0 := HNO.out
        have HN := hid (HDR.out.trans (congrArg (fun o => (k.drop (i + 1)).foldl mrgS o) (mrgS_nil (lo, hi2))))
        have hx0 : (wr.alloc (.cells #[.int .i32 lo, .int .i32 hi2] 48)).cell? ⟨wr.heap.size, 0, none⟩ = some (.int .i32 lo) := (Blk.new wr _ _).cell 0
        have hx1 : (wr.alloc (.cells #[.int .i32 lo, .int .i32 hi2] 48)).cell? ⟨wr.heap.size, 1, none⟩ = some (.int .i32 hi2) := (Blk.new wr _ _).cell 1
        have HROW3 := hid (show (wr.alloc (.cells #[.int .i32 lo, .int .i32 hi2] 48)).ownsRow w2.heap.size 48 2 (.slice A 0 c) 0 (([] : List Rg).flatMap rgCells) from HROW.out.alloc _)
        have HB3 := hid (HB.out.alloc hszr (.cells #[.int .i32 lo, .int .i32 hi2] 48))
        go_upto_region 8 with fail
        generalize wr.alloc (.cells #[.int .i32 lo, .int .i32 hi2] 48) = w5 at *
        refine wp_region_held_drew (S := fun w' : World => w'.cell? ⟨wr.heap.size, 0, none⟩ = some (.int .i32 lo)) (by kernel_rfl) hx0 (fun hHeld => ?_)
        refine wpAnyH_take (i := 0) (v := ?hv1) rfl (by kernel_rfl) (by kernel_rfl) (by kernel_rfl) (fun _ _ _ h => h) (Or.inl ⟨by rfl, ?hy1⟩) (by assumption) ?hr1
        case hy1 => (intro w hSw; (try dsimp only at hSw); go_simp; try with_reducible rfl)
        (try simp only [Act.put, List.getElem_toArray, List.getElem_cons_zero, List.setIfInBounds_toArray, List.set_cons_zero, List.set_cons_succ])
        refine wpAnyH_take (i := 1) (v := ?hv2) rfl (by kernel_rfl) (by kernel_rfl) (by kernel_rfl) (fun _ _ _ h => h) (Or.inl ⟨by rfl, ?hy2⟩) (by assumption) ?hr2
        case hy2 => (intro w hSw; (try dsimp only at hSw); go_simp; try with_reducible rfl)
        (try simp only [Act.put, List.getElem_toArray, List.getElem_cons_zero, List.getElem_cons_succ, List.setIfInBounds_toArray, List.set_cons_zero, List.set_cons_succ])
        refine wpAnyH_take (i := 2) (v := ?hv3) rfl (by kernel_rfl) (by kernel_rfl) (by kernel_rfl) (fun _ _ _ h => h) (Or.inl ⟨by rfl, ?hy3⟩) (by assumption) ?hr3
        case hy3 => (intro w hSw; (try dsimp only at hSw); go_simp; try with_reducible rfl)
        (try simp only [Act.put, List.getElem_toArray, List.getElem_cons_zero, List.getElem_cons_succ, List.setIfInBounds_toArray, List.set_cons_zero, List.set_cons_succ])
        refine wpAnyH_take (i := 3) (v := undef) rfl (by kernel_rfl) (by kernel_rfl) (by kernel_rfl) (fun _ _ _ h => h) (Or.inr ⟨by rfl, rfl⟩) (by assumption) ?_
        (try simp only [Act.put, List.getElem_toArray, List.getElem_cons_zero, List.getElem_cons_succ, List.setIfInBounds_toArray, List.set_cons_zero, List.set_cons_succ])
        refine wpAnyH_take (i := 4) (v := undef) rfl (by kernel_rfl) (by kernel_rfl) (by kernel_rfl) (fun _ _ _ h => h) (Or.inr ⟨by rfl, rfl⟩) (by assumption) ?_
        (try simp only [Act.put, List.getElem_toArray, List.getElem_cons_zero, List.getElem_cons_succ, List.setIfInBounds_toArray, List.set_cons_zero, List.set_cons_succ])
        refine wpAnyH_take (i := 5) (v := undef) rfl (by kernel_rfl) (by kernel_rfl) (by kernel_rfl) (fun _ _ _ h => h) (Or.inr ⟨by rfl, rfl⟩) (by assumption) ?_
        (try simp only [Act.put, List.getElem_toArray, List.getElem_cons_zero, List.getElem_cons_succ, List.setIfInBounds_toArray, List.set_cons_zero, List.set_cons_succ])
        refine wpAnyH_take (i := 6) (v := undef) rfl (by kernel_rfl) (by kernel_rfl) (by kernel_rfl) (fun _ _ _ h => h) (Or.inr ⟨by rfl, rfl⟩) (by assumption) ?_
        (try simp only [Act.put, List.getElem_toArray, List.getElem_cons_zero, List.getElem_cons_succ, List.setIfInBounds_toArray, List.set_cons_zero, List.set_cons_succ])
        refine wpAnyH_take (i := 7) (v := undef) rfl (by kernel_rfl) (by kernel_rfl) (by kernel_rfl) (fun _ _ _ h => h) (Or.inr ⟨by rfl, rfl⟩) (by assumption) ?_
        (try simp only [Act.put, List.getElem_toArray, List.getElem_cons_zero, List.getElem_cons_succ, List.setIfInBounds_toArray, List.set_cons_zero, List.set_cons_succ])
        refine wpAnyH_take (i := 8) (v := undef) rfl (by kernel_rfl) (by kernel_rfl) (by kernel_rfl) (fun _ _ _ h => h) (Or.inr ⟨by rfl, rfl⟩) (by assumption) ?_
        (try simp only [Act.put, List.getElem_toArray, List.getElem_cons_zero, List.getElem_cons_succ, List.setIfInBounds_toArray, List.set_cons_zero, List.set_cons_succ])
        refine wpAnyH_take (i := 9) (v := undef) rfl (by kernel_rfl) (by kernel_rfl) (by kernel_rfl) (fun _ _ _ h => h) (Or.inr ⟨by rfl, rfl⟩) (by assumption) ?_
        (try simp only [Act.put, List.getElem_toArray, List.getElem_cons_zero, List.getElem_cons_succ, List.setIfInBounds_toArray, List.set_cons_zero, List.set_cons_succ])
        refine wpAnyH_take (i := 10) (v := undef) rfl (by kernel_rfl) (by kernel_rfl) (by kernel_rfl) (fun _ _ _ h => h) (Or.inr ⟨by rfl, rfl⟩) (by assumption) ?_
        (try simp only [Act.put, List.getElem_toArray, List.getElem_cons_zero, List.getElem_cons_succ, List.setIfInBounds_toArray, List.set_cons_zero, List.set_cons_succ])
        refine wpAnyH_take (i := 11) (v := undef) rfl (by kernel_rfl) (by kernel_rfl) (by kernel_rfl) (fun _ _ _ h => h) (Or.inr ⟨by rfl, rfl⟩) (by assumption) ?_
        (try simp only [Act.put, List.getElem_toArray, List.getElem_cons_zero, List.getElem_cons_succ, List.setIfInBounds_toArray, List.set_cons_zero, List.set_cons_succ])
        refine wpAnyH_take (i := 12) (v := undef) rfl (by kernel_rfl) (by kernel_rfl) (by kernel_rfl) (fun _ _ _ h => h) (Or.inr ⟨by rfl, rfl⟩) (by assumption) ?_
        (try simp only [Act.put, List.getElem_toArray, List.getElem_cons_zero, List.getElem_cons_succ, List.setIfInBounds_toArray, List.set_cons_zero, List.set_cons_succ])
        refine wpAnyH_take (i := 13) (v := ?hv4) rfl (by kernel_rfl) (by kernel_rfl) (by kernel_rfl) (fun _ _ _ h => h) (Or.inl ⟨by rfl, ?hy4⟩) (by assumption) ?hr4
        case hy4 => (intro w hSw; (try dsimp only at hSw); go_simp; try with_reducible rfl)
        (try simp only [Act.put, List.getElem_toArray, List.getElem_cons_zero, List.getElem_cons_succ, List.setIfInBounds_toArray, List.set_cons_zero, List.set_cons_succ])
        refine wpAnyH_done (by kernel_rfl) ?_ _
        clear hHeld
        have HROW6 := hid (show w5.drew.ownsRow w2.heap.size 48 2 (.slice A 0 c) 0 (([] : List Rg).flatMap rgCells) from HROW3.out)
        have HB6 := hid HB3.out.drew
        have y0 : w5.drew.cell? ⟨wr.heap.size, 0, none⟩ = some (.int .i32 lo) := hx0
        have y1 : w5.drew.cell? ⟨wr.heap.size, 1, none⟩ = some (.int .i32 hi2) := hx1
        generalize w5.drew = w6 at *
        have hs6 := HB6.out.size
        go_wp2_with (at_builtin; refine wpList_append_any _ rfl (.tmp 47) (.tmp 49) 23 rfl w2.heap.size 48 i0 (.agg #[.int .i32 0, .int .i32 0]) 2 8 Try.underlying23 hi hz0 hz1 hz2 rfl (by decide) _ 0 (([] : List Rg).flatMap rgCells) rfl (HROW6.out.alloc _) _ _ 1 1 [.int .i32 lo, .int .i32 hi2] rfl (reads_blk2 (Blk.new w6 _ _)) (by simp [Value.oneCell']) (by unfold maxLen; omega) (by omega) (by simp; omega) ?_; intro v1 w7 ho7 hg7 hq7; have HB7 := hid ((HB6.out.alloc HB6.out.size _).grown hg7 (by simp; omega) (own_ge HROW6.out)); obtain ⟨A7, c7, rfl⟩ := owns_slice ho7; have HO7 := hid ho7; clear ho7 hg7 hq7)
        go_roundg (n1 - (i + 1))
        case measure => omega
        case rel => exact ⟨i + 1, 0 + 1, c7, A7, ([] : List Rg) ++ [(lo, hi2)], rfl, by go_num, by omega, Nat.le_refl _, by omega, rfl, (by show World.ownsRow _ _ _ _ _ _ _; rw [flat_snoc]; exact HO7.out), HB7.out, HN, HE.out.snoc (by show 0 ≤ hi2; omega) k3⟩
      · subst ho
        have hx0 : (wr.alloc (.cells #[.int .i32 lo, .int .i32 hi2] 48)).cell? ⟨wr.heap.size, 0, none⟩ = some (.int .i32 lo) := (Blk.new wr _ _).cell 0
        have hx1 : (wr.alloc (.cells #[.int .i32 lo, .int .i32 hi2] 48)).cell? ⟨wr.heap.size, 1, none⟩ = some (.int .i32 hi2) := (Blk.new wr _ _).cell 1
        have HROW3 := hid (show (wr.alloc (.cells #[.int .i32 lo, .int .i32 hi2] 48)).ownsRow w2.heap.size 48 2 (.slice A n c) n ((o ++ [z]).flatMap rgCells) from HROW.out.alloc _)
        have HB3 := hid (HB.out.alloc hszr (.cells #[.int .i32 lo, .int .i32 hi2] 48))
        go_upto_region 8 with fail
        generalize wr.alloc (.cells #[.int .i32 lo, .int .i32 hi2] 48) = w5 at *
        obtain ⟨g, rfl, hgB, hgs, hnl, z0, z1, zf, zst⟩ := own_last HROW3.out
        obtain ⟨m, hm⟩ : ∃ m, m = o.length := ⟨_, rfl⟩
        rw [← hm] at hnl z0 z1 zf zst
        have HM := hid hm
        obtain ⟨e1, e2⟩ := HE.out z (by simp)
        have hn0 : (0 : Int) < (n : Int) := by omega
        have hwn : IntKind.i64.wrap ((n : Int) - 1) = (m : Int) := by rw [IntWalk.i64_in _ (by omega)]; omega
        have hnd : decide (0 < n) = true := decide_eq_true (by omega)
        have hm0 : (0 : Int) ≤ (m : Int) := by omega
        have hm2 : ((m : Int)).toNat = m := by omega
        have hmn : (m : Int) < (n : Int) := by omega
        have HST := hid zst
        have HNL := hid hnl
        obtain ⟨zl, zh⟩ := z
        simp only at z0 z1 e1 e2
        obtain ⟨ze, hze⟩ : ∃ ze, ze = zh + 1 := ⟨_, rfl⟩
        have hwz : IntKind.i32.wrap (zh + 1) = ze := by rw [hze]; exact wrap32 (by omega) (by omega)
        have HZE := hid hze
        clear hm zst hnl hze
        by_cases hz : lo ≤ ze
        · have HN := hid (HDR.out.trans (congrArg (fun o => (k.drop (i + 1)).foldl mrgS o) (mrgS_on (o := o) (z := (zl, zh)) (x := (lo, hi2)) (HZE.out ▸ hz))))
          have hzd : decide (lo ≤ ze) = true := decide_eq_true hz
          clear hz
          refine wp_region_held_drew (S := fun w' : World => w'.cell? ⟨wr.heap.size, 0, none⟩ = some (.int .i32 lo) ∧ w'.cell? ⟨g, m * 2 + 1, none⟩ = some (.int .i32 zh)) (by kernel_rfl) ⟨hx0, z1⟩ (fun hHeld => ?_)
          refine wpAnyH_take (i := 0) (v := ?hv5) rfl (by kernel_rfl) (by kernel_rfl) (by kernel_rfl) (fun _ _ _ h => h) (Or.inl ⟨by rfl, ?hy5⟩) (by assumption) ?hr5
          case hy5 => (intro w hSw; (try dsimp only at hSw); go_simp; try with_reducible rfl)
          (try simp only [Act.put, List.getElem_toArray, List.getElem_cons_zero, List.setIfInBounds_toArray, List.set_cons_zero, List.set_cons_succ])
          refine wpAnyH_take (i := 1) (v := ?hv6) rfl (by kernel_rfl) (by kernel_rfl) (by kernel_rfl) (fun _ _ _ h => h) (Or.inl ⟨by rfl, ?hy6⟩) (by assumption) ?hr6
          case hy6 => (intro w hSw; (try dsimp only at hSw); go_simp; try with_reducible rfl)
          (try simp only [Act.put, List.getElem_toArray, List.getElem_cons_zero, List.getElem_cons_succ, List.setIfInBounds_toArray, List.set_cons_zero, List.set_cons_succ])
          try simp only [hnd]
          refine wpAnyH_take (i := 2) (v := ?hv7) rfl (by kernel_rfl) (by kernel_rfl) (by kernel_rfl) (fun _ _ _ h => h) (Or.inl ⟨by rfl, ?hy7⟩) (by assumption) ?hr7
          case hy7 => (intro w hSw; (try dsimp only at hSw); go_simp; try with_reducible rfl)
          (try simp only [Act.put, List.getElem_toArray, List.getElem_cons_zero, List.getElem_cons_succ, List.setIfInBounds_toArray, List.set_cons_zero, List.set_cons_succ])
          refine wpAnyH_take (i := 3) (v := ?hv8) rfl (by kernel_rfl) (by kernel_rfl) (by kernel_rfl) (fun _ _ _ h => h) (Or.inl ⟨by rfl, ?hy8⟩) (by assumption) ?hr8
          case hy8 => (intro w hSw; (try dsimp only at hSw); go_simp; try with_reducible rfl)
          (try simp only [Act.put, List.getElem_toArray, List.getElem_cons_zero, List.getElem_cons_succ, List.setIfInBounds_toArray, List.set_cons_zero, List.set_cons_succ])
          refine wpAnyH_take (i := 4) (v := ?hv9) rfl (by kernel_rfl) (by kernel_rfl) (by kernel_rfl) (fun _ _ _ h => h) (Or.inl ⟨by rfl, ?hy9⟩) (by assumption) ?hr9
          case hy9 => (intro w hSw; (try dsimp only at hSw); go_simp; try with_reducible rfl)
          (try simp only [Act.put, List.getElem_toArray, List.getElem_cons_zero, List.getElem_cons_succ, List.setIfInBounds_toArray, List.set_cons_zero, List.set_cons_succ])
          refine wpAnyH_take (i := 5) (v := ?hv10) rfl (by kernel_rfl) (by kernel_rfl) (by kernel_rfl) (fun _ _ _ h => h) (Or.inl ⟨by rfl, ?hy10⟩) (by assumption) ?hr10
          case hy10 => (intro w hSw; (try dsimp only at hSw); go_simp; try with_reducible rfl)
          (try simp only [Act.put, List.getElem_toArray, List.getElem_cons_zero, List.getElem_cons_succ, List.setIfInBounds_toArray, List.set_cons_zero, List.set_cons_succ])
          refine wpAnyH_take (i := 6) (v := ?hv11) rfl (by kernel_rfl) (by kernel_rfl) (by kernel_rfl) (fun _ _ _ h => h) (Or.inl ⟨by rfl, ?hy11⟩) (by assumption) ?hr11
          case hy11 => (intro w hSw; (try dsimp only at hSw); go_simp; try with_reducible rfl)
          (try simp only [Act.put, List.getElem_toArray, List.getElem_cons_zero, List.getElem_cons_succ, List.setIfInBounds_toArray, List.set_cons_zero, List.set_cons_succ])
          refine wpAnyH_take (i := 7) (v := ?hv12) rfl (by kernel_rfl) (by kernel_rfl) (by kernel_rfl) (fun _ _ _ h => h) (Or.inl ⟨by rfl, ?hy12⟩) (by assumption) ?hr12
          case hy12 => (intro w hSw; (try dsimp only at hSw); go_simp; try with_reducible rfl)
          (try simp only [Act.put, List.getElem_toArray, List.getElem_cons_zero, List.getElem_cons_succ, List.setIfInBounds_toArray, List.set_cons_zero, List.set_cons_succ])
          try simp only [hwn]
          refine wpAnyH_take (i := 8) (v := ?hv13) rfl (by kernel_rfl) (by kernel_rfl) (by kernel_rfl) (fun _ _ _ h => h) (Or.inl ⟨by rfl, ?hy13⟩) (by assumption) ?hr13
          case hy13 => (intro w hSw; (try dsimp only at hSw); go_simp; try with_reducible rfl)
          (try simp only [Act.put, List.getElem_toArray, List.getElem_cons_zero, List.getElem_cons_succ, List.setIfInBounds_toArray, List.set_cons_zero, List.set_cons_succ])
          refine wpAnyH_take (i := 9) (v := ?hv14) rfl (by kernel_rfl) (by kernel_rfl) (by kernel_rfl) (fun _ _ _ h => h) (Or.inl ⟨by rfl, ?hy14⟩) (by assumption) ?hr14
          case hy14 => (intro w hSw; (try dsimp only at hSw); go_simp; try with_reducible rfl)
          (try simp only [Act.put, List.getElem_toArray, List.getElem_cons_zero, List.getElem_cons_succ, List.setIfInBounds_toArray, List.set_cons_zero, List.set_cons_succ])
          refine wpAnyH_take (i := 10) (v := ?hv15) rfl (by kernel_rfl) (by kernel_rfl) (by kernel_rfl) (fun _ _ _ h => h) (Or.inl ⟨by rfl, ?hy15⟩) (by assumption) ?hr15
          case hy15 => (intro w hSw; (try dsimp only at hSw); go_simp; try with_reducible rfl)
          (try simp only [Act.put, List.getElem_toArray, List.getElem_cons_zero, List.getElem_cons_succ, List.setIfInBounds_toArray, List.set_cons_zero, List.set_cons_succ])
          refine wpAnyH_take (i := 11) (v := ?hv16) rfl (by kernel_rfl) (by kernel_rfl) (by kernel_rfl) (fun _ _ _ h => h) (Or.inl ⟨by rfl, ?hy16⟩) (by assumption) ?hr16
          case hy16 => (intro w hSw; (try dsimp only at hSw); go_simp; try with_reducible rfl)
          (try simp only [Act.put, List.getElem_toArray, List.getElem_cons_zero, List.getElem_cons_succ, List.setIfInBounds_toArray, List.set_cons_zero, List.set_cons_succ])
          try simp only [hwz]
          refine wpAnyH_take (i := 12) (v := ?hv17) rfl (by kernel_rfl) (by kernel_rfl) (by kernel_rfl) (fun _ _ _ h => h) (Or.inl ⟨by rfl, ?hy17⟩) (by assumption) ?hr17
          case hy17 => (intro w hSw; (try dsimp only at hSw); go_simp; try with_reducible rfl)
          (try simp only [Act.put, List.getElem_toArray, List.getElem_cons_zero, List.getElem_cons_succ, List.setIfInBounds_toArray, List.set_cons_zero, List.set_cons_succ])
          try simp only [hzd]
          refine wpAnyH_take (i := 13) (v := ?hv18) rfl (by kernel_rfl) (by kernel_rfl) (by kernel_rfl) (fun _ _ _ h => h) (Or.inl ⟨by rfl, ?hy18⟩) (by assumption) ?hr18
          case hy18 => (intro w hSw; (try dsimp only at hSw); go_simp; try with_reducible rfl)
          (try simp only [Act.put, List.getElem_toArray, List.getElem_cons_zero, List.getElem_cons_succ, List.setIfInBounds_toArray, List.set_cons_zero, List.set_cons_succ])
          refine wpAnyH_done (by kernel_rfl) ?_ _
          clear hHeld
          have HB6 := hid HB3.out.drew
          have y0 : w5.drew.cell? ⟨wr.heap.size, 0, none⟩ = some (.int .i32 lo) := hx0
          have y1 : w5.drew.cell? ⟨wr.heap.size, 1, none⟩ = some (.int .i32 hi2) := hx1
          have y2 : w5.drew.cell? ⟨g, m * 2 + 1, none⟩ = some (.int .i32 zh) := z1
          have yf : w5.drew.frozen? ⟨g, m * 2 + 1, none⟩ = false := zf
          have HST6 := hid (fun y => show (w5.drew.setCell _ _).ownsRow _ _ _ _ _ _ from HST.out y)
          clear hx0 hx1 z0 z1 zf HST
          generalize w5.drew = w6 at *
          go_upto_region 9 with fail
          go_still_tail 14, (by kernel_rfl)
          change wpList _ _ _ _ _ w6.drew
          have yc2 : w6.drew.cell? ⟨g, m * 2 + 1, none⟩ = some (.int .i32 zh) := y2
          have yf2 : w6.drew.frozen? ⟨g, m * 2 + 1, none⟩ = false := yf
          have HST7 := hid (fun y => show (w6.drew.setCell _ _).ownsRow _ _ _ _ _ _ from HST6.out y)
          have HB7 := hid HB6.out.drew
          generalize w6.drew = w8 at *
          go_wp2_with fail
          go_roundg (n1 - (i + 1))
          case measure => omega
          case rel => exact ⟨i + 1, n, c, some ⟨g, 0, none⟩, o ++ [(zl, max zh hi2)], rfl, by go_num, by omega, Nat.le_refl _, by omega, (by show n = _; rw [HNO.out, List.length_append, List.length_append]; rfl), HST7.out _, HB7.out.setCell (p := ⟨g, m * 2 + 1, none⟩) hgB _, HN, HE.out.init.snoc (by show 0 ≤ max zh hi2; omega) (by show max zh hi2 ≤ _; omega)⟩
        · have HN := hid (HDR.out.trans (congrArg (fun o => (k.drop (i + 1)).foldl mrgS o) (mrgS_new (o := o) (z := (zl, zh)) (x := (lo, hi2)) (fun e => hz (HZE.out ▸ e)))))
          have hzd : decide (lo ≤ ze) = false := decide_eq_false hz
          clear hz
          refine wp_region_held_drew (S := fun w' : World => w'.cell? ⟨wr.heap.size, 0, none⟩ = some (.int .i32 lo) ∧ w'.cell? ⟨g, m * 2 + 1, none⟩ = some (.int .i32 zh)) (by kernel_rfl) ⟨hx0, z1⟩ (fun hHeld => ?_)
          refine wpAnyH_take (i := 0) (v := ?hv19) rfl (by kernel_rfl) (by kernel_rfl) (by kernel_rfl) (fun _ _ _ h => h) (Or.inl ⟨by rfl, ?hy19⟩) (by assumption) ?hr19
          case hy19 => (intro w hSw; (try dsimp only at hSw); go_simp; try with_reducible rfl)
          (try simp only [Act.put, List.getElem_toArray, List.getElem_cons_zero, List.setIfInBounds_toArray, List.set_cons_zero, List.set_cons_succ])
          refine wpAnyH_take (i := 1) (v := ?hv20) rfl (by kernel_rfl) (by kernel_rfl) (by kernel_rfl) (fun _ _ _ h => h) (Or.inl ⟨by rfl, ?hy20⟩) (by assumption) ?hr20
          case hy20 => (intro w hSw; (try dsimp only at hSw); go_simp; try with_reducible rfl)
          (try simp only [Act.put, List.getElem_toArray, List.getElem_cons_zero, List.getElem_cons_succ, List.setIfInBounds_toArray, List.set_cons_zero, List.set_cons_succ])
          try simp only [hnd]
          refine wpAnyH_take (i := 2) (v := ?hv21) rfl (by kernel_rfl) (by kernel_rfl) (by kernel_rfl) (fun _ _ _ h => h) (Or.inl ⟨by rfl, ?hy21⟩) (by assumption) ?hr21
          case hy21 => (intro w hSw; (try dsimp only at hSw); go_simp; try with_reducible rfl)
          (try simp only [Act.put, List.getElem_toArray, List.getElem_cons_zero, List.getElem_cons_succ, List.setIfInBounds_toArray, List.set_cons_zero, List.set_cons_succ])
          refine wpAnyH_take (i := 3) (v := ?hv22) rfl (by kernel_rfl) (by kernel_rfl) (by kernel_rfl) (fun _ _ _ h => h) (Or.inl ⟨by rfl, ?hy22⟩) (by assumption) ?hr22
          case hy22 => (intro w hSw; (try dsimp only at hSw); go_simp; try with_reducible rfl)
          (try simp only [Act.put, List.getElem_toArray, List.getElem_cons_zero, List.getElem_cons_succ, List.setIfInBounds_toArray, List.set_cons_zero, List.set_cons_succ])
          refine wpAnyH_take (i := 4) (v := ?hv23) rfl (by kernel_rfl) (by kernel_rfl) (by kernel_rfl) (fun _ _ _ h => h) (Or.inl ⟨by rfl, ?hy23⟩) (by assumption) ?hr23
          case hy23 => (intro w hSw; (try dsimp only at hSw); go_simp; try with_reducible rfl)
          (try simp only [Act.put, List.getElem_toArray, List.getElem_cons_zero, List.getElem_cons_succ, List.setIfInBounds_toArray, List.set_cons_zero, List.set_cons_succ])
          refine wpAnyH_take (i := 5) (v := ?hv24) rfl (by kernel_rfl) (by kernel_rfl) (by kernel_rfl) (fun _ _ _ h => h) (Or.inl ⟨by rfl, ?hy24⟩) (by assumption) ?hr24
          case hy24 => (intro w hSw; (try dsimp only at hSw); go_simp; try with_reducible rfl)
          (try simp only [Act.put, List.getElem_toArray, List.getElem_cons_zero, List.getElem_cons_succ, List.setIfInBounds_toArray, List.set_cons_zero, List.set_cons_succ])
          refine wpAnyH_take (i := 6) (v := ?hv25) rfl (by kernel_rfl) (by kernel_rfl) (by kernel_rfl) (fun _ _ _ h => h) (Or.inl ⟨by rfl, ?hy25⟩) (by assumption) ?hr25
          case hy25 => (intro w hSw; (try dsimp only at hSw); go_simp; try with_reducible rfl)
          (try simp only [Act.put, List.getElem_toArray, List.getElem_cons_zero, List.getElem_cons_succ, List.setIfInBounds_toArray, List.set_cons_zero, List.set_cons_succ])
          refine wpAnyH_take (i := 7) (v := ?hv26) rfl (by kernel_rfl) (by kernel_rfl) (by kernel_rfl) (fun _ _ _ h => h) (Or.inl ⟨by rfl, ?hy26⟩) (by assumption) ?hr26
          case hy26 => (intro w hSw; (try dsimp only at hSw); go_simp; try with_reducible rfl)
          (try simp only [Act.put, List.getElem_toArray, List.getElem_cons_zero, List.getElem_cons_succ, List.setIfInBounds_toArray, List.set_cons_zero, List.set_cons_succ])
          try simp only [hwn]
          refine wpAnyH_take (i := 8) (v := ?hv27) rfl (by kernel_rfl) (by kernel_rfl) (by kernel_rfl) (fun _ _ _ h => h) (Or.inl ⟨by rfl, ?hy27⟩) (by assumption) ?hr27
          case hy27 => (intro w hSw; (try dsimp only at hSw); go_simp; try with_reducible rfl)
          (try simp only [Act.put, List.getElem_toArray, List.getElem_cons_zero, List.getElem_cons_succ, List.setIfInBounds_toArray, List.set_cons_zero, List.set_cons_succ])
          refine wpAnyH_take (i := 9) (v := ?hv28) rfl (by kernel_rfl) (by kernel_rfl) (by kernel_rfl) (fun _ _ _ h => h) (Or.inl ⟨by rfl, ?hy28⟩) (by assumption) ?hr28
          case hy28 => (intro w hSw; (try dsimp only at hSw); go_simp; try with_reducible rfl)
          (try simp only [Act.put, List.getElem_toArray, List.getElem_cons_zero, List.getElem_cons_succ, List.setIfInBounds_toArray, List.set_cons_zero, List.set_cons_succ])
          refine wpAnyH_take (i := 10) (v := ?hv29) rfl (by kernel_rfl) (by kernel_rfl) (by kernel_rfl) (fun _ _ _ h => h) (Or.inl ⟨by rfl, ?hy29⟩) (by assumption) ?hr29
          case hy29 => (intro w hSw; (try dsimp only at hSw); go_simp; try with_reducible rfl)
          (try simp only [Act.put, List.getElem_toArray, List.getElem_cons_zero, List.getElem_cons_succ, List.setIfInBounds_toArray, List.set_cons_zero, List.set_cons_succ])
          refine wpAnyH_take (i := 11) (v := ?hv30) rfl (by kernel_rfl) (by kernel_rfl) (by kernel_rfl) (fun _ _ _ h => h) (Or.inl ⟨by rfl, ?hy30⟩) (by assumption) ?hr30
          case hy30 => (intro w hSw; (try dsimp only at hSw); go_simp; try with_reducible rfl)
          (try simp only [Act.put, List.getElem_toArray, List.getElem_cons_zero, List.getElem_cons_succ, List.setIfInBounds_toArray, List.set_cons_zero, List.set_cons_succ])
          try simp only [hwz]
          refine wpAnyH_take (i := 12) (v := ?hv31) rfl (by kernel_rfl) (by kernel_rfl) (by kernel_rfl) (fun _ _ _ h => h) (Or.inl ⟨by rfl, ?hy31⟩) (by assumption) ?hr31
          case hy31 => (intro w hSw; (try dsimp only at hSw); go_simp; try with_reducible rfl)
          (try simp only [Act.put, List.getElem_toArray, List.getElem_cons_zero, List.getElem_cons_succ, List.setIfInBounds_toArray, List.set_cons_zero, List.set_cons_succ])
          try simp only [hzd]
          refine wpAnyH_take (i := 13) (v := ?hv32) rfl (by kernel_rfl) (by kernel_rfl) (by kernel_rfl) (fun _ _ _ h => h) (Or.inl ⟨by rfl, ?hy32⟩) (by assumption) ?hr32
          case hy32 => (intro w hSw; (try dsimp only at hSw); go_simp; try with_reducible rfl)
          (try simp only [Act.put, List.getElem_toArray, List.getElem_cons_zero, List.getElem_cons_succ, List.setIfInBounds_toArray, List.set_cons_zero, List.set_cons_succ])
          refine wpAnyH_done (by kernel_rfl) ?_ _
          clear hHeld
          have HROW6 := hid (show w5.drew.ownsRow w2.heap.size 48 2 (.slice (some ⟨g, 0, none⟩) n c) n ((o ++ [(zl, zh)]).flatMap rgCells) from HROW3.out)
          have HB6 := hid HB3.out.drew
          have y0 : w5.drew.cell? ⟨wr.heap.size, 0, none⟩ = some (.int .i32 lo) := hx0
          have y1 : w5.drew.cell? ⟨wr.heap.size, 1, none⟩ = some (.int .i32 hi2) := hx1
          clear hx0 hx1 z0 z1 zf HST
          generalize w5.drew = w6 at *
          have hs6 := HB6.out.size
          go_wp2_with (at_builtin; refine wpList_append_any _ rfl (.tmp 47) (.tmp 49) 23 rfl w2.heap.size 48 i0 (.agg #[.int .i32 0, .int .i32 0]) 2 8 Try.underlying23 hi hz0 hz1 hz2 rfl (by decide) _ n ((o ++ [(zl, zh)]).flatMap rgCells) rfl (HROW6.out.alloc _) _ _ 1 1 [.int .i32 lo, .int .i32 hi2] rfl (reads_blk2 (Blk.new w6 _ _)) (by simp [Value.oneCell']) (by unfold maxLen; omega) (by omega) (by simp; omega) ?_; intro v1 w7 ho7 hg7 hq7; have HB7 := hid ((HB6.out.alloc HB6.out.size _).grown hg7 (by simp; omega) (own_ge HROW6.out)); obtain ⟨A7, c7, rfl⟩ := owns_slice ho7; have HO7 := hid ho7; clear ho7 hg7 hq7)
          go_roundg (n1 - (i + 1))
          case measure => omega
          case rel => exact ⟨i + 1, n + 1, c7, A7, (o ++ [(zl, zh)]) ++ [(lo, hi2)], rfl, by go_num, by omega, Nat.le_refl _, by omega, (by show n + 1 = _; rw [List.length_append, ← HNO.out]; rfl), (by show World.ownsRow _ _ _ _ _ _ _; rw [flat_snoc]; exact HO7.out), HB7.out, HN, HE.out.snoc (by show 0 ≤ hi2; omega) k3⟩
    · obtain rfl : i = n1 := by omega
      have HF2 := hid (show mergeR k = out by rw [← merge_fold, HG.out, List.drop_eq_nil_of_le (by have := HNK.out; omega)]; rfl)
      clear HG
      go_wp2_with fail
      go_ret
      refine ⟨k, HK1.out, HK2.out, _, _, _, rfl, ?_, HB2.out.trans (HB.out.mono hB2)⟩
      rw [HF2.out]
      exact owns_base HROW.out hB2
theorem merge_any (A : Option Addr) (n c : Nat) (l : List Rg) (w : World) (hl : RR w A n c l) (hf : Flat A) (hn : n ≤ 900000) (hok : ∀ x ∈ l, okR x) :
    Calls Try.prog 35 #[.slice A n c] w fun e w' => ∃ k : List Rg, k.Perm l ∧ k.Pairwise (fun x y => x.1 ≤ y.1) ∧ RetR w e w' (mergeR k) :=
  (mergeW_any A n c l w hl hf hn hok).mono fun _ _ ⟨k, h1, h2, A, m, c, he, ho, hb⟩ => ⟨k, h1, h2, A, m, c, he, RR.of_own ho, hb⟩
end Go.Proofs.Ytbkjanlkklmleaa
