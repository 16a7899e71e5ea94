/- Chapter 02: the document's points: the walk; rows of ranges that the call owns. -/
import Derived.Test.YtbkjanlkklmleaaRgF
import Derived.Laws.OwnMore
namespace Go.Proofs.Ytbkjanlkklmleaa
open Go.RowKit
open Go.Lib (hid)
set_option linter.unusedVariables false
set_option maxRecDepth 100000

theorem insL_len (r : Int) : ∀ l, (insL l r).length ≤ l.length + 1 ∧ l.length ≤ (insL l r).length ∧ 0 < (insL l r).length
  | [] => by simp [insL]
  | x :: l => by
    have := insL_len r l
    unfold insL
    split
    · simp only [List.length_cons]; omega
    · split <;> simp only [List.length_cons] <;> omega
/-- The points of the first i ranges. -/
def ptsI (l : List Rg) (i : Nat) : List Int := pointsF (l.take i)
theorem ptsI_zero (l : List Rg) : ptsI l 0 = [0] := rfl
theorem ptsI_succ {l : List Rg} {i : Nat} (h : i < l.length) : ptsI l (i + 1) = insL (insL (ptsI l i) l[i].1) (l[i].2 + 1) := by
  unfold ptsI pointsF
  rw [List.take_add_one, List.getElem?_eq_getElem h, List.foldl_append]
  rfl
theorem ptsI_len (l : List Rg) : ∀ i, i ≤ l.length → (ptsI l i).length ≤ 2 * i + 1 ∧ 0 < (ptsI l i).length
  | 0, _ => by rw [ptsI_zero]; simp
  | i + 1, h => by
    have := ptsI_len l i (by omega)
    rw [ptsI_succ (by omega)]
    have a := insL_len l[i].1 (ptsI l i)
    have b := insL_len (l[i].2 + 1) (insL (ptsI l i) l[i].1)
    omega
set_option maxHeartbeats 4000000 in
theorem points_any (a : Option Addr) (n cap : Nat) (l : List Rg) (w : World) (hl : RR w a n cap l) (hn : n ≤ 1000000) (hok : ∀ x ∈ l, okR x) :
    Calls Try.prog 48 #[.slice a n cap] w fun e w' => RetI w e w' (pointsR l) := by
  obtain ⟨i0, hi, hz0, hz1, hz2⟩ := info_parts info_i32
  have HL := hid hl
  have HN := hid hl.1
  have HOK := hid hok
  have hb1 := (Below.refl w.heap.size w).alloc (Nat.le_refl _) (.cells #[.int .i32 0] 21)
  have ho1 := World.ownsRow_lit (base := w.heap.size) (e := 21) (size := 1) w #[.int .i32 0] 1 (Nat.le_refl _) (by decide) rfl
  have HB1 := hid hb1
  have HR1 := hid (show RI (w.alloc (.cells #[.int .i32 0] 21)) (some ⟨w.heap.size, 0, none⟩) 1 1 [0] from RI.of_own ho1)
  clear hl hok hb1 ho1
  go_enter Try.func48, Try.ntmps48
  go_wp2_with fail
  go_loopg [3, 4] n (fun kx s3 s4 wr => ∃ (i m c : Nat) (A : Option Addr), s3 = .slice A m c ∧ s4 = .int .i64 i ∧ i ≤ n ∧ n - i ≤ kx ∧ Hid (RI wr A m c (ptsI l i)) ∧ Hid (Below w.heap.size w wr))
  case atStart => exact ⟨0, 1, 1, _, rfl, rfl, Nat.zero_le _, by omega, HR1.out, HB1.out⟩
  case round =>
    obtain ⟨i, m, c, A, rfl, rfl, hi1, hg, HI, HB⟩ := hrel
    by_cases hlt : i < n
    · have hlt' : (i : Int) < (n : Int) := by omega
      have hil : i < l.length := by have := HN.out; omega
      obtain ⟨b, off, rfl, hbl, x0, x1⟩ := HL.out.at hil
      have c0 := (HB.out.cell (p := ⟨b, _, none⟩) hbl).trans x0
      have c1 := (HB.out.cell (p := ⟨b, _, none⟩) hbl).trans x1
      have hpn := ptsI_succ hil
      have hpl := ptsI_len l i (by omega)
      obtain ⟨k1, k2, k3⟩ := HOK.out _ (List.getElem_mem hil)
      generalize l[i] = x at *
      obtain ⟨lo, hi2⟩ := x
      simp only at c0 c1 k1 k2 k3 hpn
      have hw : IntKind.i32.wrap (hi2 + 1) = hi2 + 1 := wrap32 (by omega) (by omega)
      have HPN := hid hpn
      have hm := HI.out.1
      have HLN := hid (insL_len lo (ptsI l i))
      have hm0 : 0 < m := by omega
      have hmb : m ≤ 3000000 := by omega
      have HM := hid hm
      have HX0 := hid x0
      have HX1 := hid x1
      clear hpn hpl x0 x1 hm
      have hszr := HB.out.size
      go_upto_region 5 with fail
      have eB := HB.out.drew
      refine wp_region_held_drew (S := fun w' : World => w'.cell? ⟨b, off + i * 2, none⟩ = some (.int .i32 lo) ∧ w'.cell? ⟨b, off + i * 2 + 1, none⟩ = some (.int .i32 hi2)) (by kernel_rfl) ⟨c0, c1⟩ (fun hHeld => ?_)
      refine wpAnyH_take (i := 0) (v := ?hv1) rfl (by kernel_rfl) (by kernel_rfl) (by kernel_rfl) (fun _ _ _ h => h) (Or.inl ⟨by rfl, ?hy1⟩) (by assumption) ?hr1
      case hy1 => (intro w hSw; (try dsimp only at hSw); go_simp; try with_reducible rfl)
      (try simp only [Act.put, List.getElem_toArray, List.getElem_cons_zero, List.setIfInBounds_toArray, List.set_cons_zero, List.set_cons_succ])
      refine wpAnyH_take (i := 1) (v := ?hv2) rfl (by kernel_rfl) (by kernel_rfl) (by kernel_rfl) (fun _ _ _ h => h) (Or.inl ⟨by rfl, ?hy2⟩) (by assumption) ?hr2
      case hy2 => (intro w hSw; (try dsimp only at hSw); go_simp; try with_reducible rfl)
      (try simp only [Act.put, List.getElem_toArray, List.getElem_cons_zero, List.getElem_cons_succ, List.setIfInBounds_toArray, List.set_cons_zero, List.set_cons_succ])
      refine wpAnyH_take (i := 2) (v := ?hv3) rfl (by kernel_rfl) (by kernel_rfl) (by kernel_rfl) (fun _ _ _ h => h) (Or.inl ⟨by rfl, ?hy3⟩) (by assumption) ?hr3
      case hy3 => (intro w hSw; (try dsimp only at hSw); go_simp; try with_reducible rfl)
      (try simp only [Act.put, List.getElem_toArray, List.getElem_cons_zero, List.getElem_cons_succ, List.setIfInBounds_toArray, List.set_cons_zero, List.set_cons_succ])
      refine wpAnyH_take (i := 3) (v := ?hv4) rfl (by kernel_rfl) (by kernel_rfl) (by kernel_rfl) (fun _ _ _ h => h) (Or.inl ⟨by rfl, ?hy4⟩) (by assumption) ?hr4
      case hy4 => (intro w hSw; (try dsimp only at hSw); go_simp; try with_reducible rfl)
      (try simp only [Act.put, List.getElem_toArray, List.getElem_cons_zero, List.getElem_cons_succ, List.setIfInBounds_toArray, List.set_cons_zero, List.set_cons_succ])
      refine wpAnyH_take (i := 4) (v := ?hv5) rfl (by kernel_rfl) (by kernel_rfl) (by kernel_rfl) (fun _ _ _ h => h) (Or.inl ⟨by rfl, ?hy5⟩) (by assumption) ?hr5
      case hy5 => (intro w hSw; (try dsimp only at hSw); go_simp; try with_reducible rfl)
      (try simp only [Act.put, List.getElem_toArray, List.getElem_cons_zero, List.getElem_cons_succ, List.setIfInBounds_toArray, List.set_cons_zero, List.set_cons_succ])
      refine wpAnyH_take (i := 5) (v := ?hv6) rfl (by kernel_rfl) (by kernel_rfl) (by kernel_rfl) (fun _ _ _ h => h) (Or.inl ⟨by rfl, ?hy6⟩) (by assumption) ?hr6
      case hy6 => (intro w hSw; (try dsimp only at hSw); go_simp; try with_reducible rfl)
      (try simp only [Act.put, List.getElem_toArray, List.getElem_cons_zero, List.getElem_cons_succ, List.setIfInBounds_toArray, List.set_cons_zero, List.set_cons_succ])
      refine wpAnyH_take (i := 7) (v := ?hv7) rfl (by kernel_rfl) (by kernel_rfl) (by kernel_rfl) (fun _ _ _ h => h) (Or.inl ⟨by rfl, ?hy7⟩) (by assumption) ?hr7
      case hy7 => (intro w hSw; (try dsimp only at hSw); go_simp; try with_reducible rfl)
      (try simp only [Act.put, List.getElem_toArray, List.getElem_cons_zero, List.getElem_cons_succ, List.setIfInBounds_toArray, List.set_cons_zero, List.set_cons_succ])
      refine wpAnyH_take (i := 8) (v := ?hv8) rfl (by kernel_rfl) (by kernel_rfl) (by kernel_rfl) (fun _ _ _ h => h) (Or.inl ⟨by rfl, ?hy8⟩) (by assumption) ?hr8
      case hy8 => (intro w hSw; (try dsimp only at hSw); go_simp; try with_reducible rfl)
      (try simp only [Act.put, List.getElem_toArray, List.getElem_cons_zero, List.getElem_cons_succ, List.setIfInBounds_toArray, List.set_cons_zero, List.set_cons_succ])
      refine wpAnyH_take (i := 9) (v := ?hv9) rfl (by kernel_rfl) (by kernel_rfl) (by kernel_rfl) (fun _ _ _ h => h) (Or.inl ⟨by rfl, ?hy9⟩) (by assumption) ?hr9
      case hy9 => (intro w hSw; (try dsimp only at hSw); go_simp; try with_reducible rfl)
      (try simp only [Act.put, List.getElem_toArray, List.getElem_cons_zero, List.getElem_cons_succ, List.setIfInBounds_toArray, List.set_cons_zero, List.set_cons_succ])
      refine wpAnyH_take (i := 10) (v := ?hv10) rfl (by kernel_rfl) (by kernel_rfl) (by kernel_rfl) (fun _ _ _ h => h) (Or.inl ⟨by rfl, ?hy10⟩) (by assumption) ?hr10
      case hy10 => (intro w hSw; (try dsimp only at hSw); go_simp; try with_reducible rfl)
      (try simp only [Act.put, List.getElem_toArray, List.getElem_cons_zero, List.getElem_cons_succ, List.setIfInBounds_toArray, List.set_cons_zero, List.set_cons_succ])
      refine wpAnyH_take (i := 11) (v := ?hv11) rfl (by kernel_rfl) (by kernel_rfl) (by kernel_rfl) (fun _ _ _ h => h) (Or.inl ⟨by rfl, ?hy11⟩) (by assumption) ?hr11
      case hy11 => (intro w hSw; (try dsimp only at hSw); go_simp; try with_reducible rfl)
      (try simp only [Act.put, List.getElem_toArray, List.getElem_cons_zero, List.getElem_cons_succ, List.setIfInBounds_toArray, List.set_cons_zero, List.set_cons_succ])
      refine wpAnyH_take (i := 12) (v := ?hv12) rfl (by kernel_rfl) (by kernel_rfl) (by kernel_rfl) (fun _ _ _ h => h) (Or.inl ⟨by rfl, ?hy12⟩) (by assumption) ?hr12
      case hy12 => (intro w hSw; (try dsimp only at hSw); go_simp; try with_reducible rfl)
      (try simp only [Act.put, List.getElem_toArray, List.getElem_cons_zero, List.getElem_cons_succ, List.setIfInBounds_toArray, List.set_cons_zero, List.set_cons_succ])
      refine wpAnyH_ready (rs := [6]) (by kernel_rfl) (by simp) ?_
      refine AllReadyH.cons rfl (fun K hK => ?_) AllReadyH.nil
      have hcall := insert_any A m c (ptsI l i) lo wr.drew (HI.out.below (below_drewN wr.heap.size wr 1) (Nat.le_refl _)) (by omega) hm0
      go_simp
      go_at_call 54
      refine hcall.mono ?_
      rintro e w4 ⟨A4, m4, c4, rfl, hr4, hb4⟩
      have HB4 := hid (eB.trans (hb4.mono (show w.heap.size ≤ wr.drew.heap.size from hszr)))
      have HI4 := hid hr4
      clear hr4 hb4 eB
      go_wp2_with fail
      refine hK.out _ _ ⟨(HB4.out.cell (p := ⟨b, _, none⟩) hbl).trans HX0.out, (HB4.out.cell (p := ⟨b, _, none⟩) hbl).trans HX1.out⟩ (fun hHeld2 => ?_)
      clear hK K hHeld
      refine wpAnyH_ready (rs := [13]) (by kernel_rfl) (by simp) ?_
      refine AllReadyH.cons rfl (fun K hK => ?_) AllReadyH.nil
      have hm4 := HI4.out.1
      have hlb := HLN.out
      have hcall := insert_any A4 m4 c4 _ (hi2 + 1) w4 HI4.out (by have := HM.out; omega) (by omega)
      clear hm4 hlb
      go_simp
      go_at_call 54
      refine hcall.mono ?_
      rintro e w5 ⟨A5, m5, c5, rfl, hr5, hb5⟩
      have HB5 := hid (HB4.out.trans (hb5.mono HB4.out.size))
      have HI5 := hid hr5
      clear hr5 hb5
      go_wp2_with fail
      refine hK.out _ _ ⟨(HB5.out.cell (p := ⟨b, _, none⟩) hbl).trans HX0.out, (HB5.out.cell (p := ⟨b, _, none⟩) hbl).trans HX1.out⟩ (fun hHeld3 => ?_)
      clear hK K hHeld2
      refine wpAnyH_take (i := 14) (v := ?hv13) rfl (by kernel_rfl) (by kernel_rfl) (by kernel_rfl) (fun _ _ _ h => h) (Or.inl ⟨by rfl, ?hy13⟩) (by assumption) ?hr13
      case hy13 => (intro w hSw; (try dsimp only at hSw); go_simp; try with_reducible rfl)
      (try simp only [Act.put, List.getElem_toArray, List.getElem_cons_zero, List.getElem_cons_succ, List.setIfInBounds_toArray, List.set_cons_zero, List.set_cons_succ])
      refine wpAnyH_done (by kernel_rfl) ?_ _
      clear hHeld3
      go_wp2_with fail
      go_roundg (n - (i + 1))
      case measure => omega
      case rel =>
        refine ⟨i + 1, m5, c5, A5, rfl, by go_num, by omega, Nat.le_refl _, ?_, HB5.out⟩
        show RI _ _ _ _ _
        rw [HPN.out]
        exact HI5.out
    · have hlt' : ¬ (i : Int) < (n : Int) := by omega
      have hin : i = l.length := by have := HN.out; omega
      have hpe : ptsI l i = pointsF l := by unfold ptsI; rw [hin, List.take_length]
      have hpl := ptsI_len l i (by omega)
      have hm := HI.out.1
      have hcall := insert_any A m c (ptsI l i) 1114112 wr HI.out (by omega) (by omega)
      rw [hpe] at hcall
      have HC := hid hcall
      clear hcall hpe hin hpl hm hi1 hg hlt
      go_wp2_with fail
      refine HC.out.mono ?_
      rintro e w4 ⟨A4, m4, c4, rfl, hr4, hb4⟩
      have HB4 := hid (HB.out.trans (hb4.mono HB.out.size))
      have HI4 := hid hr4
      clear hr4 hb4
      go_wp2_with fail
      go_ret
      exact ⟨_, _, _, rfl, HI4.out, HB4.out⟩

theorem flat_snoc (o : List Rg) (z : Rg) : (o ++ [z]).flatMap rgCells = o.flatMap rgCells ++ rgCells z := by rw [List.flatMap_append]; simp
/-- The last of an own row of ranges. -/
theorem own_last {W : World} {B n c : Nat} {e : TypeId} {A : Option Addr} {o : List Rg} {z : Rg} (h : W.ownsRow B e 2 (.slice A n c) n ((o ++ [z]).flatMap rgCells)) :
    ∃ g, A = some ⟨g, 0, none⟩ ∧ B ≤ g ∧ g < W.heap.size ∧ n = o.length + 1 ∧ W.cell? ⟨g, o.length * 2, none⟩ = some (.int .i32 z.1) ∧ W.cell? ⟨g, o.length * 2 + 1, none⟩ = some (.int .i32 z.2) ∧ W.frozen? ⟨g, o.length * 2 + 1, none⟩ = false ∧
      ∀ y : Int, (W.setCell ⟨g, o.length * 2 + 1, none⟩ (.int .i32 y)).ownsRow B e 2 (.slice A n c) n ((o ++ [(z.1, y)]).flatMap rgCells) := by
  have hl := h.1
  rw [rgCells_len, List.length_append, List.length_singleton] at hl
  have hn : n = o.length + 1 := by omega
  obtain ⟨A', c', hv, _, _, hcc⟩ := owns_form h
  injection hv with hA _ hc
  subst hA hc
  obtain ⟨g, rfl, hB, hg, hcell⟩ := hcc (by omega)
  have hfl := rgCells_len o
  have g0 : ((o ++ [z]).flatMap rgCells)[o.length * 2]? = some (.int .i32 z.1) := by
    rw [flat_snoc, List.getElem?_append_right (by omega), hfl, Nat.sub_self]; rfl
  have g1 : ((o ++ [z]).flatMap rgCells)[o.length * 2 + 1]? = some (.int .i32 z.2) := by
    rw [flat_snoc, List.getElem?_append_right (by omega), hfl, show o.length * 2 + 1 - o.length * 2 = 1 by omega]; rfl
  refine ⟨g, rfl, hB, hg, hn, (hcell _ (by omega)).trans g0, (hcell _ (by omega)).trans g1, h.frozenAt _, fun y => ?_⟩
  have := (h.stored (o.length * 2 + 1) (.int .i32 y)).1
  rw [flat_snoc, List.set_append_right _ _ (by omega), hfl, show o.length * 2 + 1 - o.length * 2 = 1 by omega] at this
  rw [flat_snoc]
  exact this
end Go.Proofs.Ytbkjanlkklmleaa
