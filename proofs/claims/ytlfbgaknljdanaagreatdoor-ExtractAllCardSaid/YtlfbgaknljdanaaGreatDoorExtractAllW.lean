/- The walk of the law ExtractAll. -/
import Derived.Test.YtlfbgaknljdanaaGreatDoorExLaid
import Derived.Test.YtlfbgaknljdanaaGreatDoorExJ
import Derived.Test.YtlfbgaknljdanaaGreatDoorExM4
import Derived.StillTailTactics
import Derived.BigQuiet
import Derived.Test.YtlfbgaknljdanaaGreatDoorOpen
namespace Go.Proofs.YtlfbgaknljdanaaGreatDoor.extractAll
open Go.RowKit Go.Shelf
open Go.Lib (hid)
set_option linter.unusedVariables false
set_option linter.unusedSimpArgs false
set_option maxRecDepth 100000

set_option maxHeartbeats 8000000 in
theorem walk (b : Option Addr) (bLen bCap : Nat) (bD : List Int) (w : World) (w0 : IsRow .u8 w b bLen bCap bD) (hsh : w.ShapedOpen Tryz.prog) (hsp : TabSp w) :
    Calls Tryz.prog 4 #[.slice b bLen bCap] w fun e w' => e = .returned (.bool true) ∧ Below w.heap.size w w' := by
  obtain ⟨i0, hi, hz0, hz1, hz2⟩ := info_parts info_u8
  have hmx := mx_of hsh
  obtain ⟨s, hba⟩ := ba_of w0
  have HAW := hid (fun W (h : Below w.heap.size w W) => exawake_any W (hsp.below h (Nat.le_refl _)) (hmx.below h (Nat.le_refl _)))
  by_cases hbig : 300 < bLen
  · have hbig' : (300 : Int) < (bLen : Int) := by omega
    clear hba w0
    go_enter Tryz.func4, Tryz.ntmps4
    go_wp2_with fail
    refine (HAW.out _ (Below.refl _ _)).mono ?_
    rintro e w2 ⟨rfl, hb2⟩
    have HB2 := hid hb2
    clear hb2
    go_wp2_with fail
    go_ret
    exact ⟨rfl, HB2.out⟩
  have hbig' : ¬ (300 : Int) < (bLen : Int) := by omega
  have HALL := hid (fun W (h : Below w.heap.size w W) => exAll_any b bLen bCap s W (hba.below h (Nat.le_refl _)) (hmx.below h (Nat.le_refl _)) (hsp.below h (Nat.le_refl _)) (by omega))
  have HREF := hid (fun W (h : Below w.heap.size w W) => refAll23_any b bLen bCap s W (hba.below h (Nat.le_refl _)) (by omega))
  have hl300 : (exAll s).length ≤ 300 := by
    have := exAll_len s
    have := hba.1
    omega
  clear hba w0 hmx hsp hsh
  go_enter Tryz.func4, Tryz.ntmps4
  go_wp2_with fail
  refine (HAW.out _ (Below.refl _ _)).mono ?_
  rintro e w2 ⟨rfl, hb2⟩
  have HB2 := hid hb2
  clear hb2
  go_wp2_with fail
  refine (HALL.out _ HB2.out).mono ?_
  rintro e w3 ⟨v, rfl, hrow, hb3⟩
  obtain ⟨A, cap, rfl, hir⟩ := IR.of_own hrow
  have HB3 := hid (HB2.out.trans (hb3.mono HB2.out.size))
  have HIR3 := hid hir
  clear hb3 hrow hir
  go_wp2_with fail
  refine (HREF.out _ HB3.out).mono ?_
  rintro e w4 ⟨v, rfl, hrow, hb4⟩
  obtain ⟨A', cap', rfl, hir'⟩ := IR.of_own hrow
  have HIR := hid (HIR3.out.below hb4 (Nat.le_refl _))
  have HIR' := hid hir'
  have HB4 := hid (HB3.out.trans (hb4.mono HB3.out.size))
  clear hb4 hrow hir' HALL HAW HREF HIR3
  generalize exAll s = l at *
  obtain ⟨n, hn⟩ : ∃ n, n = l.length := ⟨_, rfl⟩
  have HN := hid hn
  have HTX := hid (fun W (h : Below w4.heap.size w4 W) => exText_any A l.length cap l W (HIR.out.below h (Nat.le_refl _)) (by omega))
  have HIS := hid (fun W (h : Below w4.heap.size w4 W) => itemsIs_any A A' l.length cap cap' l W (HIR.out.below h (Nat.le_refl _)) (HIR'.out.below h (Nat.le_refl _)) (by omega))
  have HTK := hid (fun i (h : i < l.length) => itB_take h)
  have HSZ := hid (fun i => itB_take_size l i)
  have HEND := hid (show itB (l.take l.length) = itB l by rw [List.take_length])
  rw [← hn] at HTX HIS hl300 HIR' ⊢
  clear hn
  go_wp2_with fail
  go_loopg [5, 6] n (fun kx s5 s6 wr => ∃ (v : Value) (i : Nat), s5 = v ∧ s6 = .int .i64 i ∧ i ≤ n ∧ n - i ≤ kx ∧ Hid (wr.ownsRow w4.heap.size 5 1 v (itB (l.take i)).size (u8s (itB (l.take i)))) ∧ Hid (Below w4.heap.size w4 wr))
  case atStart => exact ⟨_, 0, rfl, rfl, Nat.zero_le _, Nat.le_refl _, World.ownsRow_nil _ _ _ _, Below.refl _ _⟩
  case round =>
    obtain ⟨v, i, rfl, rfl, hi1, hg, HROW, HB⟩ := hrel
    by_cases hlt : i < n
    · have hlt' : (i : Int) < (n : Int) := by omega
      have hil : i < l.length := by rw [← HN.out]; exact hlt
      obtain ⟨g, rfl, hgl, x0, x1, x2, x3, x4, x5, x6⟩ := (HIR'.out.below HB.out (Nat.le_refl _)).at_ hil
      have HT := hid (HTK.out i hil)
      have hsz1 := HSZ.out i
      have hl1 := HN.out
      have hpos : (itB (l.take i)).size ≤ 1000000 := by omega
      have hp8 : (scB l[i].r).size ≤ 4 := (scB_size l[i].r).1
      have HPT := hid (fun W => refput_any l[i].r W)
      generalize itB (l.take i) = acc at *
      generalize l[i] = t at *
      obtain ⟨tr, ta, tz, tf, tc, tn, tp⟩ := t
      simp only at x0 x1 x2 x3 x4 x5 x6 hp8 HT HPT
      clear hsz1 hl1 x1 x2 x3 x4 x5 x6
      obtain ⟨c0, cp0, rfl⟩ := owns_slice HROW.out
      have hszr := HB.out.size
      go_wp2_with fail
      refine (HPT.out wr).mono ?_
      rintro e w5 ⟨pv, rfl, ⟨rfl, hba5⟩, hb5⟩
      have HRD := hid hba5.reads
      have HB5 := hid (HB.out.trans (hb5.mono hszr))
      have HROW5 := hid (owns_below HROW.out hb5)
      have hsz5 := HB5.out.size
      clear hba5 hb5
      go_wp2_with (at_builtin; go_must (refine wpList_append_any _ rfl (.tmp 25) (.tmp 31) 22 rfl w4.heap.size 5 i0 (.int .u8 0) 1 1 Tryz.underlying22 hi hz0 hz1 hz2 rfl (by decide) _ acc.size (u8s acc) rfl HROW5.out _ _ (scB tr).size _ (u8s (scB tr)) rfl HRD.out (u8s_one _) (by unfold maxLen; omega) (by omega) (by omega) ?_); intro v6 w6 hown6 hgrow6 _)
      have HB6 := hid (HB5.out.grown hgrow6 hsz5 (fun k e => (HROW5.out.lt k e).1))
      go_roundg (n - (i + 1))
      case measure => omega
      case rel => exact ⟨v6, i + 1, rfl, by go_num, by omega, Nat.le_refl _, by show World.ownsRow _ _ _ _ _ _ _; rw [HT.out, ByteArray.size_append, u8s_append]; exact hown6, HB6.out⟩
    · obtain rfl : i = n := by omega
      have hrow := HROW.out
      rw [HN.out, HEND.out] at hrow
      obtain ⟨c0, cp0, rfl⟩ := owns_slice hrow
      have HCV := hid (fun W' h => conv_ownX hrow W' h)
      have hcv1 := HCV.out wr (Below.refl _ _)
      have HT5 := hid (fun W (h : Below wr.heap.size wr W) => HTX.out W (HB.out.trans (h.mono HB.out.size)))
      have HI5 := hid (HIS.out wr.drew HB.out.drew)
      have hlt' : ¬ (i : Int) < (i : Int) := by omega
      clear hlt hrow
      generalize itB l = t at *
      go_wp2_with fail
      refine wp_region_held_drew (S := fun w' : World => (convert 22 9 (.slice c0 t.size cp0)).run Tryz.prog w' = .ok (.string t) w') (by kernel_rfl) (HCV.out _ (Below.refl _ _).drew) (fun hHeld => ?_)
      clear hcv1
      refine wpAnyH_take (i := 0) (v := ?hv1) rfl (by kernel_rfl) (by kernel_rfl) (by kernel_rfl) (fun _ _ _ h => h) (Or.inl ⟨by rfl, ?hy1⟩) (by assumption) ?hr1
      case hy1 => (intro w hSw; (try dsimp only at hSw); go_simp; try with_reducible rfl)
      (try simp only [Act.put, List.getElem_toArray, List.getElem_cons_zero, List.setIfInBounds_toArray, List.set_cons_zero, List.set_cons_succ])
      refine wpAnyH_take (i := 1) (v := ?hv2) rfl (by kernel_rfl) (by kernel_rfl) (by kernel_rfl) (fun _ _ _ h => h) (Or.inl ⟨by rfl, ?hy2⟩) (by assumption) ?hr2
      case hy2 => (intro w hSw; (try dsimp only at hSw); go_simp; try with_reducible rfl)
      (try simp only [Act.put, List.getElem_toArray, List.getElem_cons_zero, List.getElem_cons_succ, List.setIfInBounds_toArray, List.set_cons_zero, List.set_cons_succ])
      refine wpAnyH_ready (rs := [2]) (by kernel_rfl) (by simp) ?_
      refine AllReadyH.cons rfl (fun K hK => ?_) AllReadyH.nil
      go_simp
      go_at_call 19
      refine HI5.out.mono ?_
      rintro e w6 ⟨rfl, hb6⟩
      have HB6 := hid (show Below wr.heap.size wr w6 from (Below.refl wr.heap.size wr).drew.trans hb6)
      clear hb6
      go_wp2_with fail
      refine hK.out _ _ (HCV.out _ HB6.out) (fun hHeld2 => ?_)
      clear hK K hHeld
      refine wpAnyH_take (i := 3) (v := ?hv3) rfl (by kernel_rfl) (by kernel_rfl) (by kernel_rfl) (fun _ _ _ h => h) (Or.inl ⟨by rfl, ?hy3⟩) (by assumption) ?hr3
      case hy3 => (intro w hSw; (try dsimp only at hSw); go_simp; try with_reducible rfl)
      (try simp only [Act.put, List.getElem_toArray, List.getElem_cons_zero, List.getElem_cons_succ, List.setIfInBounds_toArray, List.set_cons_zero, List.set_cons_succ])
      refine wpAnyH_take (i := 4) (v := ?hv4) rfl (by kernel_rfl) (by kernel_rfl) (by kernel_rfl) (fun _ _ _ h => h) (Or.inl ⟨by rfl, ?hy4⟩) (by assumption) ?hr4
      case hy4 => (intro w hSw; (try dsimp only at hSw); go_simp; try with_reducible rfl)
      (try simp only [Act.put, List.getElem_toArray, List.getElem_cons_zero, List.getElem_cons_succ, List.setIfInBounds_toArray, List.set_cons_zero, List.set_cons_succ])
      refine wpAnyH_take (i := 6) (v := ?hv5) rfl (by kernel_rfl) (by kernel_rfl) (by kernel_rfl) (fun _ _ _ h => h) (Or.inl ⟨by rfl, ?hy5⟩) (by assumption) ?hr5
      case hy5 => (intro w hSw; (try dsimp only at hSw); go_simp; try with_reducible rfl)
      (try simp only [Act.put, List.getElem_toArray, List.getElem_cons_zero, List.getElem_cons_succ, List.setIfInBounds_toArray, List.set_cons_zero, List.set_cons_succ])
      refine wpAnyH_take (i := 7) (v := ?hv6) rfl (by kernel_rfl) (by kernel_rfl) (by kernel_rfl) (fun _ _ _ h => h) (Or.inl ⟨by rfl, ?hy6⟩) (by assumption) ?hr6
      case hy6 => (intro w hSw; (try dsimp only at hSw); go_simp; try with_reducible rfl)
      (try simp only [Act.put, List.getElem_toArray, List.getElem_cons_zero, List.getElem_cons_succ, List.setIfInBounds_toArray, List.set_cons_zero, List.set_cons_succ])
      refine wpAnyH_ready (rs := [5]) (by kernel_rfl) (by simp) ?_
      refine AllReadyH.cons rfl (fun K hK => ?_) AllReadyH.nil
      go_simp
      go_at_call 20
      refine (HT5.out _ HB6.out).mono ?_
      rintro e w7 ⟨rfl, hb7⟩
      have HB7 := hid (HB6.out.trans (hb7.mono HB6.out.size))
      clear hb7
      go_wp2_with fail
      refine hK.out _ _ (HCV.out _ HB7.out) (fun hHeld3 => ?_)
      clear hK K hHeld2
      refine wpAnyH_take (i := 8) (v := ?hv7) rfl (by kernel_rfl) (by kernel_rfl) (by kernel_rfl) (fun _ _ _ h => h) (Or.inl ⟨by rfl, ?hy7⟩) (by assumption) ?hr7
      case hy7 => (intro w hSw; (try dsimp only at hSw); go_simp; try with_reducible rfl)
      (try simp only [Act.put, List.getElem_toArray, List.getElem_cons_zero, List.getElem_cons_succ, List.setIfInBounds_toArray, List.set_cons_zero, List.set_cons_succ])
      refine wpAnyH_take (i := 9) (v := ?hv8) rfl (by kernel_rfl) (by kernel_rfl) (by kernel_rfl) (fun _ _ _ h => h) (Or.inl ⟨by rfl, ?hy8⟩) (by assumption) ?hr8
      case hy8 => (intro w hSw; (try dsimp only at hSw); go_simp; try with_reducible rfl)
      (try simp only [Act.put, List.getElem_toArray, List.getElem_cons_zero, List.getElem_cons_succ, List.setIfInBounds_toArray, List.set_cons_zero, List.set_cons_succ])
      refine wpAnyH_take (i := 10) (v := ?hv9) rfl (by kernel_rfl) (by kernel_rfl) (by kernel_rfl) (fun _ _ _ h => h) (Or.inl ⟨by rfl, ?hy9⟩) (by assumption) ?hr9
      case hy9 => (intro w hSw; (try dsimp only at hSw); go_simp; try with_reducible rfl)
      (try simp only [Act.put, List.getElem_toArray, List.getElem_cons_zero, List.getElem_cons_succ, List.setIfInBounds_toArray, List.set_cons_zero, List.set_cons_succ])
      refine wpAnyH_done (by kernel_rfl) ?_ _
      clear hHeld3
      go_wp2_with fail
      go_ret
      exact ⟨rfl, HB4.out.trans ((HB.out.trans (HB7.out.mono HB.out.size)).mono HB4.out.size)⟩
end Go.Proofs.YtlfbgaknljdanaaGreatDoor.extractAll
