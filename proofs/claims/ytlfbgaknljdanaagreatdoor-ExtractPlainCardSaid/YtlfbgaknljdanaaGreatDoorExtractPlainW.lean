/- The walk of the law ExtractPlain. -/
import Derived.Test.YtlfbgaknljdanaaGreatDoorExLaid
import Derived.Test.YtlfbgaknljdanaaGreatDoorExJ
import Derived.StillTailTactics
import Derived.BigQuiet
import Derived.Test.YtlfbgaknljdanaaGreatDoorOpen
namespace Go.Proofs.YtlfbgaknljdanaaGreatDoor.extractPlain
open Go.RowKit Go.Shelf
open Go.Lib (hid)
set_option linter.unusedVariables false
set_option linter.unusedSimpArgs false
set_option maxRecDepth 100000

theorem i32_of {w : World} {a : Option Addr} {len cap : Nat} {zs : List Int} (h : IsRow .i32 w a len cap zs) : ∃ D : List Int, len = D.length ∧ (0 < len → ∃ b off, a = some ⟨b, off, none⟩ ∧ b < w.heap.size ∧ ∀ (i : Nat) (h : i < D.length), w.cell? ⟨b, off + i, none⟩ = some (.int .i32 D[i])) := by
  rcases h with ⟨rfl, rfl, rfl, rfl⟩ | ⟨x, rfl, hl, hm, hz, hcell, hwz⟩
  · exact ⟨[], rfl, fun h => absurd h (by decide)⟩
  · have hlen : (zs.take len).length = len := by rw [List.length_take]; omega
    refine ⟨zs.take len, hlen.symm, fun h0 => ?_⟩
    obtain ⟨b, off, spot⟩ := x
    have hc := hcell 0 (by omega)
    have hspot : spot = none := by simpa [Addr.add] using World.cell?_spot hc
    subst hspot
    refine ⟨b, off, rfl, World.block_lt_of_cell? _ _ hc, fun i hi => ?_⟩
    rw [hlen] at hi
    have h1 := hcell i (by omega)
    rw [show (Addr.add ⟨b, off, none⟩ i) = ⟨b, off + i, none⟩ by unfold Addr.add; split <;> simp_all] at h1
    rw [h1]
    simp [show i < zs.length by omega]
theorem runB_take {D : List Int} {i : Nat} (h : i < D.length) : runB (D.take (i + 1)) = runB (D.take i) ++ scB D[i] := by
  rw [List.take_add_one, List.getElem?_eq_getElem h]
  exact runB_snoc _ _
theorem runB_take_size (D : List Int) (i : Nat) : (runB (D.take i)).size ≤ 4 * D.length := by
  have := runB_size (D.take i)
  have h2 : (D.take i).length ≤ D.length := by rw [List.length_take]; omega
  omega
def clean (r : Int) : Prop := rightR r = true ∧ r ≠ 60 ∧ r ≠ 38 ∧ r ≠ 27
set_option maxHeartbeats 8000000 in
theorem walk (l : Option Addr) (lLen lCap : Nat) (lD : List Int) (w : World) (w0 : IsRow .i32 w l lLen lCap lD) (hsh : w.ShapedOpen Tryz.prog) (hsp : TabSp w) :
    Calls Tryz.prog 5 #[.slice l lLen lCap] w fun e w' => e = .returned (.bool true) ∧ Below w.heap.size w w' := by
  obtain ⟨i0, hi, hz0, hz1, hz2⟩ := info_parts info_u8
  have hmx := mx_of hsh
  obtain ⟨D, hD, hcl⟩ := i32_of w0
  have HAW := hid (fun W (h : Below w.heap.size w W) => exawake_any W (hsp.below h (Nat.le_refl _)) (hmx.below h (Nat.le_refl _)))
  by_cases hbig : 60 < lLen
  · have hbig' : (60 : Int) < (lLen : Int) := by omega
    clear hcl w0
    go_enter Tryz.func5, Tryz.ntmps5
    go_wp2_with fail
    refine (HAW.out _ (Below.refl _ _)).mono ?_
    rintro e w2 ⟨rfl, hb2⟩
    have HB2 := hid hb2
    clear hb2
    go_wp2_with fail
    go_ret
    exact ⟨rfl, HB2.out⟩
  have hbig' : ¬ (60 : Int) < (lLen : Int) := by omega
  have HALL := hid (fun A n c s W (h : Below w.heap.size w W) (hba : BA W A n c s) (hn : n ≤ 1000000) => exAll_any A n c s W hba (hmx.below h (Nat.le_refl _)) (hsp.below h (Nat.le_refl _)) hn)
  have HD := hid hD
  have HCL := hid (fun W (h : Below w.heap.size w W) (i : Nat) (hi : i < D.length) => show ∃ b off, l = some ⟨b, off, none⟩ ∧ W.cell? ⟨b, off + i, none⟩ = some (.int .i32 D[i]) from by
    obtain ⟨b, off, e, hb, hc⟩ := hcl (by omega)
    exact ⟨b, off, e, (h.cell (p := ⟨b, off + i, none⟩) hb).trans (hc i hi)⟩)
  have HTK := hid (fun i (h : i < D.length) => runB_take h)
  have HSZ := hid (fun i => runB_take_size D i)
  obtain ⟨n, hn⟩ : ∃ n, n = lLen := ⟨_, rfl⟩
  have hn60 : n ≤ 60 := by omega
  rw [← hn]
  rw [← hn] at HD hbig'
  clear hcl w0 hmx hsp hsh hD hbig hn
  go_enter Tryz.func5, Tryz.ntmps5
  go_wp2_with fail
  refine (HAW.out _ (Below.refl _ _)).mono ?_
  rintro e w2 ⟨rfl, hb2⟩
  have HB2 := hid hb2
  clear hb2
  go_wp2_with fail
  go_loopg [3, 4] n (fun kx s3 s4 wr => ∃ (v : Value) (i : Nat), s3 = v ∧ s4 = .int .i64 i ∧ i ≤ n ∧ n - i ≤ kx ∧ Hid (wr.ownsRow w.heap.size 5 1 v (runB (D.take i)).size (u8s (runB (D.take i)))) ∧ Hid (∀ r ∈ D.take i, clean r) ∧ Hid (Below w.heap.size w wr))
  case atStart => exact ⟨_, 0, rfl, rfl, Nat.zero_le _, Nat.le_refl _, World.ownsRow_nil _ _ _ _, fun r hr => absurd hr (by simp), HB2.out⟩
  case round =>
    obtain ⟨v, i, rfl, rfl, hi1, hg, HROW, HCN, HB⟩ := hrel
    by_cases hlt : i < n
    · have hlt' : (i : Int) < (n : Int) := by omega
      have hil : i < D.length := by rw [← HD.out]; exact hlt
      obtain ⟨b, off, rfl, hc⟩ := HCL.out wr HB.out i hil
      have HT := hid (HTK.out i hil)
      have hsz1 := HSZ.out i
      have hl1 := HD.out
      have hpos : (runB (D.take i)).size ≤ 1000000 := by omega
      have hp8 : (scB D[i]).size ≤ 4 := (scB_size D[i]).1
      have HCN2 := hid (fun (h : clean D[i]) => show ∀ r ∈ D.take (i + 1), clean r from fun r hr => by
        rw [List.take_add_one, List.getElem?_eq_getElem hil] at hr
        rcases List.mem_append.1 hr with hr | hr
        · exact HCN.out r hr
        · obtain rfl : r = D[i] := by simpa using hr
          exact h)
      have HRT := hid (fun W => refright_any D[i] W)
      have HPT := hid (fun W => refput_any D[i] W)
      generalize runB (D.take i) = acc at *
      generalize D[i] = r at *
      clear hsz1 hl1 HCN HAW
      by_cases h1 : r = 60
      · subst h1
        go_wp2_with fail
        go_ret
        exact ⟨rfl, HB.out⟩
      have h1b : (r == 60) = false := by simpa using h1
      by_cases h2 : r = 38
      · subst h2
        go_wp2_with fail
        go_ret
        exact ⟨rfl, HB.out⟩
      have h2b : (r == 38) = false := by simpa using h2
      by_cases h3 : r = 27
      · subst h3
        go_wp2_with fail
        go_ret
        exact ⟨rfl, HB.out⟩
      have h3b : (r == 27) = false := by simpa using h3
      cases hr : rightR r
      · rw [hr] at HRT
        clear hr
        go_wp2_with (go_at_call 21; refine (HRT.out _).mono ?_; rintro e w4 ⟨rfl, hw4⟩; obtain rfl : wr = w4 := hw4.symm)
        go_ret
        exact ⟨rfl, HB.out⟩
      rw [hr] at HRT
      have HCC := hid (HCN2.out ⟨hr, h1, h2, h3⟩)
      obtain ⟨c0, cp0, rfl⟩ := owns_slice HROW.out
      have hszr := HB.out.size
      clear hr h1 h2 h3
      go_wp2_with (go_at_call 21; refine (HRT.out _).mono ?_; rintro e w4 ⟨rfl, hw4⟩; obtain rfl : wr = w4 := hw4.symm)
      refine (HPT.out wr).mono ?_
      rintro e w5 ⟨pv, rfl, ⟨rfl, hba5⟩, hb5⟩
      have HRD := hid hba5.reads
      have HB5 := hid (HB.out.trans (hb5.mono hszr))
      have HROW5 := hid (owns_below HROW.out hb5)
      have hsz5 := HB5.out.size
      clear hba5 hb5
      go_wp2_with (at_builtin; go_must (refine wpList_append_any _ rfl (.tmp 50) (.tmp 55) 22 rfl w.heap.size 5 i0 (.int .u8 0) 1 1 Tryz.underlying22 hi hz0 hz1 hz2 rfl (by decide) _ acc.size (u8s acc) rfl HROW5.out _ _ (scB r).size _ (u8s (scB r)) rfl HRD.out (u8s_one _) (by unfold maxLen; omega) (by omega) (by omega) ?_); intro v6 w6 hown6 hgrow6 _)
      have HB6 := hid (HB5.out.grown hgrow6 hsz5 (fun k e => (HROW5.out.lt k e).1))
      go_roundg (n - (i + 1))
      case measure => omega
      case rel => exact ⟨v6, i + 1, rfl, by go_num, by omega, Nat.le_refl _, by show World.ownsRow _ _ _ _ _ _ _; rw [HT.out, ByteArray.size_append, u8s_append]; exact hown6, HCC.out, HB6.out⟩
    · obtain rfl : i = n := by omega
      have hrow := HROW.out
      have hcn := HCN.out
      have ht : D.take i = D := by rw [HD.out, List.take_length]
      rw [ht] at hrow hcn
      have HPL := hid (exAll_plain D hcn)
      have hrs := runB_size D
      have hl1 := HD.out
      obtain ⟨c0, cp0, rfl⟩ := owns_slice hrow
      have hba := BA.of_own hrow
      have hal := HALL.out _ _ _ _ wr HB.out hba (by omega)
      rw [HPL.out] at hal
      have HAL := hid hal
      have hcv := fun W' h => conv_ownX hrow W' h
      have HCV := hid hcv
      have hrs2 : (runB D).size ≤ 240 := by omega
      clear hlt hrow hcn ht hba hal hcv hl1 hrs HAW HALL HROW HCN
      go_wp2_with fail
      refine HAL.out.mono ?_
      rintro e w4 ⟨v4, rfl, hrow4, hb4⟩
      obtain ⟨A4, cap4, rfl, hir⟩ := IR.of_own hrow4
      have HB4 := hid (HB.out.trans (hb4.mono HB.out.size))
      have HBW := hid hb4
      have HTX := hid (fun W (h : Below w4.heap.size w4 W) => exText_any A4 _ cap4 _ W (hir.below h (Nat.le_refl _)) (by rw [plainIts_len]; have := HD.out; omega))
      rw [plainIts_itB] at HTX
      have hlen : (plainIts 0 D).length = i := by rw [plainIts_len]; have := HD.out; omega
      have HIR := hid hir
      have HPG := hid (fun j (h : j < (plainIts 0 D).length) (h2 : j < D.length) => plainIts_get D 0 j h h2)
      have HLN := hid hlen
      rw [hlen] at HTX HIR ⊢
      clear hrow4 hb4 hir hlen HAL
      generalize plainIts 0 D = l2 at *
      go_wp2_with fail
      go_loopg [6, 7] i (fun kx s6 s7 wr2 => ∃ (j : Nat), s6 = .int .i64 (runB (D.take j)).size ∧ s7 = .int .i64 j ∧ j ≤ i ∧ i - j ≤ kx ∧ Hid (Below w4.heap.size w4 wr2))
      case atStart => exact ⟨0, rfl, rfl, Nat.zero_le _, Nat.le_refl _, Below.refl _ _⟩
      case round =>
        obtain ⟨j, rfl, rfl, hj1, hg2, HB5⟩ := hrel
        by_cases hlt2 : j < i
        · have hlt2' : (j : Int) < (i : Int) := by omega
          have hjl : j < D.length := by rw [← HD.out]; exact hlt2
          have hjl2 : j < l2.length := by rw [HLN.out]; exact hlt2
          have HB5w := hid (HB4.out.trans (HB5.out.mono HB4.out.size))
          have HZ := hid (fun W (h : Below w4.heap.size w4 W) => HCL.out W (HB4.out.trans (h.mono HB4.out.size)) j hjl)
          have HYC := hid (fun W (h : Below w4.heap.size w4 W) => (HIR.out.below h (Nat.le_refl _)).at_ hjl2)
          obtain ⟨b, off, rfl, hc⟩ := HZ.out wr HB5.out
          have HPGJ := hid (HPG.out j hjl2 hjl)
          have HPT := hid (fun W => refput_any D[j] W)
          have HTS := hid (show (runB (D.take (j + 1))).size = (runB (D.take j)).size + (scB D[j]).size by rw [HTK.out j hjl, ByteArray.size_append])
          have hs1 : (runB (D.take j)).size ≤ 240 := by have := HSZ.out j; have := HD.out; omega
          have hs2 := (scB_size D[j]).1
          rw [HPGJ.out] at HYC
          generalize (runB (D.take j)).size = at_ at *
          generalize hscs : scB D[j] = sc at *
          generalize D[j] = r at *
          clear hscs
          have hszr := HB5.out.size
          go_wp2_with fail
          refine (HPT.out wr).mono ?_
          rintro e w6 ⟨pv, rfl, ⟨rfl, _⟩, hb6⟩
          have HB6 := hid (HB5.out.trans (hb6.mono hszr))
          obtain ⟨g2, e2, _, y0, y1, y2, y3, y4, y5, y6⟩ := HYC.out w6 HB6.out
          subst e2
          obtain ⟨b2, off2, e2, hc2⟩ := HZ.out w6 HB6.out
          cases e2
          simp only [Nat.zero_add] at y0 y1 y2 y3 y4 y5 y6
          generalize hz : sc.size = z at *
          clear hb6 hc hz
          have hsum : (at_ : Int) + (z : Int) = ((at_ + z : Nat) : Int) := by omega
          have hb3 : ((at_ + z : Nat) : Int) ≤ 1000 := by omega
          generalize at_ + z = az at *
          go_wp2_with fail
          go_region
          have HB7 := hid (show Below w4.heap.size w4 w6.drew from HB6.out.drew)
          generalize w6.drew = w7 at *
          go_wp2_with fail
          go_roundg (i - (j + 1))
          case measure => omega
          case rel => exact ⟨j + 1, by rw [HTS.out], by go_num, by omega, Nat.le_refl _, HB7.out⟩
        · have hlt2' : ¬ (j : Int) < (i : Int) := by omega
          have hcv1 := HCV.out wr (HBW.out.trans (HB5.out.mono HBW.out.size))
          have HT5 := hid (HTX.out wr.drew HB5.out.drew)
          have HC5 := hid (fun W (h : Below w4.heap.size w4 W) => HCV.out W (HBW.out.trans (h.mono HBW.out.size)))
          clear hlt2 hg2
          generalize runB D = s at *
          go_wp2_with fail
          refine wp_region_held_drew (S := fun w' : World => (convert 22 9 (.slice c0 s.size cp0)).run Tryz.prog w' = .ok (.string s) w') (by kernel_rfl) (HC5.out _ HB5.out.drew) (fun hHeld => ?_)
          clear hcv1
          refine wpAnyH_take (i := 0) (v := ?hv1) rfl (by kernel_rfl) (by kernel_rfl) (by kernel_rfl) (fun _ _ _ h => h) (Or.inl ⟨by rfl, ?hy1⟩) (by assumption) ?hr1
          case hy1 => (intro w hSw; (try dsimp only at hSw); go_simp; try with_reducible rfl)
          (try simp only [Act.put, List.getElem_toArray, List.getElem_cons_zero, List.setIfInBounds_toArray, List.set_cons_zero, List.set_cons_succ])
          refine wpAnyH_take (i := 2) (v := ?hv2) rfl (by kernel_rfl) (by kernel_rfl) (by kernel_rfl) (fun _ _ _ h => h) (Or.inl ⟨by rfl, ?hy2⟩) (by assumption) ?hr2
          case hy2 => (intro w hSw; (try dsimp only at hSw); go_simp; try with_reducible rfl)
          (try simp only [Act.put, List.getElem_toArray, List.getElem_cons_zero, List.getElem_cons_succ, List.setIfInBounds_toArray, List.set_cons_zero, List.set_cons_succ])
          refine wpAnyH_take (i := 3) (v := ?hv3) rfl (by kernel_rfl) (by kernel_rfl) (by kernel_rfl) (fun _ _ _ h => h) (Or.inl ⟨by rfl, ?hy3⟩) (by assumption) ?hr3
          case hy3 => (intro w hSw; (try dsimp only at hSw); go_simp; try with_reducible rfl)
          (try simp only [Act.put, List.getElem_toArray, List.getElem_cons_zero, List.getElem_cons_succ, List.setIfInBounds_toArray, List.set_cons_zero, List.set_cons_succ])
          refine wpAnyH_ready (rs := [1]) (by kernel_rfl) (by simp) ?_
          refine AllReadyH.cons rfl (fun K hK => ?_) AllReadyH.nil
          go_simp
          go_at_call 20
          refine HT5.out.mono ?_
          rintro e w6 ⟨rfl, hb6⟩
          have HB6 := hid (HB5.out.drew.trans (hb6.mono (by exact HB5.out.size)))
          clear hb6
          go_wp2_with fail
          refine hK.out _ _ (HC5.out _ HB6.out) (fun hHeld2 => ?_)
          clear hK K hHeld
          refine wpAnyH_take (i := 4) (v := ?hv4) rfl (by kernel_rfl) (by kernel_rfl) (by kernel_rfl) (fun _ _ _ h => h) (Or.inl ⟨by rfl, ?hy4⟩) (by assumption) ?hr4
          case hy4 => (intro w hSw; (try dsimp only at hSw); go_simp; try with_reducible rfl)
          (try simp only [Act.put, List.getElem_toArray, List.getElem_cons_zero, List.getElem_cons_succ, List.setIfInBounds_toArray, List.set_cons_zero, List.set_cons_succ])
          refine wpAnyH_take (i := 5) (v := ?hv5) rfl (by kernel_rfl) (by kernel_rfl) (by kernel_rfl) (fun _ _ _ h => h) (Or.inl ⟨by rfl, ?hy5⟩) (by assumption) ?hr5
          case hy5 => (intro w hSw; (try dsimp only at hSw); go_simp; try with_reducible rfl)
          (try simp only [Act.put, List.getElem_toArray, List.getElem_cons_zero, List.getElem_cons_succ, List.setIfInBounds_toArray, List.set_cons_zero, List.set_cons_succ])
          refine wpAnyH_done (by kernel_rfl) ?_ _
          clear hHeld2
          go_wp2_with fail
          go_ret
          exact ⟨rfl, HB4.out.trans (HB6.out.mono HB4.out.size)⟩
end Go.Proofs.YtlfbgaknljdanaaGreatDoor.extractPlain
