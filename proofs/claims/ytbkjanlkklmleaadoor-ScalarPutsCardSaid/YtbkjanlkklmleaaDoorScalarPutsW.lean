/- The walk of the law ScalarPuts. -/
import Derived.Test.YtbkjanlkklmleaaDoorScB
import Derived.Test.YtbkjanlkklmleaaDoorAwake01
import Derived.Deep.RegionWith
namespace Go.Proofs.YtbkjanlkklmleaaDoor.scalarPuts
open Go.RowKit
open Go.Lib Hx
set_option linter.unusedVariables false
set_option maxRecDepth 100000

set_option maxHeartbeats 4000000 in
theorem walk (r : Int) (w : World) (w0 : (Lit.int .i32 r).wf = true) (hdb : Db w) (hev : ErrV w) :
    Calls Tryd.prog 4 #[.int .i32 r] w fun e w' => e = .returned (.bool true) ∧ Below w.heap.size w w' := by
  have hr32 : -2147483648 ≤ r ∧ r ≤ 2147483647 := by
    simp only [Lit.wf, IntKind.min, IntKind.max, IntKind.signed, IntKind.bits, Bool.and_eq_true] at w0
    simp at w0
    omega
  have hw64 : IntKind.i64.wrap r = r := IntWalk.i64_in _ (by omega)
  have HAW := hid (fun W => awake01_any W)
  have HPU := hid (fun W => put_any r W)
  have HM := hid (putFX_mem r)
  have hlen : (putF r).length ≤ 4 := by rw [putF_putI]; exact (putI_len r).1
  have HAL := hid (fun a cap W hs => all_any a cap (putF r) W hs (by omega))
  have HVA := hid (fun a cap W hs => valid_any a cap (putF r) W hs)
  have HPA := hid (put_all r)
  have HPV := hid (put_valid r)
  have HPR := hid (fun W h => scPrint_any r hr32.1 hr32.2 W h)
  have HSP := hid (fun W h1 h2 => scparse_any (prB r) (by
    unfold prB
    rw [mkB_size, List.length_append, List.length_append]
    have h1 := hex4U_len r.natAbs (by omega)
    have h2 : (signD r).length ≤ 1 := by unfold signD; split <;> simp
    simp
    omega) W h1 h2)
  have HRP := hid (fun W => refput_any r W)
  have HTT := hid (show scB r = ofInts (putF r) by unfold scB; rw [putF_putI])
  have hsc0 := (scB_size r).2
  have HSC0 := hid hsc0
  have HHX := hid (fun W => refHex_any r hr32.1 hr32.2 W)
  have hcat : (⟨#[85, 43]⟩ : ByteArray) ++ mkB (signD r ++ hex4U r.natAbs) = prB r := by
    unfold prB
    rw [List.append_assoc, ← mkB_append]
    rfl
  have hHs : (mkB (signD r ++ hex4U r.natAbs)).size ≤ 9 := by
    rw [mkB_size, List.length_append]
    have h1 := hex4U_len r.natAbs (by omega)
    have h2 : (signD r).length ≤ 1 := by unfold signD; split <;> simp
    omega
  have HPF := hid (show ∀ (v er : Int), ((scR v = true ∧ prB r = prB v ∧ er = 0) ∨ (v = 0 ∧ er = 4 ∧ ∀ q, scR q = true → prB r ≠ prB q)) → (scR r = true ∧ v = r ∧ er = 0) ∨ (scR r = false ∧ v = 0 ∧ er = 4) from fun v er h => by
    rcases h with ⟨h1, h2, h3⟩ | ⟨h1, h2, h3⟩
    · have := prB_inj h2
      subst this
      exact .inl ⟨h1, rfl, h3⟩
    · cases hr : scR r
      · exact .inr ⟨rfl, h1, h2⟩
      · exact absurd rfl (h3 r hr))
  have HQ := hid (show putQ r = if scR r then r else 65533 from rfl)
  have HRI := hid (fun W => refright_any r W)
  have HRS := hid (show rightR r = scR r from rfl)
  generalize prB r = P at *
  generalize mkB (signD r ++ hex4U r.natAbs) = H at *
  have HCAT := hid hcat
  have hb1 : ¬ (2 + H.size > 9223372036854775807) := by omega
  have hb2 : ¬ (9223372036854775807 < 2 + H.size) := by omega
  have HDB := hid hdb
  have HEV := hid hev
  clear w0 hdb hev hsc0 hcat
  go_enter Tryd.func4, Tryd.ntmps4
  go_wp2_with fail
  refine (HPU.out _).mono ?_
  rintro e w1 ⟨v1, rfl, hn1, hbw1⟩
  obtain ⟨b, rfl, hsb⟩ := sb_new hn1 HM.out (by omega)
  have HN1 := hid hn1
  have HS1 := hid hsb
  have HB1 := hid hbw1
  have HDB1 := hid (HDB.out.below hbw1 (Nat.le_refl _))
  have HEV1 := hid (HEV.out.below hbw1 (Nat.le_refl _))
  clear hn1 hsb hbw1
  go_wp2_with fail
  refine (HAL.out _ _ _ HS1.out).mono ?_
  rintro e w2 ⟨v2, rfl, hm2, hbw2⟩
  rw [HPA.out] at hm2
  obtain ⟨g, cap, rfl, hg, hgc⟩ := made_one hm2
  have HGC := hid hgc
  have HB2 := hid hbw2
  have HDB2 := hid (HDB1.out.below hbw2 (Nat.le_refl _))
  have HEV2 := hid (HEV1.out.below hbw2 (Nat.le_refl _))
  clear hm2 hgc hbw2
  go_wp2_with fail
  refine (HPR.out _ HDB2.out).mono ?_
  rintro e w3 ⟨rfl, hbw3⟩
  have HB3 := hid (HB2.out.trans (hbw3.mono HB2.out.size))
  have HB23 := hid hbw3
  have HDB3 := hid (HDB2.out.below hbw3 (Nat.le_refl _))
  have HEV3 := hid (HEV2.out.below hbw3 (Nat.le_refl _))
  clear hbw3
  go_wp2_with fail
  refine (HSP.out _ HEV3.out HDB3.out).mono ?_
  rintro e w4 ⟨⟨v, er, rfl, hp⟩, hbw4⟩
  have hp2 : (scR v = true ∧ P = prB v ∧ (er : Int) = 0) ∨ (v = 0 ∧ (er : Int) = 4 ∧ ∀ q, scR q = true → P ≠ prB q) := hp
  have HP := hid (HPF.out v er hp2)
  clear hp2
  have HB14 := hid (HB3.out.trans (hbw4.mono HB3.out.size))
  have HB24 := hid (HB23.out.trans (hbw4.mono HB23.out.size))
  have hbd : Below w4.heap.size w4 w4.drew := ⟨rfl, rfl, rfl, Nat.le_refl _, fun _ _ => rfl⟩
  have HBD := hid hbd
  have HC1 := hid (fun W (hb : Below w1.heap.size w1 W) => conv_newX HN1.out HM.out W hb)
  have hc0 := HC1.out w4.drew (HB14.out.trans (hbd.mono HB14.out.size))
  obtain ⟨T, hT⟩ : ∃ T, T = ofInts (putF r) := ⟨_, rfl⟩
  rw [← hT] at hc0 HC1 HTT
  have htt : (T.toList == T.toList) = true := by simp
  have hpp : (P.toList == P.toList) = true := by simp
  clear hp hbw4 hbd hT
  have HSS := hid (fun (w' : World) (h : Below w4.heap.size w4 w') => (show (convert 28 9 (.slice (some ⟨b, 0, none⟩) (putF r).length (putF r).length)).run Tryd.prog w' = .ok (.string T) w' ∧ w4.heap.size ≤ w'.heap.size from ⟨HC1.out w' (HB14.out.trans (h.mono HB14.out.size)), h.size⟩))
  have hcat := HCAT.out
  obtain ⟨nn, hnn⟩ : ∃ nn, nn = (putF r).length := ⟨_, rfl⟩
  have HNN := hid hnn
  have HVB := hid (fun W (h : SB W (some ⟨b, 0, none⟩) nn (putF r)) => (show Calls Tryd.prog 13 #[.slice (some ⟨b, 0, none⟩) nn nn] W fun e W' => e = .returned (.bool (validF (putF r))) ∧ Below W.heap.size W W' from by have := HVA.out (some ⟨b, 0, none⟩) nn W h; rw [← HNN.out] at this; exact this))
  rw [← hnn] at HSS hc0 HS1 ⊢
  clear hnn
  go_upto_region 5 with fail
  refine wp_region_held_drew (S := fun w' : World => (convert 28 9 (.slice (some ⟨b, 0, none⟩) nn nn)).run Tryd.prog w' = .ok (.string T) w' ∧ w4.heap.size ≤ w'.heap.size) (by kernel_rfl) (HSS.out _ HBD.out) (fun hHeld => ?_)
  refine wpAnyH_take (i := 0) (v := ?hv1) rfl (by kernel_rfl) (by kernel_rfl) (by kernel_rfl) (fun _ _ _ h => h) (Or.inl ⟨by rfl, ?hy1⟩) (by assumption) ?hr1
  case hy1 => (intro w hSw; (try dsimp only at hSw); go_simp; try with_reducible rfl)
  (try simp only [Act.put, List.getElem_toArray, List.getElem_cons_zero, List.setIfInBounds_toArray, List.set_cons_zero, List.set_cons_succ])
  refine wpAnyH_take (i := 1) (v := ?hv2) rfl (by kernel_rfl) (by kernel_rfl) (by kernel_rfl) (fun _ _ _ h => h) (Or.inl ⟨by rfl, ?hy2⟩) (by assumption) ?hr2
  case hy2 => (intro w hSw; (try dsimp only at hSw); go_simp; try with_reducible rfl)
  (try simp only [Act.put, List.getElem_toArray, List.getElem_cons_zero, List.getElem_cons_succ, List.setIfInBounds_toArray, List.set_cons_zero, List.set_cons_succ])
  refine wpAnyH_take (i := 2) (v := ?hv3) rfl (by kernel_rfl) (by kernel_rfl) (by kernel_rfl) (fun _ _ _ h => h) (Or.inl ⟨by rfl, ?hy3⟩) (by assumption) ?hr3
  case hy3 => (intro w hSw; (try dsimp only at hSw); go_simp; try with_reducible rfl)
  (try simp only [Act.put, List.getElem_toArray, List.getElem_cons_zero, List.getElem_cons_succ, List.setIfInBounds_toArray, List.set_cons_zero, List.set_cons_succ])
  refine wpAnyH_ready (rs := [3]) (by kernel_rfl) (by simp) ?_
  refine AllReadyH.cons rfl (fun K hK => ?_) AllReadyH.nil
  go_simp
  go_at_call 11
  refine (HRP.out _).mono ?_
  rintro e w5 ⟨v5, rfl, hn5, hb5⟩
  have hb45 := HBD.out.trans hb5
  have c5 := conv_newB hn5 HSC0.out
  rw [HTT.out] at c5
  have HB5 := hid hb45
  clear hb5 hb45 hn5
  go_wp2_with fail
  refine hK.out _ _ (HSS.out _ HB5.out) (fun hHeld2 => ?_)
  clear hK K hHeld
  refine wpAnyH_ready (rs := [4]) (by kernel_rfl) (by simp) ?_
  refine AllReadyH.cons rfl (fun K hK => ?_) AllReadyH.nil
  go_wp2_with fail
  refine hK.out _ _ (HSS.out _ HB5.out) (fun hHeld3 => ?_)
  clear hK K hHeld2
  refine wpAnyH_take (i := 5) (v := ?hv4) rfl (by kernel_rfl) (by kernel_rfl) (by kernel_rfl) (fun _ _ _ h => h) (Or.inl ⟨by rfl, ?hy4⟩) (by assumption) ?hr4
  case hy4 => (intro w hSw; (try dsimp only at hSw); go_simp; try with_reducible rfl)
  (try simp only [Act.put, List.getElem_toArray, List.getElem_cons_zero, List.getElem_cons_succ, List.setIfInBounds_toArray, List.set_cons_zero, List.set_cons_succ])
  refine wpAnyH_take (i := 6) (v := ?hv5) rfl (by kernel_rfl) (by kernel_rfl) (by kernel_rfl) (fun _ _ _ h => h) (Or.inl ⟨by rfl, ?hy5⟩) (by assumption) ?hr5
  case hy5 => (intro w hSw; (try dsimp only at hSw); go_simp; try with_reducible rfl)
  (try simp only [Act.put, List.getElem_toArray, List.getElem_cons_zero, List.getElem_cons_succ, List.setIfInBounds_toArray, List.set_cons_zero, List.set_cons_succ])
  refine wpAnyH_take (i := 7) (v := ?hv6) rfl (by kernel_rfl) (by kernel_rfl) (by kernel_rfl) (fun _ _ _ h => h) (Or.inl ⟨by rfl, ?hy6⟩) (by assumption) ?hr6
  case hy6 => (intro w hSw; (try dsimp only at hSw); go_simp; try with_reducible rfl)
  (try simp only [Act.put, List.getElem_toArray, List.getElem_cons_zero, List.getElem_cons_succ, List.setIfInBounds_toArray, List.set_cons_zero, List.set_cons_succ])
  refine wpAnyH_take (i := 8) (v := ?hv7) rfl (by kernel_rfl) (by kernel_rfl) (by kernel_rfl) (fun _ _ _ h => h) (Or.inl ⟨by rfl, ?hy7⟩) (by assumption) ?hr7
  case hy7 => (intro w hSw; (try dsimp only at hSw); go_simp; try with_reducible rfl)
  (try simp only [Act.put, List.getElem_toArray, List.getElem_cons_zero, List.getElem_cons_succ, List.setIfInBounds_toArray, List.set_cons_zero, List.set_cons_succ])
  refine wpAnyH_take (i := 9) (v := ?hv8) rfl (by kernel_rfl) (by kernel_rfl) (by kernel_rfl) (fun _ _ _ h => h) (Or.inl ⟨by rfl, ?hy8⟩) (by assumption) ?hr8
  case hy8 => (intro w hSw; (try dsimp only at hSw); go_simp; try with_reducible rfl)
  (try simp only [Act.put, List.getElem_toArray, List.getElem_cons_zero, List.getElem_cons_succ, List.setIfInBounds_toArray, List.set_cons_zero, List.set_cons_succ])
  refine wpAnyH_ready (rs := [10]) (by kernel_rfl) (by simp) ?_
  refine AllReadyH.cons rfl (fun K hK => ?_) AllReadyH.nil
  go_simp
  go_at_call 12
  refine (HHX.out _).mono ?_
  rintro e w6 ⟨rfl, hw6⟩
  obtain rfl : w5 = w6 := hw6.symm
  go_wp2_with fail
  refine hK.out _ _ (HSS.out _ HB5.out) (fun hHeld4 => ?_)
  clear hK K hHeld3
  refine wpAnyH_take (i := 11) (v := ?hv9) rfl (by kernel_rfl) (by kernel_rfl) (by kernel_rfl) (fun _ _ _ h => h) (Or.inl ⟨by rfl, ?hy9⟩) (by assumption) ?hr9
  case hy9 => (intro w hSw; (try dsimp only at hSw); go_simp; try with_reducible rfl)
  (try simp only [Act.put, List.getElem_toArray, List.getElem_cons_zero, List.getElem_cons_succ, List.setIfInBounds_toArray, List.set_cons_zero, List.set_cons_succ])
  refine wpAnyH_take (i := 12) (v := ?hv10) rfl (by kernel_rfl) (by kernel_rfl) (by kernel_rfl) (fun _ _ _ h => h) (Or.inl ⟨by rfl, ?hy10⟩) (by assumption) ?hr10
  case hy10 => (intro w hSw; (try dsimp only at hSw); go_simp; try with_reducible rfl)
  (try simp only [Act.put, List.getElem_toArray, List.getElem_cons_zero, List.getElem_cons_succ, List.setIfInBounds_toArray, List.set_cons_zero, List.set_cons_succ])
  refine wpAnyH_take (i := 13) (v := ?hv11) rfl (by kernel_rfl) (by kernel_rfl) (by kernel_rfl) (fun _ _ _ h => h) (Or.inl ⟨by rfl, ?hy11⟩) (by assumption) ?hr11
  case hy11 => (intro w hSw; (try dsimp only at hSw); go_simp; try with_reducible rfl)
  (try simp only [Act.put, List.getElem_toArray, List.getElem_cons_zero, List.getElem_cons_succ, List.setIfInBounds_toArray, List.set_cons_zero, List.set_cons_succ])
  refine wpAnyH_take (i := 14) (v := ?hv12) rfl (by kernel_rfl) (by kernel_rfl) (by kernel_rfl) (fun _ _ _ h => h) (Or.inl ⟨by rfl, ?hy12⟩) (by assumption) ?hr12
  case hy12 => (intro w hSw; (try dsimp only at hSw); go_simp; try with_reducible rfl)
  (try simp only [Act.put, List.getElem_toArray, List.getElem_cons_zero, List.getElem_cons_succ, List.setIfInBounds_toArray, List.set_cons_zero, List.set_cons_succ])
  refine wpAnyH_take (i := 15) (v := ?hv13) rfl (by kernel_rfl) (by kernel_rfl) (by kernel_rfl) (fun _ _ _ h => h) (Or.inl ⟨by rfl, ?hy13⟩) (by assumption) ?hr13
  case hy13 => (intro w hSw; (try dsimp only at hSw); go_simp; try with_reducible rfl)
  (try simp only [Act.put, List.getElem_toArray, List.getElem_cons_zero, List.getElem_cons_succ, List.setIfInBounds_toArray, List.set_cons_zero, List.set_cons_succ])
  refine wpAnyH_take (i := 16) (v := ?hv14) rfl (by kernel_rfl) (by kernel_rfl) (by kernel_rfl) (fun _ _ _ h => h) (Or.inl ⟨by rfl, ?hy14⟩) (by assumption) ?hr14
  case hy14 => (intro w hSw; (try dsimp only at hSw); go_simp; try with_reducible rfl)
  (try simp only [Act.put, List.getElem_toArray, List.getElem_cons_zero, List.getElem_cons_succ, List.setIfInBounds_toArray, List.set_cons_zero, List.set_cons_succ])
  refine wpAnyH_take (i := 17) (v := ?hv15) rfl (by kernel_rfl) (by kernel_rfl) (by kernel_rfl) (fun _ _ _ h => h) (Or.inl ⟨by rfl, ?hy15⟩) (by assumption) ?hr15
  case hy15 => (intro w hSw; (try dsimp only at hSw); go_simp; try with_reducible rfl)
  (try simp only [Act.put, List.getElem_toArray, List.getElem_cons_zero, List.getElem_cons_succ, List.setIfInBounds_toArray, List.set_cons_zero, List.set_cons_succ])
  refine wpAnyH_take (i := 18) (v := ?hv16) rfl (by kernel_rfl) (by kernel_rfl) (by kernel_rfl) (fun _ _ _ h => h) (Or.inl ⟨by rfl, ?hy16⟩) (by assumption) ?hr16
  case hy16 => (intro w hSw; (try dsimp only at hSw); go_simp; try with_reducible rfl)
  (try simp only [Act.put, List.getElem_toArray, List.getElem_cons_zero, List.getElem_cons_succ, List.setIfInBounds_toArray, List.set_cons_zero, List.set_cons_succ])
  refine wpAnyH_take (i := 19) (v := ?hv17) rfl (by kernel_rfl) (by kernel_rfl) (by kernel_rfl) (fun _ _ _ h => h) (Or.inl ⟨by rfl, ?hy17⟩) (by assumption) ?hr17
  case hy17 => (intro w hSw; (try dsimp only at hSw); go_simp; try with_reducible rfl)
  (try simp only [Act.put, List.getElem_toArray, List.getElem_cons_zero, List.getElem_cons_succ, List.setIfInBounds_toArray, List.set_cons_zero, List.set_cons_succ])
  refine wpAnyH_take (i := 20) (v := ?hv18) rfl (by kernel_rfl) (by kernel_rfl) (by kernel_rfl) (fun _ _ _ h => h) (Or.inl ⟨by rfl, ?hy18⟩) (by assumption) ?hr18
  case hy18 => (intro w hSw; (try dsimp only at hSw); go_simp; try with_reducible rfl)
  (try simp only [Act.put, List.getElem_toArray, List.getElem_cons_zero, List.getElem_cons_succ, List.setIfInBounds_toArray, List.set_cons_zero, List.set_cons_succ])
  refine wpAnyH_ready (rs := [21]) (by kernel_rfl) (by simp) ?_
  refine AllReadyH.cons rfl (fun K hK => ?_) AllReadyH.nil
  go_simp
  go_at_call 13
  refine (HVB.out _ (HS1.out.below (HB14.out.trans (HB5.out.mono HB14.out.size)) (Nat.le_refl _))).mono ?_
  rintro e w7 ⟨rfl, hb7⟩
  rw [HPV.out]
  have HB7 := hid (HB5.out.trans (hb7.mono HB5.out.size))
  clear hb7
  go_wp2_with fail
  refine hK.out _ _ (HSS.out _ HB7.out) (fun hHeld5 => ?_)
  clear hK K hHeld4
  refine wpAnyH_take (i := 22) (v := ?hv19) rfl (by kernel_rfl) (by kernel_rfl) (by kernel_rfl) (fun _ _ _ h => h) (Or.inl ⟨by rfl, ?hy19⟩) (by assumption) ?hr19
  case hy19 => (intro w hSw; (try dsimp only at hSw); go_simp; try with_reducible rfl)
  (try simp only [Act.put, List.getElem_toArray, List.getElem_cons_zero, List.getElem_cons_succ, List.setIfInBounds_toArray, List.set_cons_zero, List.set_cons_succ])
  refine wpAnyH_take (i := 23) (v := ?hv20) rfl (by kernel_rfl) (by kernel_rfl) (by kernel_rfl) (fun _ _ _ h => h) (Or.inl ⟨by rfl, ?hy20⟩) (by assumption) ?hr20
  case hy20 => (intro w hSw; (try dsimp only at hSw); go_simp; try with_reducible rfl)
  (try simp only [Act.put, List.getElem_toArray, List.getElem_cons_zero, List.getElem_cons_succ, List.setIfInBounds_toArray, List.set_cons_zero, List.set_cons_succ])
  refine wpAnyH_done (by kernel_rfl) ?_ _
  clear hHeld5 c5
  all_goals
    have hgc7 := (((HB24.out.trans (HB7.out.mono HB24.out.size)).cell (p := ⟨g, 0, none⟩) hg).trans HGC.out)
    have HBW := hid ((HB1.out.trans (HB14.out.mono HB1.out.size)).trans (HB7.out.mono (Nat.le_trans HB1.out.size HB14.out.size)))
    rcases HP.out with ⟨hs, hv, he⟩ | ⟨hs, hv, he⟩
    · subst hv he
      have HR2 := hid (HRI.out w7)
      rw [HRS.out, hs] at HR2
      have hq := HQ.out
      rw [hs, if_pos rfl] at hq
      rw [hq] at hgc7
      have hrr : (v == v) = true := by simp
      clear hs hq hcat
      go_wp2_with fail
      refine HR2.out.mono ?_
      rintro e w8 ⟨rfl, hw8⟩
      obtain rfl : w7 = w8 := hw8.symm
      go_wp2_with fail
      refine (HAW.out _).mono ?_
      rintro e w9 ⟨rfl, hb9⟩
      have HB9 := hid (HBW.out.trans (hb9.mono HBW.out.size))
      clear hb9
      go_wp2_with fail
      go_ret
      exact ⟨rfl, HB9.out⟩
    · subst hv he
      have HR2 := hid (HRI.out w7)
      rw [HRS.out, hs] at HR2
      have hq := HQ.out
      rw [hs, if_neg (by decide)] at hq
      rw [hq] at hgc7
      clear hs hq hcat
      go_wp2_with fail
      refine HR2.out.mono ?_
      rintro e w8 ⟨rfl, hw8⟩
      obtain rfl : w7 = w8 := hw8.symm
      go_wp2_with fail
      refine (HAW.out _).mono ?_
      rintro e w9 ⟨rfl, hb9⟩
      have HB9 := hid (HBW.out.trans (hb9.mono HBW.out.size))
      clear hb9
      go_wp2_with fail
      go_ret
      exact ⟨rfl, HB9.out⟩
end Go.Proofs.YtbkjanlkklmleaaDoor.scalarPuts
