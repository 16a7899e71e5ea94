/- The walk of the law FeedPieces. -/
import Derived.Test.YtpnbkecchfhimaaGreatDoorFdLaid
import Derived.Test.YtpnbkecchfhimaaGreatDoorFdT
import Derived.StillTailTactics
import Derived.BigQuiet
import Derived.Test.YtpnbkecchfhimaaGreatDoorOpen
namespace Go.Proofs.YtpnbkecchfhimaaGreatDoor.feedPieces
open Go.RowKit Go.Shelf
open Go.Lib (hid)
set_option linter.unusedVariables false
set_option linter.unusedSimpArgs false
set_option maxRecDepth 100000

theorem grown_over {w w1 w2 : World} {g : Nat} {row : Option Nat} (h : w.grownBy w1 (some g)) (h2 : w1.grownBy w2 row) (hr : ∀ j, row = some j → w.heap.size ≤ j) : w.grownBy w2 (some g) :=
  ⟨h2.os.trans h.os, h2.tape.trans h.tape, h2.output.trans h.output, Nat.le_trans h.size h2.size, fun k hk hne => (h2.block k (Nat.lt_of_lt_of_le hk h.size) (fun e => by have := hr k e.symm; omega)).trans (h.block k hk hne)⟩
theorem row_grown {w w' : World} {B g n : Nat} {e : TypeId} {v : Value} {sz : Nat} {xs : List Value} (h : w.ownsRow B e sz v n xs) (hg : w.grownBy w' (some g)) (hB : g < B) : w'.ownsRow B e sz v n xs :=
  own_kept h hg (fun k e1 e2 => by
    have h1 := (h.lt k e1).1
    injection e2 with e2
    omega)
theorem told_more {s s' : ByteArray} {m k : Nat} (hok : FdOk s m k) (hp : Pre s s') : (toks s).take (m + k) ++ ((toks s').take (setN s')).drop (m + k) = (toks s').take (setN s') := by
  obtain ⟨h', ht, _⟩ := hok.grow hp
  have hle := h'.le_setN
  rw [← ht]
  have : (toks s').take (m + k) = ((toks s').take (setN s')).take (m + k) := by rw [List.take_take, Nat.min_eq_left hle]
  rw [this, List.take_append_drop]
theorem reads_own {B n m : Nat} {w : World} {v : Value} {l : List Tk} (h : w.ownsRow B 29 6 v n (tkCells l)) : ∃ A c, v = .slice A n c ∧ Reads w w.heap.size 6 A n (tkCells l) := by
  obtain ⟨A, c, rfl⟩ := owns_slice h
  exact ⟨A, c, rfl, Reads.of_own h⟩
theorem tkCells_oneF (l : List Tk) : ∀ u ∈ tkCells l, u.oneCell' = true := by
  intro u hu
  unfold tkCells at hu
  rw [List.mem_flatMap] at hu
  obtain ⟨t, _, ht⟩ := hu
  simp [tkC] at ht
  rcases ht with rfl | rfl | rfl | rfl | rfl | rfl <;> rfl
theorem catB_pre {l : List Pz} {i : Nat} (h : i < l.length) : Pre (catB (l.take i)) (catB (l.take (i + 1))) := by
  rw [catB_take h]
  exact ⟨by rw [ByteArray.size_append]; omega, fun j hj => byt_left _ _ j hj⟩
theorem catB_le (l : List Pz) : ∀ i, (catB (l.take i)).size ≤ (catB l).size := by
  intro i
  have : ∀ (a b : List Pz), catB (a ++ b) = catB a ++ catB b := by
    intro a b
    induction a with
    | nil => rw [List.nil_append]; exact (bnil_app _).symm
    | cons x a ih => show x.t ++ catB (a ++ b) = x.t ++ catB a ++ catB b; rw [ih, bapp_assoc]
  have h := this (l.take i) (l.drop i)
  rw [List.take_append_drop] at h
  rw [h, ByteArray.size_append]
  omega
set_option maxHeartbeats 8000000 in
theorem walk (b : Option Addr) (bLen bCap : Nat) (bD : List Int) (c : Option Addr) (cLen cCap : Nat) (cD : List Int) (d : Option Addr) (dLen dCap : Nat) (dD : List Int) (w : World) (w0 : IsRow .u8 w b bLen bCap bD) (w1 : IsRow .u8 w c cLen cCap cD) (w2 : IsRow .u8 w d dLen dCap dD) (hsh : w.ShapedOpen Tryz.prog) (hdb : Hx.Db w) :
    Calls Tryz.prog 4 #[.slice b bLen bCap, .slice c cLen cCap, .slice d dLen dCap] w fun e w' => e = .returned (.bool true) ∧ Below w.heap.size w w' := by
  obtain ⟨i0, hi, hz0, hz1, hz2⟩ := info_parts info_tk
  have hmx := mx_of hsh
  obtain ⟨s, hba⟩ := ba_of w0
  obtain ⟨zc, hbc⟩ := ba_of w1
  obtain ⟨zd, hbd⟩ := ba_of w2
  have HAW := hid (fun W (h : Below w.heap.size w W) => fdawake_any W (hdb.below h (Nat.le_refl _)) (hmx.below h (Nat.le_refl _)))
  by_cases hbb : 200 < bLen
  · have hbb' : (200 : Int) < (bLen : Int) := by omega
    clear hba hbc hbd w0 w1 w2
    go_enter Tryz.func4, Tryz.ntmps4
    go_wp2_with fail
    refine (HAW.out _ (Below.refl _ _)).mono ?_
    rintro e w2 ⟨rfl, hb2⟩
    have HB2 := hid hb2
    clear hb2
    go_wp2_with fail
    go_ret
    exact ⟨rfl, HB2.out⟩
  have hbb' : ¬ (200 : Int) < (bLen : Int) := by omega
  by_cases hcb : 60 < cLen
  · have hcb' : (60 : Int) < (cLen : Int) := by omega
    clear hba hbc hbd w0 w1 w2
    go_enter Tryz.func4, Tryz.ntmps4
    go_wp2_with fail
    refine (HAW.out _ (Below.refl _ _)).mono ?_
    rintro e w2 ⟨rfl, hb2⟩
    have HB2 := hid hb2
    clear hb2
    go_wp2_with fail
    go_ret
    exact ⟨rfl, HB2.out⟩
  have hcb' : ¬ (60 : Int) < (cLen : Int) := by omega
  by_cases hdb : 60 < dLen
  · have hdb' : (60 : Int) < (dLen : Int) := by omega
    clear hba hbc hbd w0 w1 w2
    go_enter Tryz.func4, Tryz.ntmps4
    go_wp2_with fail
    refine (HAW.out _ (Below.refl _ _)).mono ?_
    rintro e w2 ⟨rfl, hb2⟩
    have HB2 := hid hb2
    clear hb2
    go_wp2_with fail
    go_ret
    exact ⟨rfl, HB2.out⟩
  have hdb' : ¬ (60 : Int) < (dLen : Int) := by omega
  have HBA := hid (fun W (h : Below w.heap.size w W) => hba.below h (Nat.le_refl _))
  have HBC := hid hbc
  have HBD := hid hbd
  have HMX := hid hmx
  have HLS := hid hba.1
  clear hba hbc hbd w0 w1 w2 hmx hdb hsh
  go_enter Tryz.func4, Tryz.ntmps4
  go_wp2_with fail
  refine (HAW.out _ (Below.refl _ _)).mono ?_
  rintro e w2 ⟨rfl, hb2⟩
  have HB2 := hid hb2
  clear hb2
  go_wp2_with fail
  refine (tokAll_any b bLen bCap s w2 (HBA.out w2 HB2.out) (HMX.out.below HB2.out (Nat.le_refl _)) (by omega)).mono ?_
  rintro e wa ⟨va, rfl, hmd, hba2⟩
  obtain ⟨At, ct, rfl, htra, _⟩ := slice_form hmd
  have HBW := hid (HB2.out.trans (hba2.mono HB2.out.size))
  have HTRW := hid (fun W (h : Below wa.heap.size wa W) => htra.below h (Nat.le_refl _))
  clear hmd hba2 htra HAW
  obtain ⟨T, hT⟩ : ∃ T, T = (toks s).length := ⟨_, rfl⟩
  have HT := hid hT
  have hT2 : T ≤ 200 := by rw [hT]; have := toks_len s; have := HLS.out; omega
  rw [← hT] at HTRW ⊢
  clear hT
  go_wp2_with fail
  go_loopg [1, 8] 2 (fun kx s1 s8 wr => ∃ (C : Option Addr) (nc cc k : Nat) (zc : ByteArray), s1 = .slice C nc cc ∧ s8 = .int .i64 k ∧ nc ≤ 60 ∧ k ≤ 2 ∧ 2 - k ≤ kx ∧ Hid (BA w C nc cc zc) ∧ Hid (Below wa.heap.size wa wr))
  case atStart => exact ⟨c, cLen, cCap, 0, zc, rfl, rfl, by omega, by decide, Nat.le_refl _, HBC.out, Below.refl _ _⟩
  case round =>
    obtain ⟨C, nc, cc, k, zc', rfl, rfl, hnc, hk2, hg, HCC, HBR⟩ := hrel
    obtain ⟨wo, rfl⟩ : ∃ wo, wo = wr := ⟨wr, rfl⟩
    have HBWr := hid (HBW.out.trans (HBR.out.mono HBW.out.size))
    have hsr := HBWr.out.size
    have hcs : k = 0 ∨ k = 1 ∨ k = 2 := by omega
    rcases hcs with rfl | rfl | rfl
    · go_upto_region 9 with fail
      go_wp2_with fail
      refine (fdNew_any wo).mono ?_
      rintro e w3 ⟨rfl, hf3, hb3⟩
      have HB3 := hid (HBWr.out.trans (hb3.mono hsr))
      have HCU := hid (cut_any b bLen bCap s C nc cc zc' w3 (HBA.out w3 HB3.out) (HCC.out.below HB3.out (Nat.le_refl _)) (by omega) (by omega))
      have HF3 := hid hf3
      have hg3 := hf3.lt
      have HB3r := hid (HBR.out.trans (hb3.mono HBR.out.size))
      clear hb3 hf3
      go_wp2_with fail
      refine HCU.out.mono ?_
      rintro e w4 ⟨vl, pl, rfl, hrl, hplN, hpz, hcat, hb4⟩
      obtain ⟨Al, cl, rfl⟩ := owns_slice hrl
      have HB4 := hid (HB3.out.trans (hb4.mono HB3.out.size))
      have HB4r := hid (HB3r.out.trans (hb4.mono HB3r.out.size))
      have HF4 := hid (HF3.out.below hb4 (Nat.le_refl _))
      obtain ⟨N, hN⟩ : ∃ N, N = pl.length := ⟨_, rfl⟩
      have HN := hid hN
      have HPZ := hid hpz
      have HCAT := hid hcat
      have hrl' := hrl
      rw [hplN] at hrl'
      obtain ⟨bl, cl2, e⟩ := ownsRow_succ (k := nc) hrl'
      have hbl := hrl.lt
      injection e with e1 _ _
      subst e1
      have hbl2 := hbl bl rfl
      have HCELL := hid (fun (j : Nat) (hj : j < pl.length) => (hrl.cellAt j (by omega)).trans (show (pl.map Pz.val)[j]? = some (pl[j].val) by rw [List.getElem?_map, List.getElem?_eq_getElem hj]; rfl))
      have hN2 : N ≤ 61 := by omega
      have hs4g : wo.heap.size < w4.heap.size := Nat.lt_of_lt_of_le hg3 hb4.size
      rw [← hN] at hrl ⊢
      have hcz := catB_le pl
      rw [hcat] at hcz
      have HCZ := hid hcz
      clear hrl hrl' hplN hpz hcat hb4 hbl hN hcz HF3 HCU HB3 HB3r
      go_wp2_with fail
      go_loopg [11, 12] N (fun kx s11 s12 wr => ∃ (v : Value) (i m k : Nat) (was : ByteArray) (wz : Nat) (wt : Int), s11 = v ∧ s12 = .int .i64 i ∧ i ≤ N ∧ N - i ≤ kx ∧ Hid (wr.ownsRow w4.heap.size 29 6 v (m + k) (tkCells ((toks (catB (pl.take i))).take (m + k)))) ∧ Hid (FdAt wr wo.heap.size (catB (pl.take i)) m k was wz ((catB (pl.take i)).size : Int) wt false) ∧ Hid (FdOk (catB (pl.take i)) m k) ∧ Hid (w4.grownBy wr (some wo.heap.size)))
      case atStart => exact ⟨_, 0, 0, 0, noB, 0, 0, rfl, rfl, Nat.zero_le _, Nat.le_refl _, World.ownsRow_nil _ _ _ _, HF4.out, FdOk.zero, ⟨rfl, rfl, rfl, Nat.le_refl _, fun _ _ _ => rfl⟩⟩
      case round =>
        obtain ⟨v, i, m, kk, was, wz, wt, rfl, rfl, hi1, hgi, HROW, HF, HOK, HG⟩ := hrel
        have hszq := HG.out.size
        have HBq := hid (below_new HB4.out HG.out hsr HB4.out.size)
        by_cases hlt : i < N
        · have hlt' : (i : Int) < (N : Int) := by omega
          have hil : i < pl.length := by rw [← HN.out]; exact hlt
          have x0 := (World.cell?_of_block (HG.out.block bl hbl2.2 (fun e => by injection e with e; omega)) : _ = w4.cell? ⟨bl, i, none⟩).trans (HCELL.out i hil)
          have hpok := (HPZ.out _ (List.getElem_mem hil)).1
          have hpn := (HPZ.out _ (List.getElem_mem hil)).2
          have hcu := HCZ.out i
          have hcu1 := HCZ.out (i + 1)
          have hct := catB_take hil
          have hpre := catB_pre hil
          have hpw := hpok w (HBA.out w (Below.refl _ _))
          have hpq := hpok wr (HBA.out wr HBq.out)
          generalize pl[i] = p at *
          obtain ⟨pA, pn, pc, pt⟩ := p
          simp only [Pz.val] at x0
          have hpq' : BA wr pA pn pc pt := hpq
          have hpw' : BA w pA pn pc pt := hpw
          have hct' : catB (pl.take (i + 1)) = catB (pl.take i) ++ pt := hct
          have HFE := hid (feed_any wo.heap.size (catB (pl.take i)) pt m kk was wz ((catB (pl.take i)).size : Int) wt pA pn pc wr HF.out HOK.out hpq' (fun h0 x o e => by
            obtain ⟨b', o', e', hlt9, _⟩ := hpw'.2.2.2 h0
            rw [e] at e'
            cases e'
            omega) (HMX.out.below HBq.out (Nat.le_refl _)) (mx_ne HMX.out hsr) (by rw [← hct']; have := HLS.out; omega) (by omega) (by have := HLS.out; omega))
          have HCT := hid hct'
          have HPRE := hid hpre
          have HPT := hid (show pn = pt.size from hpq'.1)
          have hsn : setN (catB (pl.take i) ++ pt) ≤ 200 := by
            have hLS := HLS.out
            have := setN_le (catB (pl.take i) ++ pt)
            have := toks_len (catB (pl.take i) ++ pt)
            rw [← hct'] at *
            omega
          have hmk := HOK.out.le
          have hmk2 : m + kk ≤ 200 := by have := toks_len (catB (pl.take i)); have := HLS.out; omega
          have hszq2 := HB4.out.size
          clear hpok hpn hct hpre hpw hpq hpq' hpw' hct' hcu hcu1 hil hmk
          obtain ⟨Av, cv, rfl⟩ := owns_slice HROW.out
          go_wp2_with (first
            | (go_at_call 12; refine HFE.out.mono ?_; rintro e w5 hp; unfold FeedPost at hp; obtain ⟨v1, m1, k1, rfl, hr1, hf1, hok1, hmk1, hgr1, hhi1⟩ := hp; obtain ⟨A1, c1, rfl, hrd1⟩ := reads_own (m := 0) hr1; have hrow5 := row_grown HROW.out hgr1 hs4g)
            | (at_builtin; go_must (refine wpList_append_any _ rfl (.tmp 51) (.tmp 57) 24 rfl w4.heap.size 29 i0 (.agg tk0) 6 48 Tryz.underlying24 hi hz0 hz1 hz2 rfl (by decide) _ (m + kk) _ rfl hrow5 _ A1 (setN (catB (pl.take i) ++ pt) - (m + kk)) c1 _ rfl hrd1 (tkCells_oneF _) (by unfold maxLen; omega) (by omega) (by have := hgr1.size; omega) ?_); intro v6 w6 hown6 hgrow6 _))
          have hle := hok1.le
          have hto := (HOK.out.grow HPRE.out).1.le_setN
          rw [HCT.out] at hto
          have hadd : m + kk + (setN (catB (pl.take i) ++ pt) - (m + kk)) = m1 + k1 := by omega
          have htold := told_more HOK.out HPRE.out
          rw [HCT.out] at htold
          have hrow6 : w6.ownsRow w4.heap.size 29 6 v6 (m1 + k1) (tkCells ((toks (catB (pl.take (i + 1)))).take (m1 + k1))) := by
            have h := hown6
            rw [hadd] at h
            have hlist : (toks (catB (pl.take i) ++ pt)).take (m1 + k1) = (toks (catB (pl.take i))).take (m + kk) ++ ((toks (catB (pl.take i) ++ pt)).take (setN (catB (pl.take i) ++ pt))).drop (m + kk) := by rw [hmk1]; exact htold.symm
            rw [HCT.out, hlist]
            unfold tkCells at h ⊢
            rw [List.flatMap_append]
            exact h
          have hv6 : ∀ j, (Value.slice Av (m + kk) cv).ownBlock = some j → w4.heap.size ≤ j ∧ j < wr.heap.size := fun j e => HROW.out.lt j e
          have hf6 := FdAt.row (L := wr.heap.size) hf1 hhi1 hgrow6 (fun j e => by have := hv6 j e; omega)
          have hg6 := grown_over (HG.out.trans hgr1) hgrow6 (fun j e => (hv6 j e).1)
          have HROW6 := hid hrow6
          have HF6 := hid hf6
          have HOK6 := hid hok1
          have HG6 := hid hg6
          clear hrow6 hf6 hok1 hg6 hown6 hgrow6 hf1 hhi1 hgr1 hr1 hrd1 hrow5 htold hadd hto hle hmk1 hv6
          go_roundg (N - (i + 1))
          case measure => omega
          case rel => exact ⟨v6, i + 1, m1, k1, _, _, _, rfl, by go_num, by omega, Nat.le_refl _, HROW6.out, by
            show FdAt _ _ (catB (pl.take (i + 1))) _ _ _ _ ((catB (pl.take (i + 1))).size : Int) _ _
            rw [HCT.out]
            have h := HF6.out
            rw [show ((catB (pl.take i) ++ pt).size : Int) = ((catB (pl.take i)).size : Int) + (pn : Int) by rw [ByteArray.size_append, HPT.out]; omega]
            exact h, by
            show FdOk _ _ _
            rw [HCT.out]
            exact HOK6.out, HG6.out⟩
        · obtain rfl : i = N := by omega
          have hlt' : ¬ (i : Int) < (i : Int) := by omega
          have hfull : catB (pl.take i) = s := by rw [HN.out, List.take_length]; exact HCAT.out
          have hrow := HROW.out
          have hf := HF.out
          have hok := HOK.out
          rw [hfull] at hrow hf hok
          have HCL := hid (close_any wo.heap.size s m kk was wz _ wt wr hf hok (HMX.out.below HBq.out (Nat.le_refl _)) (mx_ne HMX.out hsr) (by have := HLS.out; omega))
          have hmk := hok.le
          rw [← HT.out] at hmk HCL
          have HROW0 := hid hrow
          obtain ⟨Av, cv, rfl⟩ := owns_slice hrow
          clear hrow hf hok hfull HROW HF HOK
          have hadd : m + kk + (T - (m + kk)) = T := by omega
          go_wp2_with (first
            | (go_at_call 15; refine HCL.out.mono ?_; rintro e w5 ⟨v1, m1, k1, rfl, hr1, hf1, hgr1⟩; obtain ⟨A1, c1, rfl, hrd1⟩ := reads_own (m := 0) hr1; have hrow5 := row_grown HROW0.out hgr1 hs4g; clear hf1)
            | (at_builtin; go_must (refine wpList_append_any _ rfl (.tmp 59) (.tmp 61) 24 rfl w4.heap.size 29 i0 (.agg tk0) 6 48 Tryz.underlying24 hi hz0 hz1 hz2 rfl (by decide) _ (m + kk) _ rfl hrow5 _ A1 (T - (m + kk)) c1 _ rfl hrd1 (tkCells_oneF _) (by unfold maxLen; omega) (by omega) (by have := hgr1.size; omega) ?_); intro v6 w6 hown6 hgrow6 _; rw [hadd] at hown6; obtain ⟨A6, c6, rfl⟩ := owns_slice hown6))
          have hrow6 : w6.ownsRow w4.heap.size 29 6 (.slice A6 T c6) T (tkCells (toks s)) := by
            have h := hown6
            have hl : tkCells (toks s) = tkCells ((toks s).take (m + kk)) ++ tkCells ((toks s).drop (m + kk)) := by
              unfold tkCells
              rw [← List.flatMap_append, List.take_append_drop]
            rw [hl]
            exact h
          have hv6 : ∀ j, (Value.slice Av (m + kk) cv).ownBlock = some j → w4.heap.size ≤ j ∧ j < wr.heap.size := fun j e => HROW0.out.lt j e
          have hg6 := grown_over (HG.out.trans hgr1) hgrow6 (fun j e => (hv6 j e).1)
          have htr6 : TR w6 A6 T (toks s) := by
            obtain ⟨A7, c7, e7, h7⟩ := TR.of_own hrow6
            injection e7 with e8 _ _
            subst e8
            exact h7
          have HBY := hid (below_new HB4.out hg6 hsr HB4.out.size)
          have HBYa := hid (below_new HB4r.out hg6 (by have := HBR.out.size; omega) HB4r.out.size)
          have HTR6 := hid htr6
          have HTRA := hid (HTRW.out w6 HBYa.out)
          clear hrow6 hown6 hgrow6 hgr1 hr1 hrd1 hrow5 hadd hv6 hg6 htr6 hmk HCL HROW0
          go_wp2_with fail
          go_loopg [13] T (fun kx s13 wz => ∃ i : Nat, s13 = .int .i64 i ∧ i ≤ T ∧ T - i ≤ kx ∧ Hid (Below w6.heap.size w6 wz))
          case atStart => exact ⟨0, rfl, Nat.zero_le _, Nat.le_refl _, Below.refl _ _⟩
          case round =>
            obtain ⟨i, rfl, hi1, hgz, HBZ⟩ := hrel
            by_cases hlt : i < T
            · have hlt' : (i : Int) < (T : Int) := by omega
              have hil : i < (toks s).length := by rw [← HT.out]; exact hlt
              obtain ⟨g1, rfl, _, x0, x1, x2, x3, x4, x5⟩ := (HTR6.out.below HBZ.out (Nat.le_refl _)).at_ hil
              obtain ⟨g8, rfl, _, y0, y1, y2, y3, y4, y5⟩ := (HTRA.out.below HBZ.out (Nat.le_refl _)).at_ hil
              generalize (toks s)[i] = tk at *
              obtain ⟨uk, uf, ut, un, ur, us⟩ := tk
              simp only at x0 x1 x2 x3 x4 x5 y0 y1 y2 y3 y4 y5
              clear hil
              go_upto_region 22 with fail
              go_quiet (fail)
              have HBZ2 := hid (HBZ.out.trans ((below_drewN wr.heap.size wr nq).mono HBZ.out.size))
              go_wp2_with fail
              go_roundg (T - (i + 1))
              case measure => omega
              case rel => exact ⟨i + 1, by go_num, by omega, Nat.le_refl _, HBZ2.out⟩
            · have hlt' : ¬ (i : Int) < (T : Int) := by omega
              clear hlt hgz
              have HBE := hid (HBYa.out.trans (HBZ.out.mono HBYa.out.size))
              go_wp2_with fail
              go_roundg 1
              case measure => omega
              case rel => exact ⟨C, nc, cc, 1, zc', rfl, rfl, by omega, by decide, Nat.le_refl _, HCC.out, HBE.out⟩
    · go_upto_region 9 with fail
      go_wp2_with fail
      refine (fdNew_any wo).mono ?_
      rintro e w3 ⟨rfl, hf3, hb3⟩
      have HB3 := hid (HBWr.out.trans (hb3.mono hsr))
      have HCU := hid (cut_any b bLen bCap s d dLen dCap zd w3 (HBA.out w3 HB3.out) (HBD.out.below HB3.out (Nat.le_refl _)) (by omega) (by omega))
      have HF3 := hid hf3
      have hg3 := hf3.lt
      have HB3r := hid (HBR.out.trans (hb3.mono HBR.out.size))
      clear hb3 hf3
      go_wp2_with fail
      refine HCU.out.mono ?_
      rintro e w4 ⟨vl, pl, rfl, hrl, hplN, hpz, hcat, hb4⟩
      obtain ⟨Al, cl, rfl⟩ := owns_slice hrl
      have HB4 := hid (HB3.out.trans (hb4.mono HB3.out.size))
      have HB4r := hid (HB3r.out.trans (hb4.mono HB3r.out.size))
      have HF4 := hid (HF3.out.below hb4 (Nat.le_refl _))
      obtain ⟨N, hN⟩ : ∃ N, N = pl.length := ⟨_, rfl⟩
      have HN := hid hN
      have HPZ := hid hpz
      have HCAT := hid hcat
      have hrl' := hrl
      rw [hplN] at hrl'
      obtain ⟨bl, cl2, e⟩ := ownsRow_succ (k := dLen) hrl'
      have hbl := hrl.lt
      injection e with e1 _ _
      subst e1
      have hbl2 := hbl bl rfl
      have HCELL := hid (fun (j : Nat) (hj : j < pl.length) => (hrl.cellAt j (by omega)).trans (show (pl.map Pz.val)[j]? = some (pl[j].val) by rw [List.getElem?_map, List.getElem?_eq_getElem hj]; rfl))
      have hN2 : N ≤ 61 := by omega
      have hs4g : wo.heap.size < w4.heap.size := Nat.lt_of_lt_of_le hg3 hb4.size
      rw [← hN] at hrl ⊢
      have hcz := catB_le pl
      rw [hcat] at hcz
      have HCZ := hid hcz
      clear hrl hrl' hplN hpz hcat hb4 hbl hN hcz HF3 HCU HB3 HB3r
      go_wp2_with fail
      go_loopg [11, 12] N (fun kx s11 s12 wr => ∃ (v : Value) (i m k : Nat) (was : ByteArray) (wz : Nat) (wt : Int), s11 = v ∧ s12 = .int .i64 i ∧ i ≤ N ∧ N - i ≤ kx ∧ Hid (wr.ownsRow w4.heap.size 29 6 v (m + k) (tkCells ((toks (catB (pl.take i))).take (m + k)))) ∧ Hid (FdAt wr wo.heap.size (catB (pl.take i)) m k was wz ((catB (pl.take i)).size : Int) wt false) ∧ Hid (FdOk (catB (pl.take i)) m k) ∧ Hid (w4.grownBy wr (some wo.heap.size)))
      case atStart => exact ⟨_, 0, 0, 0, noB, 0, 0, rfl, rfl, Nat.zero_le _, Nat.le_refl _, World.ownsRow_nil _ _ _ _, HF4.out, FdOk.zero, ⟨rfl, rfl, rfl, Nat.le_refl _, fun _ _ _ => rfl⟩⟩
      case round =>
        obtain ⟨v, i, m, kk, was, wz, wt, rfl, rfl, hi1, hgi, HROW, HF, HOK, HG⟩ := hrel
        have hszq := HG.out.size
        have HBq := hid (below_new HB4.out HG.out hsr HB4.out.size)
        by_cases hlt : i < N
        · have hlt' : (i : Int) < (N : Int) := by omega
          have hil : i < pl.length := by rw [← HN.out]; exact hlt
          have x0 := (World.cell?_of_block (HG.out.block bl hbl2.2 (fun e => by injection e with e; omega)) : _ = w4.cell? ⟨bl, i, none⟩).trans (HCELL.out i hil)
          have hpok := (HPZ.out _ (List.getElem_mem hil)).1
          have hpn := (HPZ.out _ (List.getElem_mem hil)).2
          have hcu := HCZ.out i
          have hcu1 := HCZ.out (i + 1)
          have hct := catB_take hil
          have hpre := catB_pre hil
          have hpw := hpok w (HBA.out w (Below.refl _ _))
          have hpq := hpok wr (HBA.out wr HBq.out)
          generalize pl[i] = p at *
          obtain ⟨pA, pn, pc, pt⟩ := p
          simp only [Pz.val] at x0
          have hpq' : BA wr pA pn pc pt := hpq
          have hpw' : BA w pA pn pc pt := hpw
          have hct' : catB (pl.take (i + 1)) = catB (pl.take i) ++ pt := hct
          have HFE := hid (feed_any wo.heap.size (catB (pl.take i)) pt m kk was wz ((catB (pl.take i)).size : Int) wt pA pn pc wr HF.out HOK.out hpq' (fun h0 x o e => by
            obtain ⟨b', o', e', hlt9, _⟩ := hpw'.2.2.2 h0
            rw [e] at e'
            cases e'
            omega) (HMX.out.below HBq.out (Nat.le_refl _)) (mx_ne HMX.out hsr) (by rw [← hct']; have := HLS.out; omega) (by omega) (by have := HLS.out; omega))
          have HCT := hid hct'
          have HPRE := hid hpre
          have HPT := hid (show pn = pt.size from hpq'.1)
          have hsn : setN (catB (pl.take i) ++ pt) ≤ 200 := by
            have hLS := HLS.out
            have := setN_le (catB (pl.take i) ++ pt)
            have := toks_len (catB (pl.take i) ++ pt)
            rw [← hct'] at *
            omega
          have hmk := HOK.out.le
          have hmk2 : m + kk ≤ 200 := by have := toks_len (catB (pl.take i)); have := HLS.out; omega
          have hszq2 := HB4.out.size
          clear hpok hpn hct hpre hpw hpq hpq' hpw' hct' hcu hcu1 hil hmk
          obtain ⟨Av, cv, rfl⟩ := owns_slice HROW.out
          go_wp2_with (first
            | (go_at_call 12; refine HFE.out.mono ?_; rintro e w5 hp; unfold FeedPost at hp; obtain ⟨v1, m1, k1, rfl, hr1, hf1, hok1, hmk1, hgr1, hhi1⟩ := hp; obtain ⟨A1, c1, rfl, hrd1⟩ := reads_own (m := 0) hr1; have hrow5 := row_grown HROW.out hgr1 hs4g)
            | (at_builtin; go_must (refine wpList_append_any _ rfl (.tmp 51) (.tmp 57) 24 rfl w4.heap.size 29 i0 (.agg tk0) 6 48 Tryz.underlying24 hi hz0 hz1 hz2 rfl (by decide) _ (m + kk) _ rfl hrow5 _ A1 (setN (catB (pl.take i) ++ pt) - (m + kk)) c1 _ rfl hrd1 (tkCells_oneF _) (by unfold maxLen; omega) (by omega) (by have := hgr1.size; omega) ?_); intro v6 w6 hown6 hgrow6 _))
          have hle := hok1.le
          have hto := (HOK.out.grow HPRE.out).1.le_setN
          rw [HCT.out] at hto
          have hadd : m + kk + (setN (catB (pl.take i) ++ pt) - (m + kk)) = m1 + k1 := by omega
          have htold := told_more HOK.out HPRE.out
          rw [HCT.out] at htold
          have hrow6 : w6.ownsRow w4.heap.size 29 6 v6 (m1 + k1) (tkCells ((toks (catB (pl.take (i + 1)))).take (m1 + k1))) := by
            have h := hown6
            rw [hadd] at h
            have hlist : (toks (catB (pl.take i) ++ pt)).take (m1 + k1) = (toks (catB (pl.take i))).take (m + kk) ++ ((toks (catB (pl.take i) ++ pt)).take (setN (catB (pl.take i) ++ pt))).drop (m + kk) := by rw [hmk1]; exact htold.symm
            rw [HCT.out, hlist]
            unfold tkCells at h ⊢
            rw [List.flatMap_append]
            exact h
          have hv6 : ∀ j, (Value.slice Av (m + kk) cv).ownBlock = some j → w4.heap.size ≤ j ∧ j < wr.heap.size := fun j e => HROW.out.lt j e
          have hf6 := FdAt.row (L := wr.heap.size) hf1 hhi1 hgrow6 (fun j e => by have := hv6 j e; omega)
          have hg6 := grown_over (HG.out.trans hgr1) hgrow6 (fun j e => (hv6 j e).1)
          have HROW6 := hid hrow6
          have HF6 := hid hf6
          have HOK6 := hid hok1
          have HG6 := hid hg6
          clear hrow6 hf6 hok1 hg6 hown6 hgrow6 hf1 hhi1 hgr1 hr1 hrd1 hrow5 htold hadd hto hle hmk1 hv6
          go_roundg (N - (i + 1))
          case measure => omega
          case rel => exact ⟨v6, i + 1, m1, k1, _, _, _, rfl, by go_num, by omega, Nat.le_refl _, HROW6.out, by
            show FdAt _ _ (catB (pl.take (i + 1))) _ _ _ _ ((catB (pl.take (i + 1))).size : Int) _ _
            rw [HCT.out]
            have h := HF6.out
            rw [show ((catB (pl.take i) ++ pt).size : Int) = ((catB (pl.take i)).size : Int) + (pn : Int) by rw [ByteArray.size_append, HPT.out]; omega]
            exact h, by
            show FdOk _ _ _
            rw [HCT.out]
            exact HOK6.out, HG6.out⟩
        · obtain rfl : i = N := by omega
          have hlt' : ¬ (i : Int) < (i : Int) := by omega
          have hfull : catB (pl.take i) = s := by rw [HN.out, List.take_length]; exact HCAT.out
          have hrow := HROW.out
          have hf := HF.out
          have hok := HOK.out
          rw [hfull] at hrow hf hok
          have HCL := hid (close_any wo.heap.size s m kk was wz _ wt wr hf hok (HMX.out.below HBq.out (Nat.le_refl _)) (mx_ne HMX.out hsr) (by have := HLS.out; omega))
          have hmk := hok.le
          rw [← HT.out] at hmk HCL
          have HROW0 := hid hrow
          obtain ⟨Av, cv, rfl⟩ := owns_slice hrow
          clear hrow hf hok hfull HROW HF HOK
          have hadd : m + kk + (T - (m + kk)) = T := by omega
          go_wp2_with (first
            | (go_at_call 15; refine HCL.out.mono ?_; rintro e w5 ⟨v1, m1, k1, rfl, hr1, hf1, hgr1⟩; obtain ⟨A1, c1, rfl, hrd1⟩ := reads_own (m := 0) hr1; have hrow5 := row_grown HROW0.out hgr1 hs4g; clear hf1)
            | (at_builtin; go_must (refine wpList_append_any _ rfl (.tmp 59) (.tmp 61) 24 rfl w4.heap.size 29 i0 (.agg tk0) 6 48 Tryz.underlying24 hi hz0 hz1 hz2 rfl (by decide) _ (m + kk) _ rfl hrow5 _ A1 (T - (m + kk)) c1 _ rfl hrd1 (tkCells_oneF _) (by unfold maxLen; omega) (by omega) (by have := hgr1.size; omega) ?_); intro v6 w6 hown6 hgrow6 _; rw [hadd] at hown6; obtain ⟨A6, c6, rfl⟩ := owns_slice hown6))
          have hrow6 : w6.ownsRow w4.heap.size 29 6 (.slice A6 T c6) T (tkCells (toks s)) := by
            have h := hown6
            have hl : tkCells (toks s) = tkCells ((toks s).take (m + kk)) ++ tkCells ((toks s).drop (m + kk)) := by
              unfold tkCells
              rw [← List.flatMap_append, List.take_append_drop]
            rw [hl]
            exact h
          have hv6 : ∀ j, (Value.slice Av (m + kk) cv).ownBlock = some j → w4.heap.size ≤ j ∧ j < wr.heap.size := fun j e => HROW0.out.lt j e
          have hg6 := grown_over (HG.out.trans hgr1) hgrow6 (fun j e => (hv6 j e).1)
          have htr6 : TR w6 A6 T (toks s) := by
            obtain ⟨A7, c7, e7, h7⟩ := TR.of_own hrow6
            injection e7 with e8 _ _
            subst e8
            exact h7
          have HBY := hid (below_new HB4.out hg6 hsr HB4.out.size)
          have HBYa := hid (below_new HB4r.out hg6 (by have := HBR.out.size; omega) HB4r.out.size)
          have HTR6 := hid htr6
          have HTRA := hid (HTRW.out w6 HBYa.out)
          clear hrow6 hown6 hgrow6 hgr1 hr1 hrd1 hrow5 hadd hv6 hg6 htr6 hmk HCL HROW0
          go_wp2_with fail
          go_loopg [13] T (fun kx s13 wz => ∃ i : Nat, s13 = .int .i64 i ∧ i ≤ T ∧ T - i ≤ kx ∧ Hid (Below w6.heap.size w6 wz))
          case atStart => exact ⟨0, rfl, Nat.zero_le _, Nat.le_refl _, Below.refl _ _⟩
          case round =>
            obtain ⟨i, rfl, hi1, hgz, HBZ⟩ := hrel
            by_cases hlt : i < T
            · have hlt' : (i : Int) < (T : Int) := by omega
              have hil : i < (toks s).length := by rw [← HT.out]; exact hlt
              obtain ⟨g1, rfl, _, x0, x1, x2, x3, x4, x5⟩ := (HTR6.out.below HBZ.out (Nat.le_refl _)).at_ hil
              obtain ⟨g8, rfl, _, y0, y1, y2, y3, y4, y5⟩ := (HTRA.out.below HBZ.out (Nat.le_refl _)).at_ hil
              generalize (toks s)[i] = tk at *
              obtain ⟨uk, uf, ut, un, ur, us⟩ := tk
              simp only at x0 x1 x2 x3 x4 x5 y0 y1 y2 y3 y4 y5
              clear hil
              go_upto_region 22 with fail
              go_quiet (fail)
              have HBZ2 := hid (HBZ.out.trans ((below_drewN wr.heap.size wr nq).mono HBZ.out.size))
              go_wp2_with fail
              go_roundg (T - (i + 1))
              case measure => omega
              case rel => exact ⟨i + 1, by go_num, by omega, Nat.le_refl _, HBZ2.out⟩
            · have hlt' : ¬ (i : Int) < (T : Int) := by omega
              clear hlt hgz
              have HBE := hid (HBYa.out.trans (HBZ.out.mono HBYa.out.size))
              go_wp2_with fail
              go_roundg 0
              case measure => omega
              case rel => exact ⟨d, dLen, dCap, 2, zd, rfl, rfl, by omega, by decide, Nat.le_refl _, HBD.out, HBE.out⟩
    · go_wp2_with fail
      go_ret
      exact ⟨rfl, HBWr.out⟩
end Go.Proofs.YtpnbkecchfhimaaGreatDoor.feedPieces
