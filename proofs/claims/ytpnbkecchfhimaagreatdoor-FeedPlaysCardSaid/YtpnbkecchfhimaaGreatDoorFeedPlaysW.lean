/- The walk of the law FeedPlays. -/
import Derived.Test.YtpnbkecchfhimaaGreatDoorFdLaid
import Derived.Test.YtpnbkecchfhimaaGreatDoorFdU
import Derived.StillTailTactics
import Derived.BigQuiet
import Derived.Test.YtpnbkecchfhimaaGreatDoorOpen
namespace Go.Proofs.YtpnbkecchfhimaaGreatDoor.feedPlays
open Go.RowKit Go.Shelf
open Go.Lib (hid)
set_option linter.unusedVariables false
set_option linter.unusedSimpArgs false
set_option maxRecDepth 100000

theorem catB_fst {l : List Pz} {s : ByteArray} (h : catB l = s) (i : Nat) : s.extract 0 (catB (l.take i)).size = catB (l.take i) := by
  rw [← h]
  exact catB_front l i
set_option maxHeartbeats 16000000 in
theorem walk (b : Option Addr) (bLen bCap : Nat) (bD : List Int) (c : Option Addr) (cLen cCap : Nat) (cD : List Int) (w : World) (w0 : IsRow .u8 w b bLen bCap bD) (w1 : IsRow .u8 w c cLen cCap cD) (hsh : w.ShapedOpen Tryz.prog) (hdb : Hx.Db w) :
    Calls Tryz.prog 5 #[.slice b bLen bCap, .slice c cLen cCap] w fun e w' => e = .returned (.bool true) ∧ Below w.heap.size w w' := by
  have hmx := mx_of hsh
  obtain ⟨s, hba⟩ := ba_of w0
  obtain ⟨zc, hbc⟩ := ba_of w1
  have HAW := hid (fun W (h : Below w.heap.size w W) => fdawake_any W (hdb.below h (Nat.le_refl _)) (hmx.below h (Nat.le_refl _)))
  by_cases hbb : 200 < bLen
  · have hbb' : (200 : Int) < (bLen : Int) := by omega
    clear hba hbc w0 w1
    go_enter Tryz.func5, Tryz.ntmps5
    go_wp2_with fail
    refine (HAW.out _ (Below.refl _ _)).mono ?_
    rintro e w2 ⟨rfl, hb2⟩
    have HB2 := hid hb2
    clear hb2
    go_wp2_with fail
    go_ret
    exact ⟨rfl, HB2.out⟩
  have hbb' : ¬ (200 : Int) < (bLen : Int) := by omega
  by_cases hcb : 60 < cLen
  · have hcb' : (60 : Int) < (cLen : Int) := by omega
    clear hba hbc w0 w1
    go_enter Tryz.func5, Tryz.ntmps5
    go_wp2_with fail
    refine (HAW.out _ (Below.refl _ _)).mono ?_
    rintro e w2 ⟨rfl, hb2⟩
    have HB2 := hid hb2
    clear hb2
    go_wp2_with fail
    go_ret
    exact ⟨rfl, HB2.out⟩
  have hcb' : ¬ (60 : Int) < (cLen : Int) := by omega
  have HBA := hid (fun W (h : Below w.heap.size w W) => hba.below h (Nat.le_refl _))
  have HBC := hid hbc
  have HMX := hid hmx
  have HLS := hid hba.1
  clear hba hbc w0 w1 hmx hdb hsh
  go_enter Tryz.func5, Tryz.ntmps5
  go_wp2_with fail
  refine (HAW.out _ (Below.refl _ _)).mono ?_
  rintro e w2 ⟨rfl, hb2⟩
  have HB2 := hid hb2
  have hs2 := hb2.size
  clear hb2 HAW
  go_wp2_with fail
  refine (fdNew_any w2).mono ?_
  rintro e w3 ⟨rfl, hf3, hb3⟩
  have HB3 := hid (HB2.out.trans (hb3.mono hs2))
  have HCU := hid (cut_any b bLen bCap s c cLen cCap zc w3 (HBA.out w3 HB3.out) (HBC.out.below HB3.out (Nat.le_refl _)) (by omega) (by omega))
  have HF3 := hid hf3
  have hg3 := hf3.lt
  clear hb3 hf3
  go_wp2_with fail
  refine HCU.out.mono ?_
  rintro e w4 ⟨vl, pl, rfl, hrl, hplN, hpz, hcat, hb4⟩
  obtain ⟨Al, cl, rfl⟩ := owns_slice hrl
  have HB4 := hid (HB3.out.trans (hb4.mono HB3.out.size))
  have HF4 := hid (HF3.out.below hb4 (Nat.le_refl _))
  obtain ⟨N, hN⟩ : ∃ N, N = pl.length := ⟨_, rfl⟩
  have HN := hid hN
  have HPZ := hid hpz
  have HCAT := hid hcat
  have hrl' := hrl
  rw [hplN] at hrl'
  obtain ⟨bl, cl2, e⟩ := ownsRow_succ (k := cLen) hrl'
  have hbl := hrl.lt
  injection e with e1 _ _
  subst e1
  have hbl2 := hbl bl rfl
  have HCELL := hid (fun (j : Nat) (hj : j < pl.length) => (hrl.cellAt j (by omega)).trans (show (pl.map Pz.val)[j]? = some (pl[j].val) by rw [List.getElem?_map, List.getElem?_eq_getElem hj]; rfl))
  have hN2 : N ≤ 61 := by omega
  have hs4g : w2.heap.size < w4.heap.size := Nat.lt_of_lt_of_le hg3 hb4.size
  rw [← hN] at hrl ⊢
  have hcz := catB_le pl
  rw [hcat] at hcz
  have HCZ := hid hcz
  clear hrl hrl' hplN hpz hcat hb4 hbl hN hcz HF3 HCU HB3
  go_wp2_with fail
  go_loopg [7, 8, 9] N (fun kx s7 s8 s9 wr => ∃ (i q z m k : Nat) (was : ByteArray) (wz : Nat) (wt : Int), s7 = .int .i64 q ∧ s8 = .int .i64 z ∧ s9 = .int .i64 i ∧ i ≤ N ∧ N - i ≤ kx ∧ Hid (q = m + k) ∧ Hid (z = (catB (pl.take i)).size) ∧ Hid (FdAt wr w2.heap.size (catB (pl.take i)) m k was wz (z : Int) wt false) ∧ Hid (FdOk (catB (pl.take i)) m k) ∧ Hid (w4.grownBy wr (some w2.heap.size)))
  case atStart => exact ⟨0, 0, 0, 0, 0, noB, 0, 0, rfl, rfl, rfl, Nat.zero_le _, Nat.le_refl _, rfl, rfl, HF4.out, FdOk.zero, ⟨rfl, rfl, rfl, Nat.le_refl _, fun _ _ _ => rfl⟩⟩
  case round =>
    obtain ⟨i, q, z, m, kk, was, wz, wt, rfl, rfl, rfl, hi1, hgi, HQ, HZ, HF, HOK, HG⟩ := hrel
    have hszq := HG.out.size
    have HBq := hid (below_new HB4.out HG.out hs2 HB4.out.size)
    by_cases hlt : i < N
    · have hlt' : (i : Int) < (N : Int) := by omega
      have hil : i < pl.length := by rw [← HN.out]; exact hlt
      have x0 := (World.cell?_of_block (HG.out.block bl hbl2.2 (fun e => by injection e with e; omega)) : _ = w4.cell? ⟨bl, i, none⟩).trans (HCELL.out i hil)
      have HX0 := hid (fun (W : World) (h : w4.grownBy W (some w2.heap.size)) => (World.cell?_of_block (h.block bl hbl2.2 (fun e => by injection e with e; omega)) : _ = w4.cell? ⟨bl, i, none⟩).trans (HCELL.out i hil))
      have hpok := (HPZ.out _ (List.getElem_mem hil)).1
      have hpn := (HPZ.out _ (List.getElem_mem hil)).2
      have hcu := HCZ.out i
      have hcu1 := HCZ.out (i + 1)
      have hct := catB_take hil
      have hpre := catB_pre hil
      have HFST := hid (catB_fst HCAT.out (i + 1))
      have hpw := hpok w (HBA.out w (Below.refl _ _))
      have hpq := hpok wr (HBA.out wr HBq.out)
      generalize pl[i] = p at *
      obtain ⟨pA, pn, pc, pt⟩ := p
      simp only [Pz.val] at x0 HX0
      have hpq' : BA wr pA pn pc pt := hpq
      have hpw' : BA w pA pn pc pt := hpw
      have hct' : catB (pl.take (i + 1)) = catB (pl.take i) ++ pt := hct
      have HFE := hid (feed_any w2.heap.size (catB (pl.take i)) pt m kk was wz (z : Int) wt pA pn pc wr HF.out HOK.out hpq' (fun h0 x o e => by
        obtain ⟨b', o', e', hlt9, _⟩ := hpw'.2.2.2 h0
        rw [e] at e'
        cases e'
        omega) (HMX.out.below HBq.out (Nat.le_refl _)) (mx_ne HMX.out hs2) (by rw [← hct']; have := HLS.out; omega) (by omega) (by have := HLS.out; have := HZ.out; omega))
      rw [show FeedPost w2.heap.size (catB (pl.take i)) pt m kk (z : Int) pn wr = FeedPost w2.heap.size (catB (pl.take i)) pt m kk (z : Int) pn wr from rfl] at HFE
      generalize hs1 : catB (pl.take (i + 1)) = s1 at *
      generalize hs0 : catB (pl.take i) = s0 at *
      have HS0 := hid hs0
      have HS1 := hid hs1
      have HCT := hid hct'
      have HPRE := hid hpre
      have HPT := hid (show pn = pt.size from hpq'.1)
      obtain ⟨Z, hZ⟩ : ∃ Z, Z = setN s1 := ⟨_, rfl⟩
      have HZS := hid hZ
      have hZ2 : Z ≤ 200 := by
        have := setN_le s1
        have := toks_len s1
        have := HLS.out
        omega
      obtain ⟨z1, hz1⟩ : ∃ z1, z1 = s1.size := ⟨_, rfl⟩
      have HZ1 := hid hz1
      have hzz : (z : Int) + (pn : Int) = (z1 : Int) := by
        have := HZ.out
        have := HPT.out
        rw [hz1, hct', ByteArray.size_append]
        omega
      have hz12 : z1 ≤ bLen := by have := HLS.out; omega
      have hqZ : q ≤ Z := by
        have h := (HOK.out.grow HPRE.out).1.le_setN
        rw [hZ, HQ.out]
        exact h
      have HSL := (slice_hi (HBA.out wr HBq.out) hz12).1
      have HBA1 := hid (fun W (h : Below w.heap.size w W) => (show BA W b z1 bCap s1 by
        have h2 := (slice_hi (HBA.out W h) hz12).2
        rw [hz1, HFST.out, ← hz1] at h2
        exact h2))
      have hzw : IntKind.i64.wrap (z1 : Int) = (z1 : Int) := IntWalk.i64_in _ (by omega)
      clear hpok hpn hct hpre hpw hpq hpq' hpw' hct' hcu hcu1 hil hZ hz1 hs0 hs1
      go_upto_region 10 with (go_at_call 12; refine HFE.out.mono ?_; rintro e w5 hp; unfold FeedPost at hp; rw [← HCT.out, ← HZS.out, ← HQ.out] at hp; obtain ⟨v1, m1, k1, rfl, hr1, hf1, hok1, hmk1, hgr1, hhi1⟩ := hp; obtain ⟨A1, c1, e1, htr1⟩ := TR.of_own hr1; subst e1)
      have hg5 := HG.out.trans hgr1
      have x1 := HX0.out w5 hg5
      have HB5 := hid (below_new HB4.out hg5 hs2 HB4.out.size)
      rw [hzz] at hf1
      generalize hwtd : (if (toks s1).length ≤ Z then (0 : Int) else (s1.size : Int) - ((((toks s1).getD Z ⟨0, 0, 0, noB, 0, false⟩).fr : Nat) : Int)) = wt1 at hf1
      have HWT := hid hwtd
      have HTR1 := hid htr1
      have HF1 := hid hf1
      have HOK1 := hid hok1
      have HMK1 := hid hmk1
      have HG5 := hid hg5
      have HAL := hid (refAll_any b z1 bCap s1 w5 (HBA1.out w5 HB5.out) (by omega))
      clear hr1 htr1 hf1 hok1 hmk1 hg5 hhi1 hwtd HFE x0
      go_wp2_with fail
      refine HAL.out.mono ?_
      rintro e w6 ⟨v6, rfl, hmd6, hb6⟩
      obtain ⟨A6, c6, rfl, hdr6⟩ := DR.of_made hmd6
      have HB6 := hid (HB5.out.trans (hb6.mono HB5.out.size))
      have HB56 := hid hb6
      have HDR6 := hid hdr6
      have HST := hid (refset_any b z1 bCap s1 w6 (HBA1.out w6 HB6.out) (by omega))
      rw [← HZS.out] at HST
      obtain ⟨T, hT⟩ : ∃ T, T = (toks s1).length := ⟨_, rfl⟩
      have HT := hid hT
      rw [← hT] at HDR6 ⊢
      have hmaxq : max (Z : Int) (q : Int) = (Z : Int) := by omega
      have hs56 := hb6.size
      clear hmd6 hb6 hdr6 hT HAL
      go_wp2_with fail
      refine HST.out.mono ?_
      rintro e w7 ⟨rfl, hb7⟩
      have HB7 := hid (HB6.out.trans (hb7.mono HB6.out.size))
      have HB57 := hid (HB56.out.trans (hb7.mono hs56))
      have HDR7 := hid (HDR6.out.below hb7 (Nat.le_refl _))
      have HF7 := hid (HF1.out.below HB57.out (Nat.le_refl _))
      have HTR7 := hid (HTR1.out.below HB57.out (Nat.le_refl _))
      have HFD := hid (fed_any _ _ _ _ _ _ _ _ _ w7 HF7.out)
      obtain ⟨n1, hn1⟩ : ∃ n1, n1 = Z - q := ⟨_, rfl⟩
      have HN1 := hid hn1
      have hsub : (Z : Int) - (q : Int) = (n1 : Int) := by omega
      have hwn1 : IntKind.i64.wrap (n1 : Int) = (n1 : Int) := IntWalk.i64_in _ (by omega)
      rw [← hn1] at HTR7 ⊢
      clear hb7 hn1 HST HDR6 HTR1 HF1
      go_wp2_with fail
      refine HFD.out.mono ?_
      rintro e w8 ⟨rfl, hw⟩
      have hw2 := hw.symm
      clear hw
      subst hw2
      have hs57 := HB57.out.size
      clear HFD
      obtain ⟨wo, rfl⟩ : ∃ wo, wo = wr := ⟨wr, rfl⟩
      go_wp2_with fail
      go_loopg [13] n1 (fun kx s13 wz => ∃ j : Nat, s13 = .int .i64 j ∧ j ≤ n1 ∧ n1 - j ≤ kx ∧ Hid (Below w7.heap.size w7 wz))
      case atStart => exact ⟨0, rfl, Nat.zero_le _, Nat.le_refl _, Below.refl _ _⟩
      case round =>
        obtain ⟨j, rfl, hj1, hgj, HBJ⟩ := hrel
        by_cases hjn : j < n1
        · have hjn' : (j : Int) < (n1 : Int) := by omega
          have hjZ : q + j < Z := by have := HN1.out; omega
          have hZT : Z ≤ (toks s1).length := by rw [HZS.out]; exact setN_le s1
          have hq1 : q + j < (toks s1).length := by omega
          have hl1 : j < (((toks s1).take Z).drop q).length := by rw [List.length_drop, List.length_take]; omega
          have hel : (((toks s1).take Z).drop q)[j] = (toks s1)[q + j] := by rw [List.getElem_drop, List.getElem_take]
          obtain ⟨gt, rfl, hgt, x0, x1, x2, x3, x4, x5⟩ := (HTR7.out.below HBJ.out (Nat.le_refl _)).at_ hl1
          rw [hel] at x0 x1 x2 x3 x4 x5
          obtain ⟨gd, rfl, hgd, y0, y1, y2, y3, y4, y5, y6⟩ := (HDR7.out.below HBJ.out (Nat.le_refl _)).at_ hq1
          have hm8 := toks_mem (List.getElem_mem hq1)
          have hfm : begT (toks s0) m ≤ ((toks s1)[q + j]).fr := by
            rw [← (HOK.out.grow HPRE.out).2.2]
            exact toks_from_fr (by have := HQ.out; omega) hq1
          have hrT : q + j < T := by rw [HT.out]; exact hq1
          have hqj : (q : Int) + (j : Int) = ((q + j : Nat) : Int) := by omega
          generalize (toks s1)[q + j] = tk at *
          obtain ⟨uk, uf, ut, un, ur, us⟩ := tk
          simp only at x0 x1 x2 x3 x4 x5 y0 y1 y2 y3 y4 y5 hm8 hfm
          have hft : uf ≤ ut := Nat.le_of_lt hm8.1
          have htz : ut ≤ z1 := by rw [HZ1.out]; exact hm8.2.1
          generalize q + j = r at *
          have hrT' : (r : Int) < (T : Int) := by omega
          have hwr : IntKind.i64.wrap (r : Int) = (r : Int) := IntWalk.i64_in _ (by omega)
          obtain ⟨A8, c8, HSL8, hba8⟩ := slice_ba (HBA.out w (Below.refl _ _)) hft (show ut ≤ bLen by omega)
          obtain ⟨n8, hn8⟩ : ∃ n8, n8 = ut - uf := ⟨_, rfl⟩
          have HN8 := hid hn8
          rw [← hn8] at HSL8 hba8
          have hxe : s1.extract uf ut = s.extract uf ut := by
            rw [← HFST.out]
            apply ByteArray.ext
            simp only [ByteArray.data_extract, Array.extract_extract]
            congr 1 <;> omega
          have HBYT := hid (fun (W : World) (h : Below w7.heap.size w7 W) => fbytes_any _ _ _ _ _ _ _ _ _ (uk : Int) (uf : Int) (ut : Int) un ur us W (HF7.out.below h (Nat.le_refl _)) (by have := begT_le (s := s0) (m := m) (by have := HOK.out.le; omega); have := HZ.out; omega) (by rw [ext_size]; have := HLS.out; have := HZ1.out; omega))
          rw [bytes_tok hfm hft (by have := HZ1.out; omega), hxe] at HBYT
          obtain ⟨X, hX⟩ : ∃ X, X = s.extract uf ut := ⟨_, rfl⟩
          rw [← hX] at HBYT hba8
          have HBX := hid hba8
          have HIS := hid (fun W => is_any (uk : Int) (uf : Int) (ut : Int) un ur us false W)
          have hB1 := (Below.refl wr.heap.size wr).alloc (Nat.le_refl _) (.cells #[.int .i64 uk, .int .i64 uf, .int .i64 ut, .string un, .int .i32 ur, .bool us] 29)
          have q1 := Blk.new wr 29 #[.int .i64 uk, .int .i64 uf, .int .i64 ut, .string un, .int .i32 ur, .bool us]
          have z0 := q1.cell 0
          have z1 := q1.cell 1
          have z2 := q1.cell 2
          have z3 := q1.cell 3
          have z4 := q1.cell 4
          have z5 := q1.cell 5
          simp only [List.getElem?_toArray, List.getElem?_cons_zero, List.getElem?_cons_succ] at z0 z1 z2 z3 z4 z5
          have y0 := (hB1.cell (p := ⟨gd, r * 7, none⟩) hgd).trans y0
          have y1 := (hB1.cell (p := ⟨gd, r * 7 + 1, none⟩) hgd).trans y1
          have y2 := (hB1.cell (p := ⟨gd, r * 7 + 2, none⟩) hgd).trans y2
          have y3 := (hB1.cell (p := ⟨gd, r * 7 + 3, none⟩) hgd).trans y3
          have y4 := (hB1.cell (p := ⟨gd, r * 7 + 4, none⟩) hgd).trans y4
          have y5 := (hB1.cell (p := ⟨gd, r * 7 + 5, none⟩) hgd).trans y5
          have y6 := (hB1.cell (p := ⟨gd, r * 7 + 6, none⟩) hgd).trans y6
          have HB9 := hid (HBJ.out.trans (hB1.mono HBJ.out.size))
          have HB9w := hid (HB7.out.trans (HB9.out.mono HB7.out.size))
          have hg9 := q1.lt
          have hgd9 : gd < (wr.alloc (.cells #[.int .i64 uk, .int .i64 uf, .int .i64 ut, .string un, .int .i32 ur, .bool us] 29)).heap.size := Nat.lt_of_lt_of_le hgd hB1.size
          clear hm8 hfm hel hl1 hq1 hX hxe hB1 q1 hba8 hn8 hZT hjZ hft htz hbb' hcb' hlt' 
          have HSS := hid (fun (w' : World) (h : Below (wr.alloc (.cells #[.int .i64 uk, .int .i64 uf, .int .i64 ut, .string un, .int .i32 ur, .bool us] 29)).heap.size (wr.alloc (.cells #[.int .i64 uk, .int .i64 uf, .int .i64 ut, .string un, .int .i32 ur, .bool us] 29)) w') => (show w'.cell? ⟨wr.heap.size, 0, none⟩ = some (.int .i64 uk) ∧ w'.cell? ⟨wr.heap.size, 1, none⟩ = some (.int .i64 uf) ∧ w'.cell? ⟨wr.heap.size, 2, none⟩ = some (.int .i64 ut) ∧ w'.cell? ⟨wr.heap.size, 3, none⟩ = some (.string un) ∧ w'.cell? ⟨wr.heap.size, 4, none⟩ = some (.int .i32 ur) ∧ w'.cell? ⟨wr.heap.size, 5, none⟩ = some (.bool us) ∧ w'.cell? ⟨gd, r * 7, none⟩ = some (.int .i64 uk) ∧ w'.cell? ⟨gd, r * 7 + 1, none⟩ = some (.int .i64 uf) ∧ w'.cell? ⟨gd, r * 7 + 2, none⟩ = some (.int .i64 ut) ∧ w'.cell? ⟨gd, r * 7 + 3, none⟩ = some (.string un) ∧ w'.cell? ⟨gd, r * 7 + 4, none⟩ = some (.int .i32 ur) ∧ w'.cell? ⟨gd, r * 7 + 5, none⟩ = some (.bool us) ∧ w'.cell? ⟨gd, r * 7 + 6, none⟩ = some (.bool false) ∧ (convert 22 9 (.slice A8 n8 c8)).run Tryz.prog w' = .ok (.string X) w' from ⟨(h.cell (p := ⟨wr.heap.size, 0, none⟩) hg9).trans z0, (h.cell (p := ⟨wr.heap.size, 1, none⟩) hg9).trans z1, (h.cell (p := ⟨wr.heap.size, 2, none⟩) hg9).trans z2, (h.cell (p := ⟨wr.heap.size, 3, none⟩) hg9).trans z3, (h.cell (p := ⟨wr.heap.size, 4, none⟩) hg9).trans z4, (h.cell (p := ⟨wr.heap.size, 5, none⟩) hg9).trans z5, (h.cell (p := ⟨gd, r * 7, none⟩) hgd9).trans y0, (h.cell (p := ⟨gd, r * 7 + 1, none⟩) hgd9).trans y1, (h.cell (p := ⟨gd, r * 7 + 2, none⟩) hgd9).trans y2, (h.cell (p := ⟨gd, r * 7 + 3, none⟩) hgd9).trans y3, (h.cell (p := ⟨gd, r * 7 + 4, none⟩) hgd9).trans y4, (h.cell (p := ⟨gd, r * 7 + 5, none⟩) hgd9).trans y5, (h.cell (p := ⟨gd, r * 7 + 6, none⟩) hgd9).trans y6, conv_ba (HBX.out.below (HB9w.out.trans (h.mono HB9w.out.size)) (Nat.le_refl _))⟩))
          go_upto_region 19 with fail
          generalize wr.alloc (.cells #[.int .i64 uk, .int .i64 uf, .int .i64 ut, .string un, .int .i32 ur, .bool us] 29) = w9 at *
          refine wp_region_held_drew (S := fun w' : World => w'.cell? ⟨wr.heap.size, 0, none⟩ = some (.int .i64 uk) ∧ w'.cell? ⟨wr.heap.size, 1, none⟩ = some (.int .i64 uf) ∧ w'.cell? ⟨wr.heap.size, 2, none⟩ = some (.int .i64 ut) ∧ w'.cell? ⟨wr.heap.size, 3, none⟩ = some (.string un) ∧ w'.cell? ⟨wr.heap.size, 4, none⟩ = some (.int .i32 ur) ∧ w'.cell? ⟨wr.heap.size, 5, none⟩ = some (.bool us) ∧ w'.cell? ⟨gd, r * 7, none⟩ = some (.int .i64 uk) ∧ w'.cell? ⟨gd, r * 7 + 1, none⟩ = some (.int .i64 uf) ∧ w'.cell? ⟨gd, r * 7 + 2, none⟩ = some (.int .i64 ut) ∧ w'.cell? ⟨gd, r * 7 + 3, none⟩ = some (.string un) ∧ w'.cell? ⟨gd, r * 7 + 4, none⟩ = some (.int .i32 ur) ∧ w'.cell? ⟨gd, r * 7 + 5, none⟩ = some (.bool us) ∧ w'.cell? ⟨gd, r * 7 + 6, none⟩ = some (.bool false) ∧ (convert 22 9 (.slice A8 n8 c8)).run Tryz.prog w' = .ok (.string X) w') (by kernel_rfl) (HSS.out _ (Below.refl _ _).drew) (fun hHeld => ?_)
          refine wpAnyH_take (i := 0) (v := ?hv1) rfl (by kernel_rfl) (by kernel_rfl) (by kernel_rfl) (fun _ _ _ h => h) (Or.inl ⟨by rfl, ?hy1⟩) (by assumption) ?hr1
          case hy1 => (intro w hSw; (try dsimp only at hSw); go_simp; try with_reducible rfl)
          (try simp only [Act.put, List.getElem_toArray, List.getElem_cons_zero, List.setIfInBounds_toArray, List.set_cons_zero, List.set_cons_succ])
          refine wpAnyH_take (i := 1) (v := ?hv2) rfl (by kernel_rfl) (by kernel_rfl) (by kernel_rfl) (fun _ _ _ h => h) (Or.inl ⟨by rfl, ?hy2⟩) (by assumption) ?hr2
          case hy2 => (intro w hSw; (try dsimp only at hSw); go_simp; try with_reducible rfl)
          (try simp only [Act.put, List.getElem_toArray, List.getElem_cons_zero, List.getElem_cons_succ, List.setIfInBounds_toArray, List.set_cons_zero, List.set_cons_succ])
          refine wpAnyH_take (i := 2) (v := ?hv3) rfl (by kernel_rfl) (by kernel_rfl) (by kernel_rfl) (fun _ _ _ h => h) (Or.inl ⟨by rfl, ?hy3⟩) (by assumption) ?hr3
          case hy3 => (intro w hSw; (try dsimp only at hSw); go_simp; try with_reducible rfl)
          (try simp only [Act.put, List.getElem_toArray, List.getElem_cons_zero, List.getElem_cons_succ, List.setIfInBounds_toArray, List.set_cons_zero, List.set_cons_succ])
          refine wpAnyH_take (i := 3) (v := ?hv4) rfl (by kernel_rfl) (by kernel_rfl) (by kernel_rfl) (fun _ _ _ h => h) (Or.inl ⟨by rfl, ?hy4⟩) (by assumption) ?hr4
          case hy4 => (intro w hSw; (try dsimp only at hSw); go_simp; try with_reducible rfl)
          (try simp only [Act.put, List.getElem_toArray, List.getElem_cons_zero, List.getElem_cons_succ, List.setIfInBounds_toArray, List.set_cons_zero, List.set_cons_succ])
          refine wpAnyH_take (i := 4) (v := ?hv5) rfl (by kernel_rfl) (by kernel_rfl) (by kernel_rfl) (fun _ _ _ h => h) (Or.inl ⟨by rfl, ?hy5⟩) (by assumption) ?hr5
          case hy5 => (intro w hSw; (try dsimp only at hSw); go_simp; try with_reducible rfl)
          (try simp only [Act.put, List.getElem_toArray, List.getElem_cons_zero, List.getElem_cons_succ, List.setIfInBounds_toArray, List.set_cons_zero, List.set_cons_succ])
          refine wpAnyH_take (i := 5) (v := ?hv6) rfl (by kernel_rfl) (by kernel_rfl) (by kernel_rfl) (fun _ _ _ h => h) (Or.inl ⟨by rfl, ?hy6⟩) (by assumption) ?hr6
          case hy6 => (intro w hSw; (try dsimp only at hSw); go_simp; try with_reducible rfl)
          (try simp only [Act.put, List.getElem_toArray, List.getElem_cons_zero, List.getElem_cons_succ, List.setIfInBounds_toArray, List.set_cons_zero, List.set_cons_succ])
          refine wpAnyH_take (i := 6) (v := ?hv7) rfl (by kernel_rfl) (by kernel_rfl) (by kernel_rfl) (fun _ _ _ h => h) (Or.inl ⟨by rfl, ?hy7⟩) (by assumption) ?hr7
          case hy7 => (intro w hSw; (try dsimp only at hSw); go_simp; try with_reducible rfl)
          (try simp only [Act.put, List.getElem_toArray, List.getElem_cons_zero, List.getElem_cons_succ, List.setIfInBounds_toArray, List.set_cons_zero, List.set_cons_succ])
          refine wpAnyH_ready (rs := [7]) (by kernel_rfl) (by simp) ?_
          refine AllReadyH.cons rfl (fun K hK => ?_) AllReadyH.nil
          go_simp
          go_at_call 19
          refine (HIS.out _).mono ?_
          rintro e w10 ⟨rfl, hb10⟩
          have HB10 := hid ((Below.refl w9.heap.size w9).drew.trans (hb10.mono (by exact Nat.le_refl _)))
          clear hb10
          go_wp2_with fail
          refine hK.out _ _ (HSS.out _ HB10.out) (fun hHeld2 => ?_)
          clear hK K hHeld
          refine wpAnyH_take (i := 8) (v := ?hv8) rfl (by kernel_rfl) (by kernel_rfl) (by kernel_rfl) (fun _ _ _ h => h) (Or.inl ⟨by rfl, ?hy8⟩) (by assumption) ?hr8
          case hy8 => (intro w hSw; (try dsimp only at hSw); go_simp; try with_reducible rfl)
          (try simp only [Act.put, List.getElem_toArray, List.getElem_cons_zero, List.getElem_cons_succ, List.setIfInBounds_toArray, List.set_cons_zero, List.set_cons_succ])
          refine wpAnyH_take (i := 9) (v := ?hv9) rfl (by kernel_rfl) (by kernel_rfl) (by kernel_rfl) (fun _ _ _ h => h) (Or.inl ⟨by rfl, ?hy9⟩) (by assumption) ?hr9
          case hy9 => (intro w hSw; (try dsimp only at hSw); go_simp; try with_reducible rfl)
          (try simp only [Act.put, List.getElem_toArray, List.getElem_cons_zero, List.getElem_cons_succ, List.setIfInBounds_toArray, List.set_cons_zero, List.set_cons_succ])
          refine wpAnyH_take (i := 10) (v := ?hv10) rfl (by kernel_rfl) (by kernel_rfl) (by kernel_rfl) (fun _ _ _ h => h) (Or.inl ⟨by rfl, ?hy10⟩) (by assumption) ?hr10
          case hy10 => (intro w hSw; (try dsimp only at hSw); go_simp; try with_reducible rfl)
          (try simp only [Act.put, List.getElem_toArray, List.getElem_cons_zero, List.getElem_cons_succ, List.setIfInBounds_toArray, List.set_cons_zero, List.set_cons_succ])
          refine wpAnyH_take (i := 11) (v := ?hv11) rfl (by kernel_rfl) (by kernel_rfl) (by kernel_rfl) (fun _ _ _ h => h) (Or.inl ⟨by rfl, ?hy11⟩) (by assumption) ?hr11
          case hy11 => (intro w hSw; (try dsimp only at hSw); go_simp; try with_reducible rfl)
          (try simp only [Act.put, List.getElem_toArray, List.getElem_cons_zero, List.getElem_cons_succ, List.setIfInBounds_toArray, List.set_cons_zero, List.set_cons_succ])
          refine wpAnyH_take (i := 14) (v := ?hv12) rfl (by kernel_rfl) (by kernel_rfl) (by kernel_rfl) (fun _ _ _ h => h) (Or.inl ⟨by rfl, ?hy12⟩) (by assumption) ?hr12
          case hy12 => (intro w hSw; (try dsimp only at hSw); go_simp; try with_reducible rfl)
          (try simp only [Act.put, List.getElem_toArray, List.getElem_cons_zero, List.getElem_cons_succ, List.setIfInBounds_toArray, List.set_cons_zero, List.set_cons_succ])
          refine wpAnyH_take (i := 15) (v := ?hv13) rfl (by kernel_rfl) (by kernel_rfl) (by kernel_rfl) (fun _ _ _ h => h) (Or.inl ⟨by rfl, ?hy13⟩) (by assumption) ?hr13
          case hy13 => (intro w hSw; (try dsimp only at hSw); go_simp; try with_reducible rfl)
          (try simp only [Act.put, List.getElem_toArray, List.getElem_cons_zero, List.getElem_cons_succ, List.setIfInBounds_toArray, List.set_cons_zero, List.set_cons_succ])
          refine wpAnyH_take (i := 16) (v := ?hv14) rfl (by kernel_rfl) (by kernel_rfl) (by kernel_rfl) (fun _ _ _ h => h) (Or.inl ⟨by rfl, ?hy14⟩) (by assumption) ?hr14
          case hy14 => (intro w hSw; (try dsimp only at hSw); go_simp; try with_reducible rfl)
          (try simp only [Act.put, List.getElem_toArray, List.getElem_cons_zero, List.getElem_cons_succ, List.setIfInBounds_toArray, List.set_cons_zero, List.set_cons_succ])
          refine wpAnyH_take (i := 17) (v := ?hv15) rfl (by kernel_rfl) (by kernel_rfl) (by kernel_rfl) (fun _ _ _ h => h) (Or.inl ⟨by rfl, ?hy15⟩) (by assumption) ?hr15
          case hy15 => (intro w hSw; (try dsimp only at hSw); go_simp; try with_reducible rfl)
          (try simp only [Act.put, List.getElem_toArray, List.getElem_cons_zero, List.getElem_cons_succ, List.setIfInBounds_toArray, List.set_cons_zero, List.set_cons_succ])
          refine wpAnyH_take (i := 18) (v := ?hv16) rfl (by kernel_rfl) (by kernel_rfl) (by kernel_rfl) (fun _ _ _ h => h) (Or.inl ⟨by rfl, ?hy16⟩) (by assumption) ?hr16
          case hy16 => (intro w hSw; (try dsimp only at hSw); go_simp; try with_reducible rfl)
          (try simp only [Act.put, List.getElem_toArray, List.getElem_cons_zero, List.getElem_cons_succ, List.setIfInBounds_toArray, List.set_cons_zero, List.set_cons_succ])
          refine wpAnyH_take (i := 19) (v := ?hv17) rfl (by kernel_rfl) (by kernel_rfl) (by kernel_rfl) (fun _ _ _ h => h) (Or.inl ⟨by rfl, ?hy17⟩) (by assumption) ?hr17
          case hy17 => (intro w hSw; (try dsimp only at hSw); go_simp; try with_reducible rfl)
          (try simp only [Act.put, List.getElem_toArray, List.getElem_cons_zero, List.getElem_cons_succ, List.setIfInBounds_toArray, List.set_cons_zero, List.set_cons_succ])
          refine wpAnyH_take (i := 20) (v := ?hv18) rfl (by kernel_rfl) (by kernel_rfl) (by kernel_rfl) (fun _ _ _ h => h) (Or.inl ⟨by rfl, ?hy18⟩) (by assumption) ?hr18
          case hy18 => (intro w hSw; (try dsimp only at hSw); go_simp; try with_reducible rfl)
          (try simp only [Act.put, List.getElem_toArray, List.getElem_cons_zero, List.getElem_cons_succ, List.setIfInBounds_toArray, List.set_cons_zero, List.set_cons_succ])
          refine wpAnyH_ready (rs := [12]) (by kernel_rfl) (by simp) ?_
          refine AllReadyH.cons rfl (fun K hK => ?_) AllReadyH.nil
          go_simp
          go_at_call 20
          refine (HBYT.out _ (HB9.out.trans (HB10.out.mono HB9.out.size))).mono ?_
          rintro e w11 ⟨A11, n11, c11, rfl, hba11, hb11⟩
          have HB11 := hid (HB10.out.trans (hb11.mono HB10.out.size))
          have hcv11 := conv_ba hba11
          clear hb11 hba11
          go_wp2_with fail
          refine hK.out _ _ (HSS.out _ HB11.out) (fun hHeld3 => ?_)
          clear hK K hHeld2
          refine wpAnyH_ready (rs := [13]) (by kernel_rfl) (by simp) ?_
          refine AllReadyH.cons rfl (fun K hK => ?_) AllReadyH.nil
          go_wp2_with fail
          refine hK.out _ _ (HSS.out _ HB11.out) (fun hHeld4 => ?_)
          clear hK K hHeld3
          refine wpAnyH_take (i := 21) (v := ?hv19) rfl (by kernel_rfl) (by kernel_rfl) (by kernel_rfl) (fun _ _ _ h => h) (Or.inl ⟨by rfl, ?hy19⟩) (by assumption) ?hr19
          case hy19 => (intro w hSw; (try dsimp only at hSw); go_simp; try with_reducible rfl)
          (try simp only [Act.put, List.getElem_toArray, List.getElem_cons_zero, List.getElem_cons_succ, List.setIfInBounds_toArray, List.set_cons_zero, List.set_cons_succ])
          refine wpAnyH_take (i := 22) (v := ?hv20) rfl (by kernel_rfl) (by kernel_rfl) (by kernel_rfl) (fun _ _ _ h => h) (Or.inl ⟨by rfl, ?hy20⟩) (by assumption) ?hr20
          case hy20 => (intro w hSw; (try dsimp only at hSw); go_simp; try with_reducible rfl)
          (try simp only [Act.put, List.getElem_toArray, List.getElem_cons_zero, List.getElem_cons_succ, List.setIfInBounds_toArray, List.set_cons_zero, List.set_cons_succ])
          refine wpAnyH_done (by kernel_rfl) ?_ _
          clear hHeld4
          have HB12 := hid (HB9.out.trans (HB11.out.mono HB9.out.size))
          clear hcv11 z0 z1 z2 z3 z4 z5 y0 y1 y2 y3 y4 y5 y6 x0 x1 x2 x3 x4 x5
          go_wp2_with fail
          go_roundg (n1 - (j + 1))
          case measure => omega
          case rel => exact ⟨j + 1, by go_num, by omega, Nat.le_refl _, HB12.out⟩
        · have hjn' : ¬ (j : Int) < (n1 : Int) := by omega
          have HBE := hid (HB57.out.trans (HBJ.out.mono hs57))
          have HF8 := hid (HF7.out.below HBJ.out (Nat.le_refl _))
          have HWA := hid (waits_any _ _ _ _ _ _ _ _ _ wr HF8.out)
          have hg8 := HG5.out.trans (grown_of_below HBE.out (some w2.heap.size))
          have HREL := hid (show FdAt wr w2.heap.size (catB (pl.take (i + 1))) m1 k1 _ _ (z1 : Int) wt1 false by rw [HS1.out]; exact HF8.out)
          have HRE2 := hid (show FdOk (catB (pl.take (i + 1))) m1 k1 by rw [HS1.out]; exact HOK1.out)
          have HRE3 := hid (show z1 = (catB (pl.take (i + 1))).size by rw [HS1.out]; exact HZ1.out)
          have HG8 := hid hg8
          have hwt := HWT.out
          clear hg8 hjn hgj
          by_cases hZT : Z < T
          · have hZT' : (Z : Int) < (T : Int) := by omega
            have hZl : Z < (toks s1).length := by rw [← HT.out]; exact hZT
            obtain ⟨gd, rfl, hgd, y0, y1, y2, y3, y4, y5, y6⟩ := (HDR7.out.below HBJ.out (Nat.le_refl _)).at_ hZl
            rw [if_neg (by omega), List.getD_eq_getElem?_getD, List.getElem?_eq_getElem hZl, ← HZ1.out] at hwt
            simp only [Option.getD_some] at hwt
            have hm8 := toks_mem (List.getElem_mem hZl)
            generalize (toks s1)[Z] = tk at *
            obtain ⟨uk, uf, ut, un, ur, us⟩ := tk
            simp only at y0 y1 y2 y3 y4 y5 hm8 hwt
            have hwr : IntKind.i64.wrap wt1 = wt1 := IntWalk.i64_in _ (by have := HZ1.out; have := hm8.1; have := hm8.2.1; omega)
            clear hm8 hZl
            go_wp2_with fail
            refine HWA.out.mono ?_
            rintro e w8 ⟨rfl, hw⟩
            have hw2 := hw.symm
            clear hw
            subst hw2
            go_wp2_with fail
            go_roundg (N - (i + 1))
            case measure => omega
            case rel => exact ⟨i + 1, Z, z1, m1, k1, _, _, wt1, rfl, rfl, by go_num, by omega, Nat.le_refl _, HMK1.out.symm, HRE3.out, HREL.out, HRE2.out, HG8.out⟩
          · have hZT' : ¬ (Z : Int) < (T : Int) := by omega
            rw [if_pos (by have := HT.out; omega)] at hwt
            subst hwt
            go_wp2_with fail
            refine HWA.out.mono ?_
            rintro e w8 ⟨rfl, hw⟩
            have hw2 := hw.symm
            clear hw
            subst hw2
            go_wp2_with fail
            go_roundg (N - (i + 1))
            case measure => omega
            case rel => exact ⟨i + 1, Z, z1, m1, k1, _, _, 0, rfl, rfl, by go_num, by omega, Nat.le_refl _, HMK1.out.symm, HRE3.out, HREL.out, HRE2.out, HG8.out⟩
    · obtain rfl : i = N := by omega
      have hlt' : ¬ (i : Int) < (i : Int) := by omega
      have hfull : catB (pl.take i) = s := by rw [HN.out, List.take_length]; exact HCAT.out
      have hf := HF.out
      have hok := HOK.out
      have hzb := HZ.out
      rw [hfull] at hf hok hzb
      obtain rfl : bLen = z := by have := HLS.out; omega
      have HCL := hid (close_any w2.heap.size s m kk was wz _ wt wr hf hok (HMX.out.below HBq.out (Nat.le_refl _)) (mx_ne HMX.out hs2) (by have := HLS.out; omega))
      obtain ⟨T, hT⟩ : ∃ T, T = (toks s).length := ⟨_, rfl⟩
      have HT := hid hT
      have hT2 : T ≤ 200 := by rw [hT]; have := toks_len s; have := HLS.out; omega
      obtain ⟨n1, hn1⟩ : ∃ n1, n1 = T - q := ⟨_, rfl⟩
      have HN1 := hid hn1
      have hqT : q ≤ T := by have := hok.le; have := HQ.out; omega
      have HBEG := hid (begT_le (s := s) (m := m) (by have := hok.le; omega))
      rw [← HQ.out, ← hT, ← hn1] at HCL
      have hsub : (T : Int) - (q : Int) = (n1 : Int) := by omega
      have hwn1 : IntKind.i64.wrap (n1 : Int) = (n1 : Int) := IntWalk.i64_in _ (by omega)
      clear hT hn1 hf hok hzb hfull HF HOK HZ HCELL HPZ HCZ
      obtain ⟨wo, rfl⟩ : ∃ wo, wo = wr := ⟨wr, rfl⟩
      go_upto_region 28 with (go_at_call 15; refine HCL.out.mono ?_; rintro e w5 ⟨v1, m1, k1, rfl, hr1, hf1, hgr1⟩; obtain ⟨A1, c1, e1, htr1⟩ := TR.of_own hr1; subst e1)
      have hg5 := HG.out.trans hgr1
      have HB5 := hid (below_new HB4.out hg5 hs2 HB4.out.size)
      have HTR5 := hid htr1
      have HF5 := hid hf1
      have HAL := hid (refAll_any b bLen bCap s w5 (HBA.out w5 HB5.out) (by omega))
      clear hr1 htr1 hf1 hg5 hgr1 HCL
      go_wp2_with fail
      refine HAL.out.mono ?_
      rintro e w6 ⟨v6, rfl, hmd6, hb6⟩
      obtain ⟨A6, c6, rfl, hdr6⟩ := DR.of_made hmd6
      have HB6 := hid (HB5.out.trans (hb6.mono HB5.out.size))
      have HDR6 := hid hdr6
      have HF6 := hid (HF5.out.below hb6 (Nat.le_refl _))
      have HTR6 := hid (HTR5.out.below hb6 (Nat.le_refl _))
      rw [← HT.out] at HDR6 ⊢
      clear hmd6 hb6 hdr6 HAL HTR5 HF5
      go_wp2_with fail
      go_loopg [18] n1 (fun kx s18 wz => ∃ j : Nat, s18 = .int .i64 j ∧ j ≤ n1 ∧ n1 - j ≤ kx ∧ Hid (Below w6.heap.size w6 wz))
      case atStart => exact ⟨0, rfl, Nat.zero_le _, Nat.le_refl _, Below.refl _ _⟩
      case round =>
        obtain ⟨j, rfl, hj1, hgj, HBJ⟩ := hrel
        by_cases hjn : j < n1
        · have hjn' : (j : Int) < (n1 : Int) := by omega
          have hq1 : q + j < (toks s).length := by have := HN1.out; have := HT.out; omega
          have hl1 : j < ((toks s).drop q).length := by rw [List.length_drop]; omega
          have hel : ((toks s).drop q)[j] = (toks s)[q + j] := by rw [List.getElem_drop]
          obtain ⟨gt, rfl, hgt, x0, x1, x2, x3, x4, x5⟩ := (HTR6.out.below HBJ.out (Nat.le_refl _)).at_ hl1
          rw [hel] at x0 x1 x2 x3 x4 x5
          obtain ⟨gd, rfl, hgd, y0, y1, y2, y3, y4, y5, y6⟩ := (HDR6.out.below HBJ.out (Nat.le_refl _)).at_ hq1
          have hm8 := toks_mem (List.getElem_mem hq1)
          have hfm : begT (toks s) m ≤ ((toks s)[q + j]).fr := toks_from_fr (by have := HQ.out; omega) hq1
          have hrT : q + j < T := by rw [HT.out]; exact hq1
          have hqj : (q : Int) + (j : Int) = ((q + j : Nat) : Int) := by omega
          generalize (toks s)[q + j] = tk at *
          obtain ⟨uk, uf, ut, un, ur, us⟩ := tk
          simp only at x0 x1 x2 x3 x4 x5 y0 y1 y2 y3 y4 y5 hm8 hfm
          have hft : uf ≤ ut := Nat.le_of_lt hm8.1
          have htz : ut ≤ bLen := by rw [HLS.out]; exact hm8.2.1
          generalize q + j = r at *
          have hrT' : (r : Int) < (T : Int) := by omega
          have hwr : IntKind.i64.wrap (r : Int) = (r : Int) := IntWalk.i64_in _ (by omega)
          obtain ⟨A8, c8, HSL8, hba8⟩ := slice_ba (HBA.out w (Below.refl _ _)) hft htz
          obtain ⟨n8, hn8⟩ : ∃ n8, n8 = ut - uf := ⟨_, rfl⟩
          have HN8 := hid hn8
          rw [← hn8] at HSL8 hba8
          have HBYT := hid (fun (W : World) (h : Below w6.heap.size w6 W) => fbytes_any _ _ _ _ _ _ _ _ _ (uk : Int) (uf : Int) (ut : Int) un ur us W (HF6.out.below h (Nat.le_refl _)) (by have := HBEG.out; have := HLS.out; omega) (by rw [ext_size]; have := HLS.out; omega))
          rw [bytes_tok hfm hft (by have := HLS.out; omega)] at HBYT
          obtain ⟨X, hX⟩ : ∃ X, X = s.extract uf ut := ⟨_, rfl⟩
          rw [← hX] at HBYT hba8
          have HBX := hid hba8
          have HIS := hid (fun W => is_any (uk : Int) (uf : Int) (ut : Int) un ur us false W)
          have HB9w := hid (HB6.out.trans (HBJ.out.mono HB6.out.size))
          clear hm8 hfm hel hl1 hq1 hX hba8 hn8 hft htz hbb' hcb' hlt'
          have HSS := hid (fun (w' : World) (h : Below wr.heap.size wr w') => (show w'.cell? ⟨gt, j * 6, none⟩ = some (.int .i64 uk) ∧ w'.cell? ⟨gt, j * 6 + 1, none⟩ = some (.int .i64 uf) ∧ w'.cell? ⟨gt, j * 6 + 2, none⟩ = some (.int .i64 ut) ∧ w'.cell? ⟨gt, j * 6 + 3, none⟩ = some (.string un) ∧ w'.cell? ⟨gt, j * 6 + 4, none⟩ = some (.int .i32 ur) ∧ w'.cell? ⟨gt, j * 6 + 5, none⟩ = some (.bool us) ∧ w'.cell? ⟨gd, r * 7, none⟩ = some (.int .i64 uk) ∧ w'.cell? ⟨gd, r * 7 + 1, none⟩ = some (.int .i64 uf) ∧ w'.cell? ⟨gd, r * 7 + 2, none⟩ = some (.int .i64 ut) ∧ w'.cell? ⟨gd, r * 7 + 3, none⟩ = some (.string un) ∧ w'.cell? ⟨gd, r * 7 + 4, none⟩ = some (.int .i32 ur) ∧ w'.cell? ⟨gd, r * 7 + 5, none⟩ = some (.bool us) ∧ w'.cell? ⟨gd, r * 7 + 6, none⟩ = some (.bool false) ∧ (convert 22 9 (.slice A8 n8 c8)).run Tryz.prog w' = .ok (.string X) w' from ⟨(h.cell (p := ⟨gt, j * 6, none⟩) hgt).trans x0, (h.cell (p := ⟨gt, j * 6 + 1, none⟩) hgt).trans x1, (h.cell (p := ⟨gt, j * 6 + 2, none⟩) hgt).trans x2, (h.cell (p := ⟨gt, j * 6 + 3, none⟩) hgt).trans x3, (h.cell (p := ⟨gt, j * 6 + 4, none⟩) hgt).trans x4, (h.cell (p := ⟨gt, j * 6 + 5, none⟩) hgt).trans x5, (h.cell (p := ⟨gd, r * 7, none⟩) hgd).trans y0, (h.cell (p := ⟨gd, r * 7 + 1, none⟩) hgd).trans y1, (h.cell (p := ⟨gd, r * 7 + 2, none⟩) hgd).trans y2, (h.cell (p := ⟨gd, r * 7 + 3, none⟩) hgd).trans y3, (h.cell (p := ⟨gd, r * 7 + 4, none⟩) hgd).trans y4, (h.cell (p := ⟨gd, r * 7 + 5, none⟩) hgd).trans y5, (h.cell (p := ⟨gd, r * 7 + 6, none⟩) hgd).trans y6, conv_ba (HBX.out.below (HB9w.out.trans (h.mono HB9w.out.size)) (Nat.le_refl _))⟩))
          go_upto_region 34 with fail
          refine wp_region_held_drew (S := fun w' : World => w'.cell? ⟨gt, j * 6, none⟩ = some (.int .i64 uk) ∧ w'.cell? ⟨gt, j * 6 + 1, none⟩ = some (.int .i64 uf) ∧ w'.cell? ⟨gt, j * 6 + 2, none⟩ = some (.int .i64 ut) ∧ w'.cell? ⟨gt, j * 6 + 3, none⟩ = some (.string un) ∧ w'.cell? ⟨gt, j * 6 + 4, none⟩ = some (.int .i32 ur) ∧ w'.cell? ⟨gt, j * 6 + 5, none⟩ = some (.bool us) ∧ w'.cell? ⟨gd, r * 7, none⟩ = some (.int .i64 uk) ∧ w'.cell? ⟨gd, r * 7 + 1, none⟩ = some (.int .i64 uf) ∧ w'.cell? ⟨gd, r * 7 + 2, none⟩ = some (.int .i64 ut) ∧ w'.cell? ⟨gd, r * 7 + 3, none⟩ = some (.string un) ∧ w'.cell? ⟨gd, r * 7 + 4, none⟩ = some (.int .i32 ur) ∧ w'.cell? ⟨gd, r * 7 + 5, none⟩ = some (.bool us) ∧ w'.cell? ⟨gd, r * 7 + 6, none⟩ = some (.bool false) ∧ (convert 22 9 (.slice A8 n8 c8)).run Tryz.prog w' = .ok (.string X) w') (by kernel_rfl) (HSS.out _ (Below.refl _ _).drew) (fun hHeld => ?_)
          refine wpAnyH_take (i := 0) (v := ?hv21) rfl (by kernel_rfl) (by kernel_rfl) (by kernel_rfl) (fun _ _ _ h => h) (Or.inl ⟨by rfl, ?hy21⟩) (by assumption) ?hr21
          case hy21 => (intro w hSw; (try dsimp only at hSw); go_simp; try with_reducible rfl)
          (try simp only [Act.put, List.getElem_toArray, List.getElem_cons_zero, List.setIfInBounds_toArray, List.set_cons_zero, List.set_cons_succ])
          refine wpAnyH_take (i := 1) (v := ?hv22) rfl (by kernel_rfl) (by kernel_rfl) (by kernel_rfl) (fun _ _ _ h => h) (Or.inl ⟨by rfl, ?hy22⟩) (by assumption) ?hr22
          case hy22 => (intro w hSw; (try dsimp only at hSw); go_simp; try with_reducible rfl)
          (try simp only [Act.put, List.getElem_toArray, List.getElem_cons_zero, List.getElem_cons_succ, List.setIfInBounds_toArray, List.set_cons_zero, List.set_cons_succ])
          refine wpAnyH_take (i := 2) (v := ?hv23) rfl (by kernel_rfl) (by kernel_rfl) (by kernel_rfl) (fun _ _ _ h => h) (Or.inl ⟨by rfl, ?hy23⟩) (by assumption) ?hr23
          case hy23 => (intro w hSw; (try dsimp only at hSw); go_simp; try with_reducible rfl)
          (try simp only [Act.put, List.getElem_toArray, List.getElem_cons_zero, List.getElem_cons_succ, List.setIfInBounds_toArray, List.set_cons_zero, List.set_cons_succ])
          refine wpAnyH_take (i := 3) (v := ?hv24) rfl (by kernel_rfl) (by kernel_rfl) (by kernel_rfl) (fun _ _ _ h => h) (Or.inl ⟨by rfl, ?hy24⟩) (by assumption) ?hr24
          case hy24 => (intro w hSw; (try dsimp only at hSw); go_simp; try with_reducible rfl)
          (try simp only [Act.put, List.getElem_toArray, List.getElem_cons_zero, List.getElem_cons_succ, List.setIfInBounds_toArray, List.set_cons_zero, List.set_cons_succ])
          refine wpAnyH_take (i := 4) (v := ?hv25) rfl (by kernel_rfl) (by kernel_rfl) (by kernel_rfl) (fun _ _ _ h => h) (Or.inl ⟨by rfl, ?hy25⟩) (by assumption) ?hr25
          case hy25 => (intro w hSw; (try dsimp only at hSw); go_simp; try with_reducible rfl)
          (try simp only [Act.put, List.getElem_toArray, List.getElem_cons_zero, List.getElem_cons_succ, List.setIfInBounds_toArray, List.set_cons_zero, List.set_cons_succ])
          refine wpAnyH_take (i := 5) (v := ?hv26) rfl (by kernel_rfl) (by kernel_rfl) (by kernel_rfl) (fun _ _ _ h => h) (Or.inl ⟨by rfl, ?hy26⟩) (by assumption) ?hr26
          case hy26 => (intro w hSw; (try dsimp only at hSw); go_simp; try with_reducible rfl)
          (try simp only [Act.put, List.getElem_toArray, List.getElem_cons_zero, List.getElem_cons_succ, List.setIfInBounds_toArray, List.set_cons_zero, List.set_cons_succ])
          refine wpAnyH_take (i := 6) (v := ?hv27) rfl (by kernel_rfl) (by kernel_rfl) (by kernel_rfl) (fun _ _ _ h => h) (Or.inl ⟨by rfl, ?hy27⟩) (by assumption) ?hr27
          case hy27 => (intro w hSw; (try dsimp only at hSw); go_simp; try with_reducible rfl)
          (try simp only [Act.put, List.getElem_toArray, List.getElem_cons_zero, List.getElem_cons_succ, List.setIfInBounds_toArray, List.set_cons_zero, List.set_cons_succ])
          refine wpAnyH_take (i := 7) (v := ?hv28) rfl (by kernel_rfl) (by kernel_rfl) (by kernel_rfl) (fun _ _ _ h => h) (Or.inl ⟨by rfl, ?hy28⟩) (by assumption) ?hr28
          case hy28 => (intro w hSw; (try dsimp only at hSw); go_simp; try with_reducible rfl)
          (try simp only [Act.put, List.getElem_toArray, List.getElem_cons_zero, List.getElem_cons_succ, List.setIfInBounds_toArray, List.set_cons_zero, List.set_cons_succ])
          refine wpAnyH_take (i := 8) (v := ?hv29) rfl (by kernel_rfl) (by kernel_rfl) (by kernel_rfl) (fun _ _ _ h => h) (Or.inl ⟨by rfl, ?hy29⟩) (by assumption) ?hr29
          case hy29 => (intro w hSw; (try dsimp only at hSw); go_simp; try with_reducible rfl)
          (try simp only [Act.put, List.getElem_toArray, List.getElem_cons_zero, List.getElem_cons_succ, List.setIfInBounds_toArray, List.set_cons_zero, List.set_cons_succ])
          refine wpAnyH_take (i := 9) (v := ?hv30) rfl (by kernel_rfl) (by kernel_rfl) (by kernel_rfl) (fun _ _ _ h => h) (Or.inl ⟨by rfl, ?hy30⟩) (by assumption) ?hr30
          case hy30 => (intro w hSw; (try dsimp only at hSw); go_simp; try with_reducible rfl)
          (try simp only [Act.put, List.getElem_toArray, List.getElem_cons_zero, List.getElem_cons_succ, List.setIfInBounds_toArray, List.set_cons_zero, List.set_cons_succ])
          refine wpAnyH_ready (rs := [10]) (by kernel_rfl) (by simp) ?_
          refine AllReadyH.cons rfl (fun K hK => ?_) AllReadyH.nil
          go_simp
          go_at_call 19
          refine (HIS.out _).mono ?_
          rintro e w10 ⟨rfl, hb10⟩
          have HB10 := hid ((Below.refl wr.heap.size wr).drew.trans (hb10.mono (by exact Nat.le_refl _)))
          clear hb10
          go_wp2_with fail
          refine hK.out _ _ (HSS.out _ HB10.out) (fun hHeld2 => ?_)
          clear hK K hHeld
          refine wpAnyH_take (i := 11) (v := ?hv31) rfl (by kernel_rfl) (by kernel_rfl) (by kernel_rfl) (fun _ _ _ h => h) (Or.inl ⟨by rfl, ?hy31⟩) (by assumption) ?hr31
          case hy31 => (intro w hSw; (try dsimp only at hSw); go_simp; try with_reducible rfl)
          (try simp only [Act.put, List.getElem_toArray, List.getElem_cons_zero, List.getElem_cons_succ, List.setIfInBounds_toArray, List.set_cons_zero, List.set_cons_succ])
          refine wpAnyH_take (i := 12) (v := ?hv32) rfl (by kernel_rfl) (by kernel_rfl) (by kernel_rfl) (fun _ _ _ h => h) (Or.inl ⟨by rfl, ?hy32⟩) (by assumption) ?hr32
          case hy32 => (intro w hSw; (try dsimp only at hSw); go_simp; try with_reducible rfl)
          (try simp only [Act.put, List.getElem_toArray, List.getElem_cons_zero, List.getElem_cons_succ, List.setIfInBounds_toArray, List.set_cons_zero, List.set_cons_succ])
          refine wpAnyH_take (i := 13) (v := ?hv33) rfl (by kernel_rfl) (by kernel_rfl) (by kernel_rfl) (fun _ _ _ h => h) (Or.inl ⟨by rfl, ?hy33⟩) (by assumption) ?hr33
          case hy33 => (intro w hSw; (try dsimp only at hSw); go_simp; try with_reducible rfl)
          (try simp only [Act.put, List.getElem_toArray, List.getElem_cons_zero, List.getElem_cons_succ, List.setIfInBounds_toArray, List.set_cons_zero, List.set_cons_succ])
          refine wpAnyH_take (i := 14) (v := ?hv34) rfl (by kernel_rfl) (by kernel_rfl) (by kernel_rfl) (fun _ _ _ h => h) (Or.inl ⟨by rfl, ?hy34⟩) (by assumption) ?hr34
          case hy34 => (intro w hSw; (try dsimp only at hSw); go_simp; try with_reducible rfl)
          (try simp only [Act.put, List.getElem_toArray, List.getElem_cons_zero, List.getElem_cons_succ, List.setIfInBounds_toArray, List.set_cons_zero, List.set_cons_succ])
          refine wpAnyH_take (i := 15) (v := ?hv35) rfl (by kernel_rfl) (by kernel_rfl) (by kernel_rfl) (fun _ _ _ h => h) (Or.inl ⟨by rfl, ?hy35⟩) (by assumption) ?hr35
          case hy35 => (intro w hSw; (try dsimp only at hSw); go_simp; try with_reducible rfl)
          (try simp only [Act.put, List.getElem_toArray, List.getElem_cons_zero, List.getElem_cons_succ, List.setIfInBounds_toArray, List.set_cons_zero, List.set_cons_succ])
          refine wpAnyH_take (i := 16) (v := ?hv36) rfl (by kernel_rfl) (by kernel_rfl) (by kernel_rfl) (fun _ _ _ h => h) (Or.inl ⟨by rfl, ?hy36⟩) (by assumption) ?hr36
          case hy36 => (intro w hSw; (try dsimp only at hSw); go_simp; try with_reducible rfl)
          (try simp only [Act.put, List.getElem_toArray, List.getElem_cons_zero, List.getElem_cons_succ, List.setIfInBounds_toArray, List.set_cons_zero, List.set_cons_succ])
          refine wpAnyH_take (i := 17) (v := ?hv37) rfl (by kernel_rfl) (by kernel_rfl) (by kernel_rfl) (fun _ _ _ h => h) (Or.inl ⟨by rfl, ?hy37⟩) (by assumption) ?hr37
          case hy37 => (intro w hSw; (try dsimp only at hSw); go_simp; try with_reducible rfl)
          (try simp only [Act.put, List.getElem_toArray, List.getElem_cons_zero, List.getElem_cons_succ, List.setIfInBounds_toArray, List.set_cons_zero, List.set_cons_succ])
          refine wpAnyH_take (i := 20) (v := ?hv38) rfl (by kernel_rfl) (by kernel_rfl) (by kernel_rfl) (fun _ _ _ h => h) (Or.inl ⟨by rfl, ?hy38⟩) (by assumption) ?hr38
          case hy38 => (intro w hSw; (try dsimp only at hSw); go_simp; try with_reducible rfl)
          (try simp only [Act.put, List.getElem_toArray, List.getElem_cons_zero, List.getElem_cons_succ, List.setIfInBounds_toArray, List.set_cons_zero, List.set_cons_succ])
          refine wpAnyH_take (i := 21) (v := ?hv39) rfl (by kernel_rfl) (by kernel_rfl) (by kernel_rfl) (fun _ _ _ h => h) (Or.inl ⟨by rfl, ?hy39⟩) (by assumption) ?hr39
          case hy39 => (intro w hSw; (try dsimp only at hSw); go_simp; try with_reducible rfl)
          (try simp only [Act.put, List.getElem_toArray, List.getElem_cons_zero, List.getElem_cons_succ, List.setIfInBounds_toArray, List.set_cons_zero, List.set_cons_succ])
          refine wpAnyH_take (i := 22) (v := ?hv40) rfl (by kernel_rfl) (by kernel_rfl) (by kernel_rfl) (fun _ _ _ h => h) (Or.inl ⟨by rfl, ?hy40⟩) (by assumption) ?hr40
          case hy40 => (intro w hSw; (try dsimp only at hSw); go_simp; try with_reducible rfl)
          (try simp only [Act.put, List.getElem_toArray, List.getElem_cons_zero, List.getElem_cons_succ, List.setIfInBounds_toArray, List.set_cons_zero, List.set_cons_succ])
          refine wpAnyH_take (i := 23) (v := ?hv41) rfl (by kernel_rfl) (by kernel_rfl) (by kernel_rfl) (fun _ _ _ h => h) (Or.inl ⟨by rfl, ?hy41⟩) (by assumption) ?hr41
          case hy41 => (intro w hSw; (try dsimp only at hSw); go_simp; try with_reducible rfl)
          (try simp only [Act.put, List.getElem_toArray, List.getElem_cons_zero, List.getElem_cons_succ, List.setIfInBounds_toArray, List.set_cons_zero, List.set_cons_succ])
          refine wpAnyH_take (i := 24) (v := ?hv42) rfl (by kernel_rfl) (by kernel_rfl) (by kernel_rfl) (fun _ _ _ h => h) (Or.inl ⟨by rfl, ?hy42⟩) (by assumption) ?hr42
          case hy42 => (intro w hSw; (try dsimp only at hSw); go_simp; try with_reducible rfl)
          (try simp only [Act.put, List.getElem_toArray, List.getElem_cons_zero, List.getElem_cons_succ, List.setIfInBounds_toArray, List.set_cons_zero, List.set_cons_succ])
          refine wpAnyH_take (i := 25) (v := ?hv43) rfl (by kernel_rfl) (by kernel_rfl) (by kernel_rfl) (fun _ _ _ h => h) (Or.inl ⟨by rfl, ?hy43⟩) (by assumption) ?hr43
          case hy43 => (intro w hSw; (try dsimp only at hSw); go_simp; try with_reducible rfl)
          (try simp only [Act.put, List.getElem_toArray, List.getElem_cons_zero, List.getElem_cons_succ, List.setIfInBounds_toArray, List.set_cons_zero, List.set_cons_succ])
          refine wpAnyH_take (i := 26) (v := ?hv44) rfl (by kernel_rfl) (by kernel_rfl) (by kernel_rfl) (fun _ _ _ h => h) (Or.inl ⟨by rfl, ?hy44⟩) (by assumption) ?hr44
          case hy44 => (intro w hSw; (try dsimp only at hSw); go_simp; try with_reducible rfl)
          (try simp only [Act.put, List.getElem_toArray, List.getElem_cons_zero, List.getElem_cons_succ, List.setIfInBounds_toArray, List.set_cons_zero, List.set_cons_succ])
          refine wpAnyH_take (i := 27) (v := ?hv45) rfl (by kernel_rfl) (by kernel_rfl) (by kernel_rfl) (fun _ _ _ h => h) (Or.inl ⟨by rfl, ?hy45⟩) (by assumption) ?hr45
          case hy45 => (intro w hSw; (try dsimp only at hSw); go_simp; try with_reducible rfl)
          (try simp only [Act.put, List.getElem_toArray, List.getElem_cons_zero, List.getElem_cons_succ, List.setIfInBounds_toArray, List.set_cons_zero, List.set_cons_succ])
          refine wpAnyH_take (i := 28) (v := ?hv46) rfl (by kernel_rfl) (by kernel_rfl) (by kernel_rfl) (fun _ _ _ h => h) (Or.inl ⟨by rfl, ?hy46⟩) (by assumption) ?hr46
          case hy46 => (intro w hSw; (try dsimp only at hSw); go_simp; try with_reducible rfl)
          (try simp only [Act.put, List.getElem_toArray, List.getElem_cons_zero, List.getElem_cons_succ, List.setIfInBounds_toArray, List.set_cons_zero, List.set_cons_succ])
          refine wpAnyH_take (i := 29) (v := ?hv47) rfl (by kernel_rfl) (by kernel_rfl) (by kernel_rfl) (fun _ _ _ h => h) (Or.inl ⟨by rfl, ?hy47⟩) (by assumption) ?hr47
          case hy47 => (intro w hSw; (try dsimp only at hSw); go_simp; try with_reducible rfl)
          (try simp only [Act.put, List.getElem_toArray, List.getElem_cons_zero, List.getElem_cons_succ, List.setIfInBounds_toArray, List.set_cons_zero, List.set_cons_succ])
          refine wpAnyH_take (i := 30) (v := ?hv48) rfl (by kernel_rfl) (by kernel_rfl) (by kernel_rfl) (fun _ _ _ h => h) (Or.inl ⟨by rfl, ?hy48⟩) (by assumption) ?hr48
          case hy48 => (intro w hSw; (try dsimp only at hSw); go_simp; try with_reducible rfl)
          (try simp only [Act.put, List.getElem_toArray, List.getElem_cons_zero, List.getElem_cons_succ, List.setIfInBounds_toArray, List.set_cons_zero, List.set_cons_succ])
          refine wpAnyH_take (i := 31) (v := ?hv49) rfl (by kernel_rfl) (by kernel_rfl) (by kernel_rfl) (fun _ _ _ h => h) (Or.inl ⟨by rfl, ?hy49⟩) (by assumption) ?hr49
          case hy49 => (intro w hSw; (try dsimp only at hSw); go_simp; try with_reducible rfl)
          (try simp only [Act.put, List.getElem_toArray, List.getElem_cons_zero, List.getElem_cons_succ, List.setIfInBounds_toArray, List.set_cons_zero, List.set_cons_succ])
          refine wpAnyH_take (i := 32) (v := ?hv50) rfl (by kernel_rfl) (by kernel_rfl) (by kernel_rfl) (fun _ _ _ h => h) (Or.inl ⟨by rfl, ?hy50⟩) (by assumption) ?hr50
          case hy50 => (intro w hSw; (try dsimp only at hSw); go_simp; try with_reducible rfl)
          (try simp only [Act.put, List.getElem_toArray, List.getElem_cons_zero, List.getElem_cons_succ, List.setIfInBounds_toArray, List.set_cons_zero, List.set_cons_succ])
          refine wpAnyH_ready (rs := [18]) (by kernel_rfl) (by simp) ?_
          refine AllReadyH.cons rfl (fun K hK => ?_) AllReadyH.nil
          go_simp
          go_at_call 20
          refine (HBYT.out _ (HBJ.out.trans (HB10.out.mono HBJ.out.size))).mono ?_
          rintro e w11 ⟨A11, n11, c11, rfl, hba11, hb11⟩
          have HB11 := hid (HB10.out.trans (hb11.mono HB10.out.size))
          have hcv11 := conv_ba hba11
          clear hb11 hba11
          go_wp2_with fail
          refine hK.out _ _ (HSS.out _ HB11.out) (fun hHeld3 => ?_)
          clear hK K hHeld2
          refine wpAnyH_ready (rs := [19]) (by kernel_rfl) (by simp) ?_
          refine AllReadyH.cons rfl (fun K hK => ?_) AllReadyH.nil
          go_wp2_with fail
          refine hK.out _ _ (HSS.out _ HB11.out) (fun hHeld4 => ?_)
          clear hK K hHeld3
          refine wpAnyH_take (i := 33) (v := ?hv51) rfl (by kernel_rfl) (by kernel_rfl) (by kernel_rfl) (fun _ _ _ h => h) (Or.inl ⟨by rfl, ?hy51⟩) (by assumption) ?hr51
          case hy51 => (intro w hSw; (try dsimp only at hSw); go_simp; try with_reducible rfl)
          (try simp only [Act.put, List.getElem_toArray, List.getElem_cons_zero, List.getElem_cons_succ, List.setIfInBounds_toArray, List.set_cons_zero, List.set_cons_succ])
          refine wpAnyH_take (i := 34) (v := ?hv52) rfl (by kernel_rfl) (by kernel_rfl) (by kernel_rfl) (fun _ _ _ h => h) (Or.inl ⟨by rfl, ?hy52⟩) (by assumption) ?hr52
          case hy52 => (intro w hSw; (try dsimp only at hSw); go_simp; try with_reducible rfl)
          (try simp only [Act.put, List.getElem_toArray, List.getElem_cons_zero, List.getElem_cons_succ, List.setIfInBounds_toArray, List.set_cons_zero, List.set_cons_succ])
          refine wpAnyH_done (by kernel_rfl) ?_ _
          clear hHeld4
          have HB12 := hid (HBJ.out.trans (HB11.out.mono HBJ.out.size))
          clear hcv11 x0 x1 x2 x3 x4 x5 y0 y1 y2 y3 y4 y5 y6
          go_wp2_with fail
          go_roundg (n1 - (j + 1))
          case measure => omega
          case rel => exact ⟨j + 1, by go_num, by omega, Nat.le_refl _, HB12.out⟩
        · have hjn' : ¬ (j : Int) < (n1 : Int) := by omega
          have HFX := hid (HF6.out.below HBJ.out (Nat.le_refl _))
          have HWA := hid (waits_any _ _ _ _ _ _ _ _ _ wr HFX.out)
          have HFS := hid (feed_shut _ _ _ _ _ _ _ _ b bLen bCap wr HFX.out)
          have HCS := hid (close_shut _ _ _ _ _ _ _ _ wr HFX.out)
          have HFD := hid (fed_any _ _ _ _ _ _ _ _ _ wr HFX.out)
          have HBE := hid (HB6.out.trans (HBJ.out.mono HB6.out.size))
          clear hjn hgj
          go_wp2_with fail
          refine HWA.out.mono ?_
          rintro e w8 ⟨rfl, hw⟩
          have hw2 := hw.symm
          clear hw
          subst hw2
          go_wp2_with fail
          refine HFS.out.mono ?_
          rintro e w8 ⟨rfl, hw⟩
          have hw2 := hw.symm
          clear hw
          subst hw2
          go_wp2_with fail
          refine HCS.out.mono ?_
          rintro e w8 ⟨rfl, hw⟩
          have hw2 := hw.symm
          clear hw
          subst hw2
          go_wp2_with fail
          refine HFD.out.mono ?_
          rintro e w8 ⟨rfl, hw⟩
          have hw2 := hw.symm
          clear hw
          subst hw2
          go_wp2_with fail
          go_ret
          exact ⟨rfl, HBE.out⟩
end Go.Proofs.YtpnbkecchfhimaaGreatDoor.feedPlays
