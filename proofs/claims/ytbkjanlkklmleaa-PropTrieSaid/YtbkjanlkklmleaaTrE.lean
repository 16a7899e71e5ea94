/- Chapter 03: (*builder).at: the walk. -/
import Derived.Test.YtbkjanlkklmleaaTrF
namespace Go.Proofs.Ytbkjanlkklmleaa
open Go.RowKit
open Go.Lib (hid)
set_option linter.unusedVariables false
set_option linter.unusedSimpArgs false
set_option maxRecDepth 100000

theorem tr_zero : Try.zeroCells71 = mkA (fun _ => 0) := by kernel_rfl
theorem tr_info : (Try.prog.info? 71).map (·.size) = some 256 := by kernel_rfl
theorem mkA_one (f : Nat → Int) : (mkA f).all (·.oneCell') = true := by
  rw [Array.all_eq_true]
  intro i hi
  have : (mkA f)[i] = .int .u8 (f i) := by simp [mkA]
  rw [this]
  rfl
theorem colF_snoc_pF (E : Nat → List Rg × Int) (l : List Nat) (i p : Nat) (b : Int) (k : Nat) : pF (E i).1 (E i).2 p (fun k => colF E l ((p : Int) * 256 + k) b) k = colF E (l ++ [i]) ((p : Int) * 256 + k) b := by
  rw [colF_snoc]; rfl
theorem BdS.grow {W0 W W' : World} {B g ob : Nat} {lv : Value} {s : Bs} {pv : Nat → Value} {cs : Array Value} (h : BdS W0 W B g lv s pv) (hg : W.grownBy W' (some ob)) (hob : Blk W ob 71 cs) (hog : ob ≠ g) (hoB : B ≤ ob) (hB : B ≤ W.heap.size) : BdS W0 W' B g lv s pv := by
  have hblk : W'.heap[g]? = W.heap[g]? := hg.block g h.gl (fun e => hog (by injection e with e; exact e.symm))
  have hc : ∀ j, W'.cell? ⟨g, j, none⟩ = W.cell? ⟨g, j, none⟩ := fun j => World.cell?_of_block (a := ⟨g, j, none⟩) hblk
  exact ⟨h.gB, Nat.lt_of_lt_of_le h.gl hg.size, (hc 0).trans h.c0, fun p hp => (hc _).trans (h.wh p hp), fun p hp => (hc _).trans (h.pt p hp), fun j => (blk_frozen hblk).trans (h.fz j), fun p hp => own_kept (h.row p hp) hg (fun k hk e => own_blk_ne (h.row p hp) hob (by decide) (by rw [hk, e])), h.ap, h.rg, h.bel.grown hg hB (fun j e => by injection e with e; omega)⟩
set_option maxHeartbeats 8000000 in
theorem trat_any (W0 : World) (g le c nE p : Nat) (E : Nat → List Rg × Int) (o : Int) (s : Bs) (pv : Nat → Value) (w : World) (he : EntR W0 le nE E) (hb : BdS W0 w W0.heap.size g (.slice (some ⟨le, 0, none⟩) nE c) s pv) (hP : PtOk s nE) (hn : nE ≤ 200) (hR : ∀ i, i < nE → okL (E i).1) (hC : ∀ i, i < nE → 0 ≤ (E i).2 ∧ (E i).2 ≤ 255) (ho : 0 ≤ o ∧ o ≤ 255) (hp : p < 4352) :
    Calls Try.prog 44 #[.pointer (some ⟨g, 0, none⟩), .int .i64 p, .int .i64 o] w fun e w' => ∃ f, e = .returned (.agg (mkA f)) ∧ (∀ k, k < 256 → f k = colP E o s p ((p : Int) * 256 + k)) ∧ Below w.heap.size w w' := by
  have HE := hid he
  have HB := hid hb
  have HP := hid hP
  have HR := hid hR
  have HC := hid hC
  have w0 := hb.wh p hp
  have p0 := hb.pt p hp
  have c0 := hb.c0
  have hrow := hb.row p hp
  have hgl := hb.gl
  have hW0 := hb.bel.size
  have hp' : (p : Int) < 4352 := by omega
  obtain ⟨Ap, cp, hpv⟩ := owns_slice hrow
  rw [hpv] at p0 hrow
  obtain ⟨n, hn0⟩ : ∃ n, n = (s.parts p).length := ⟨_, rfl⟩
  have HN := hid hn0
  rw [← hn0] at p0
  have hn200 : n ≤ 200 := by have := hP.len p; omega
  have HROW := hid hrow
  clear hb hP hR he hrow hpv hn0
  have HCEL := hid (show ∀ j (h : j < (s.parts p).length), ∃ gA, Ap = some ⟨gA, 0, none⟩ ∧ gA < w.heap.size ∧ w.cell? ⟨gA, j, none⟩ = some (nInt (s.parts p)[j]) from fun j hj => by
    obtain ⟨a, c, e1, e2, e3, e4⟩ := owns_form HROW.out
    injection e1 with e1 _ _
    obtain ⟨gA, e5, e6, e7, e8⟩ := e4 (by omega)
    refine ⟨gA, e1.trans e5, e7, ?_⟩
    rw [e8 j (by omega), List.getElem?_map, List.getElem?_eq_getElem hj]
    rfl)
  have HWB := hid ((HP.out p).2.2)
  have HBASE := hid (show baseC E o s p = if 0 < s.whole p then (E (s.whole p - 1)).2 else o from rfl)
  obtain ⟨wp, hwp⟩ : ∃ wp, wp = s.whole p := ⟨_, rfl⟩
  rw [← hwp] at w0 HWB HBASE
  unfold nInt at w0
  obtain ⟨bs, hbs⟩ : ∃ bs, bs = baseC E o s p := ⟨_, rfl⟩
  have HBS := hid hbs
  rw [← hbs] at HBASE
  clear hwp hbs
  have hbr : 0 ≤ bs ∧ bs ≤ 255 := by
    rw [HBASE.out]
    split
    · exact HC.out _ (by have := HWB.out; omega)
    · exact ho
  have hcw : IntKind.u8.wrap bs = bs := by unfold IntKind.wrap; simp [IntKind.signed, IntKind.bits]; omega
  have HBR := hid hbr
  have hn0 : Hid (n = (s.parts p).length) := HN
  go_enter Try.func44, Try.ntmps44
  have hcut : wp = 0 ∨ ∃ k, wp = k + 1 := by rcases wp with _ | k; exact .inl rfl; exact .inr ⟨k, rfl⟩
  have HQ1 := hid (show Blk ((w.alloc (.cells Try.zeroCells71 71)).alloc (.cells Try.zeroCells71 71)) w.heap.size 71 (mkA fun _ => 0) from by
    rw [← tr_zero]
    exact (Blk.new w _ _).alloc _)
  have HQ2 := hid (show Blk ((w.alloc (.cells Try.zeroCells71 71)).alloc (.cells Try.zeroCells71 71)) (w.heap.size + 1) 71 (mkA fun k => if k < 0 then bs else 0) from by
    rw [mkA_congr (h := fun _ => 0) (fun k hk => if_neg (Nat.not_lt_zero _)), ← tr_zero, show w.heap.size + 1 = (w.alloc (.cells Try.zeroCells71 71)).heap.size by simp]
    exact Blk.new _ _ _)
  have HBL := hid (((Below.refl w.heap.size w).alloc (Nat.le_refl _) (.cells Try.zeroCells71 71)).alloc (by simp) (.cells Try.zeroCells71 71))
  rcases hcut with h0 | ⟨k, h0⟩
  · subst h0
    have hb0 : o = bs := HBASE.out.symm
    have HO := hid hb0
    rw [hb0]
    clear hb0
    go_wp2_with fail
    generalize hW2 : (w.alloc (.cells Try.zeroCells71 71)).alloc (.cells Try.zeroCells71 71) = w2 at *
    go_loopg [29] 256 (fun kx s29 wr => ∃ i : Nat, s29 = .int .i64 i ∧ i ≤ 256 ∧ 256 - i ≤ kx ∧ Hid (Blk wr w.heap.size 71 (mkA fun _ => 0)) ∧ Hid (Blk wr (w.heap.size + 1) 71 (mkA fun k => if k < i then bs else 0)) ∧ Hid (Below w.heap.size w wr))
    case atStart => exact ⟨0, rfl, Nat.zero_le _, Nat.le_refl _, HQ1.out, HQ2.out, HBL.out⟩
    case round =>
      obtain ⟨i, rfl, hi1, hgi, HA1, HA2, HBW⟩ := hrel
      by_cases hlt : i < 256
      · have hlt' : (i : Int) < 256 := by omega
        have e0 := (HA2.out.cell i).trans (mkA_get _ i hlt)
        have f0 := HA2.out.frozen i
        have hne : w.heap.size ≠ w.heap.size + 1 := by omega
        have HN1 := hid (HA1.out.far (p := ⟨w.heap.size + 1, i, none⟩) hne (.int .u8 bs))
        have HN2 := hid (show Blk (wr.setCell ⟨w.heap.size + 1, i, none⟩ (.int .u8 bs)) (w.heap.size + 1) 71 (mkA fun k => if k < i + 1 then bs else 0) from by
          have := HA2.out.set_ i (.int .u8 bs)
          rw [mkA_set _ _ hlt] at this
          rw [mkA_congr (h := updN (fun k => if k < i then bs else 0) i bs)]
          · exact this
          · intro k hk
            unfold updN
            by_cases e : k = i
            · rw [if_pos e, if_pos (by omega)]
            · rw [if_neg e]
              show _ = if k < i then bs else 0
              by_cases e2 : k < i
              · rw [if_pos e2, if_pos (by omega)]
              · rw [if_neg e2, if_neg (by omega)])
        have HNB := hid (HBW.out.setCell (p := ⟨w.heap.size + 1, i, none⟩) (Nat.le_succ _) (.int .u8 bs))
        clear HA1 HA2 HBW hne
        go_wp2_with fail
        go_roundg (256 - (i + 1))
        case measure => omega
        case rel => exact ⟨i + 1, by go_num, by omega, Nat.le_refl _, HN1.out, HN2.out, HNB.out⟩
      · have hlt' : ¬ (i : Int) < 256 := by omega
        obtain rfl : i = 256 := by omega
        have hp0 := (HBW.out.cell (p := ⟨g, 4353 + p, none⟩) hgl).trans p0
        have HA3 := hid (show Blk wr (w.heap.size + 1) 71 (mkA fun k => bs) from by
          rw [mkA_congr (h := fun k => if k < 256 then bs else 0) (fun k hk => (if_pos hk).symm)]
          exact HA2.out)
        clear HA2 hlt hi1 hgi
        go_wp2_with fail
        go_loopg [44] n (fun kx s44 wr => ∃ (j : Nat) (h : Nat → Int), s44 = .int .i64 j ∧ j ≤ n ∧ n - j ≤ kx ∧ Hid (Blk wr w.heap.size 71 (mkA fun _ => 0)) ∧ Hid (Blk wr (w.heap.size + 1) 71 (mkA h)) ∧ Hid (∀ k, k < 256 → h k = colF E ((s.parts p).take j) ((p : Int) * 256 + k) bs) ∧ Hid (Below w.heap.size w wr))
        case atStart => exact ⟨0, _, rfl, Nat.zero_le _, Nat.le_refl _, HA1.out, HA3.out, fun k _ => rfl, HBW.out⟩
        case round =>
          obtain ⟨j, h, rfl, hj1, hgj, HA1, HA2, HH, HBW⟩ := hrel
          by_cases hlt : j < n
          · have hlt' : (j : Int) < (n : Int) := by omega
            have hjl : j < (s.parts p).length := by rw [← HN.out]; exact hlt
            obtain ⟨gA, rfl, hgA, hcj⟩ := HCEL.out j hjl
            have hcj := (HBW.out.cell (p := ⟨gA, j, none⟩) hgA).trans hcj
            have hix := (HP.out p).2.1 _ (List.getElem_mem hjl)
            have htk : (s.parts p).take (j + 1) = (s.parts p).take j ++ [(s.parts p)[j]] := by rw [List.take_add_one, List.getElem?_eq_getElem hjl]; rfl
            have HTK := hid htk
            clear htk
            generalize (s.parts p)[j] = ix at *
            unfold nInt at hcj
            have HPA := hid (paint_any W0 g (w.heap.size + 1) le c nE ix p E h wr HE.out (HB.out.bel.trans (HBW.out.mono hW0)) ((HBW.out.cell (p := ⟨g, 0, none⟩) hgl).trans c0) (Nat.lt_of_lt_of_le hgl HBW.out.size) HA2.out (by omega) (by omega) hix hn (HR.out ix hix) (HC.out ix hix) hp)
            clear hjl HA2
            go_wp2_with fail
            refine HPA.out.mono ?_
            rintro e w3 ⟨rfl, hb3, hg3⟩
            have HB3 := hid hb3
            have HA4 := hid (HA1.out.grown hg3 (fun e => by injection e with e; omega))
            have HBW3 := hid (HBW.out.grown hg3 HBW.out.size (fun j e => by injection e with e; omega))
            have HH3 := hid (show ∀ k, k < 256 → pF (E ix).1 (E ix).2 p h k = colF E ((s.parts p).take (j + 1)) ((p : Int) * 256 + k) bs from fun k hk => by
              rw [HTK.out, ← colF_snoc_pF]
              unfold pF
              rw [HH.out k hk])
            clear hb3 hg3 HPA HA1
            go_wp2_with fail
            go_roundg (n - (j + 1))
            case measure => omega
            case rel => exact ⟨j + 1, _, by go_num, by omega, Nat.le_refl _, HA4.out, HB3.out, HH3.out, HBW3.out⟩
          · have hlt' : ¬ (j : Int) < (n : Int) := by omega
            have HFIN := hid (show ∀ k, k < 256 → h k = colP E o s p ((p : Int) * 256 + k) from fun k hk => by
              rw [HH.out k hk, List.take_of_length_le (by have := HN.out; omega), HBS.out]
              rfl)
            have HRB := hid (show Below w.heap.size w (wr.setRow w.heap.size (mkA h)) from ⟨HBW.out.os, HBW.out.tape, HBW.out.output, by simpa using HBW.out.size, fun k hk => by rw [setRow_other _ _ _ _ (by omega)]; exact HBW.out.block k hk⟩)
            have HRH := hid (setRow_heap wr w.heap.size _ (mkA h) _ _ HA1.out)
            clear hlt
            go_wp2_with (first
              | (refine wpList_load_row rfl 71 (.tmp 7) rfl (w.heap.size + 1) rfl 71 (mkA h) (0, 0) _ HA2.out tr_und rfl (by rw [mkA_size]; exact tr_info) ?_)
              | (refine wpList_store_row rfl 71 (.tmp 6) (.tmp 53) rfl w.heap.size (mkA h) rfl rfl 71 _ HA1.out (by rw [mkA_size]; exact tr_info) (by rw [mkA_size, mkA_size]) (mkA_one _) ?_))
            exact bodyPost_ret (results_cell_row rfl _ _ w.heap.size _ _ _ _ rfl HRH.out tr_und rfl (by rw [mkA_size]; exact tr_info)) rfl ⟨h, rfl, by first | exact HFIN.out | (rw [← HO.out]; exact HFIN.out), HRB.out⟩
  · subst h0
    have hb0 : bs = (E k).2 := HBASE.out.trans (if_pos (Nat.succ_pos k))
    have hkn : k < nE := by have := HWB.out; omega
    obtain ⟨A, m, cs, y0, yrr, hm, y1⟩ := HE.out.2 k hkn
    have hle : le < w.heap.size := Nat.lt_of_lt_of_le HE.out.1 hW0
    have y1 := (HB.out.bel.cell (p := ⟨le, k * 2 + 1, none⟩) HE.out.1).trans y1
    rw [← hb0] at y1
    have hkn' : (k : Int) < (nE : Int) := by omega
    clear hb0 y0 yrr hm
    go_wp2_with fail
    clear y1 hle hkn'
    generalize hW2 : (w.alloc (.cells Try.zeroCells71 71)).alloc (.cells Try.zeroCells71 71) = w2 at *
    go_loopg [29] 256 (fun kx s29 wr => ∃ i : Nat, s29 = .int .i64 i ∧ i ≤ 256 ∧ 256 - i ≤ kx ∧ Hid (Blk wr w.heap.size 71 (mkA fun _ => 0)) ∧ Hid (Blk wr (w.heap.size + 1) 71 (mkA fun k => if k < i then bs else 0)) ∧ Hid (Below w.heap.size w wr))
    case atStart => exact ⟨0, rfl, Nat.zero_le _, Nat.le_refl _, HQ1.out, HQ2.out, HBL.out⟩
    case round =>
      obtain ⟨i, rfl, hi1, hgi, HA1, HA2, HBW⟩ := hrel
      by_cases hlt : i < 256
      · have hlt' : (i : Int) < 256 := by omega
        have e0 := (HA2.out.cell i).trans (mkA_get _ i hlt)
        have f0 := HA2.out.frozen i
        have hne : w.heap.size ≠ w.heap.size + 1 := by omega
        have HN1 := hid (HA1.out.far (p := ⟨w.heap.size + 1, i, none⟩) hne (.int .u8 bs))
        have HN2 := hid (show Blk (wr.setCell ⟨w.heap.size + 1, i, none⟩ (.int .u8 bs)) (w.heap.size + 1) 71 (mkA fun k => if k < i + 1 then bs else 0) from by
          have := HA2.out.set_ i (.int .u8 bs)
          rw [mkA_set _ _ hlt] at this
          rw [mkA_congr (h := updN (fun k => if k < i then bs else 0) i bs)]
          · exact this
          · intro k hk
            unfold updN
            by_cases e : k = i
            · rw [if_pos e, if_pos (by omega)]
            · rw [if_neg e]
              show _ = if k < i then bs else 0
              by_cases e2 : k < i
              · rw [if_pos e2, if_pos (by omega)]
              · rw [if_neg e2, if_neg (by omega)])
        have HNB := hid (HBW.out.setCell (p := ⟨w.heap.size + 1, i, none⟩) (Nat.le_succ _) (.int .u8 bs))
        clear HA1 HA2 HBW hne
        go_wp2_with fail
        go_roundg (256 - (i + 1))
        case measure => omega
        case rel => exact ⟨i + 1, by go_num, by omega, Nat.le_refl _, HN1.out, HN2.out, HNB.out⟩
      · have hlt' : ¬ (i : Int) < 256 := by omega
        obtain rfl : i = 256 := by omega
        have hp0 := (HBW.out.cell (p := ⟨g, 4353 + p, none⟩) hgl).trans p0
        have HA3 := hid (show Blk wr (w.heap.size + 1) 71 (mkA fun k => bs) from by
          rw [mkA_congr (h := fun k => if k < 256 then bs else 0) (fun k hk => (if_pos hk).symm)]
          exact HA2.out)
        clear HA2 hlt hi1 hgi
        go_wp2_with fail
        go_loopg [44] n (fun kx s44 wr => ∃ (j : Nat) (h : Nat → Int), s44 = .int .i64 j ∧ j ≤ n ∧ n - j ≤ kx ∧ Hid (Blk wr w.heap.size 71 (mkA fun _ => 0)) ∧ Hid (Blk wr (w.heap.size + 1) 71 (mkA h)) ∧ Hid (∀ k, k < 256 → h k = colF E ((s.parts p).take j) ((p : Int) * 256 + k) bs) ∧ Hid (Below w.heap.size w wr))
        case atStart => exact ⟨0, _, rfl, Nat.zero_le _, Nat.le_refl _, HA1.out, HA3.out, fun k _ => rfl, HBW.out⟩
        case round =>
          obtain ⟨j, h, rfl, hj1, hgj, HA1, HA2, HH, HBW⟩ := hrel
          by_cases hlt : j < n
          · have hlt' : (j : Int) < (n : Int) := by omega
            have hjl : j < (s.parts p).length := by rw [← HN.out]; exact hlt
            obtain ⟨gA, rfl, hgA, hcj⟩ := HCEL.out j hjl
            have hcj := (HBW.out.cell (p := ⟨gA, j, none⟩) hgA).trans hcj
            have hix := (HP.out p).2.1 _ (List.getElem_mem hjl)
            have htk : (s.parts p).take (j + 1) = (s.parts p).take j ++ [(s.parts p)[j]] := by rw [List.take_add_one, List.getElem?_eq_getElem hjl]; rfl
            have HTK := hid htk
            clear htk
            generalize (s.parts p)[j] = ix at *
            unfold nInt at hcj
            have HPA := hid (paint_any W0 g (w.heap.size + 1) le c nE ix p E h wr HE.out (HB.out.bel.trans (HBW.out.mono hW0)) ((HBW.out.cell (p := ⟨g, 0, none⟩) hgl).trans c0) (Nat.lt_of_lt_of_le hgl HBW.out.size) HA2.out (by omega) (by omega) hix hn (HR.out ix hix) (HC.out ix hix) hp)
            clear hjl HA2
            go_wp2_with fail
            refine HPA.out.mono ?_
            rintro e w3 ⟨rfl, hb3, hg3⟩
            have HB3 := hid hb3
            have HA4 := hid (HA1.out.grown hg3 (fun e => by injection e with e; omega))
            have HBW3 := hid (HBW.out.grown hg3 HBW.out.size (fun j e => by injection e with e; omega))
            have HH3 := hid (show ∀ k, k < 256 → pF (E ix).1 (E ix).2 p h k = colF E ((s.parts p).take (j + 1)) ((p : Int) * 256 + k) bs from fun k hk => by
              rw [HTK.out, ← colF_snoc_pF]
              unfold pF
              rw [HH.out k hk])
            clear hb3 hg3 HPA HA1
            go_wp2_with fail
            go_roundg (n - (j + 1))
            case measure => omega
            case rel => exact ⟨j + 1, _, by go_num, by omega, Nat.le_refl _, HA4.out, HB3.out, HH3.out, HBW3.out⟩
          · have hlt' : ¬ (j : Int) < (n : Int) := by omega
            have HFIN := hid (show ∀ k, k < 256 → h k = colP E o s p ((p : Int) * 256 + k) from fun k hk => by
              rw [HH.out k hk, List.take_of_length_le (by have := HN.out; omega), HBS.out]
              rfl)
            have HRB := hid (show Below w.heap.size w (wr.setRow w.heap.size (mkA h)) from ⟨HBW.out.os, HBW.out.tape, HBW.out.output, by simpa using HBW.out.size, fun k hk => by rw [setRow_other _ _ _ _ (by omega)]; exact HBW.out.block k hk⟩)
            have HRH := hid (setRow_heap wr w.heap.size _ (mkA h) _ _ HA1.out)
            clear hlt
            go_wp2_with (first
              | (refine wpList_load_row rfl 71 (.tmp 7) rfl (w.heap.size + 1) rfl 71 (mkA h) (0, 0) _ HA2.out tr_und rfl (by rw [mkA_size]; exact tr_info) ?_)
              | (refine wpList_store_row rfl 71 (.tmp 6) (.tmp 53) rfl w.heap.size (mkA h) rfl rfl 71 _ HA1.out (by rw [mkA_size]; exact tr_info) (by rw [mkA_size, mkA_size]) (mkA_one _) ?_))
            exact bodyPost_ret (results_cell_row rfl _ _ w.heap.size _ _ _ _ rfl HRH.out tr_und rfl (by rw [mkA_size]; exact tr_info)) rfl ⟨h, rfl, by first | exact HFIN.out | (rw [← HO.out]; exact HFIN.out), HRB.out⟩
end Go.Proofs.Ytbkjanlkklmleaa
