/- The walk of the law LintPrints. -/
import Derived.Test.YtpnbkecchfhimaaGreatDoorLiM4
import Derived.Test.YtpnbkecchfhimaaGreatDoorLiW1
import Derived.StillTailTactics
import Derived.BigQuiet
import Derived.BigRegion
import Derived.Test.YtpnbkecchfhimaaGreatDoorOpen
namespace Go.Proofs.YtpnbkecchfhimaaGreatDoor.lintPrints
open Go.RowKit Go.Shelf
open Go.Lib (hid)
set_option linter.unusedVariables false
set_option linter.unusedSimpArgs false
set_option maxRecDepth 100000

theorem info_rf : (Tryz.prog.info? 53).map (fun i => (i.zero, i.size, i.bytes)) = some (some (.agg #[.int .i64 0, .int .i64 0]), 2, 16) := by kernel_rfl
set_option maxHeartbeats 8000000 in
theorem walk (l : Option Addr) (lLen lCap : Nat) (lD : List (List Value)) (kinds : Option Addr) (kindsLen kindsCap : Nat) (kindsD : List Int) (kind : Int) (w : World) (w0 : IsAggRow [.int .i64, .int .i64] w l lLen lCap lD) (w1 : IsRow .i64 w kinds kindsLen kindsCap kindsD) (w2 : (Lit.int .i64 kind).wf = true) (hsh : w.ShapedOpen Tryz.prog) (hts : TabSp w ∧ Tab19 w) :
    Calls Tryz.prog 8 #[.slice l lLen lCap, .slice kinds kindsLen kindsCap, .int .i64 kind] w fun e w' => e = .returned (.bool true) ∧ Below w.heap.size w w' := by
  have hmx := mx_of hsh
  have HAW := hid (fun W (h : Below w.heap.size w W) => liawake_any W (hmx.below h (Nat.le_refl _)) (hts.1.below h (Nat.le_refl _)))
  by_cases hbig : 30 < lLen
  · have hbig' : (30 : Int) < (lLen : Int) := by omega
    clear w0 w1
    go_enter Tryz.func8, Tryz.ntmps8
    go_wp2_with fail
    refine (HAW.out _ (Below.refl _ _)).mono ?_
    rintro e w2 ⟨rfl, hb2⟩
    have HB2 := hid hb2
    clear hb2
    go_wp2_with fail
    go_ret
    exact ⟨rfl, HB2.out⟩
  have hbig' : ¬ (30 : Int) < (lLen : Int) := by omega
  by_cases hbig2 : 10 < kindsLen
  · have hbig2' : (10 : Int) < (kindsLen : Int) := by omega
    clear w0 w1
    go_enter Tryz.func8, Tryz.ntmps8
    go_wp2_with fail
    refine (HAW.out _ (Below.refl _ _)).mono ?_
    rintro e w2 ⟨rfl, hb2⟩
    have HB2 := hid hb2
    clear hb2
    go_wp2_with fail
    go_ret
    exact ⟨rfl, HB2.out⟩
  have hbig2' : ¬ (10 : Int) < (kindsLen : Int) := by omega
  obtain ⟨fl, hfo, hin⟩ := fo_of w0
  obtain ⟨ks, hki⟩ := ki_of w1
  obtain ⟨i0, hi, hz0, hz1, hz2⟩ := info_parts info_fg
  obtain ⟨i1, hI1, hz3, hz4, hz5⟩ := info_parts info_rf
  have HN := hid hfo.1
  have HKN := hid hki.1
  have HIN := hid hin
  have HFO := hid (fun W (h : Below w.heap.size w W) => hfo.below h (Nat.le_refl _))
  have HKI := hid (fun W (h : Below w.heap.size w W) => hki.below h (Nat.le_refl _))
  have HONL := hid (fun W (h : Below w.heap.size w W) A n cap l (hf : FR W A n l) (hn : n ≤ 100000) => only_any A n cap l kinds kindsLen kindsCap ks W hf (hki.below h (Nat.le_refl _)) hn (by omega))
  have HNK := hid (fun W => lintName_any kind W)
  have HRK := hid (fun k W => ref30Name_any k W)
  have HTB := hid (fun W (h : Below w.heap.size w W) => Tab19.below hts.2 h (Nat.le_refl _))
  have hn30 : lLen ≤ 30 := by omega
  have hk10 : kindsLen ≤ 10 := by omega
  clear w0 w1 w2 hfo hki hin hsh hts hmx
  go_enter Tryz.func8, Tryz.ntmps8
  go_wp2_with fail
  refine (HAW.out _ (Below.refl _ _)).mono ?_
  rintro e w2 ⟨rfl, hb2⟩
  have HB2 := hid hb2
  clear hb2
  go_wp2_with fail
  refine (HNK.out _).mono ?_
  rintro e w3 ⟨rfl, hw3⟩
  obtain rfl : w2 = w3 := hw3.symm
  clear hw3
  go_wp2_with fail
  refine (HRK.out _ _).mono ?_
  rintro e w3 ⟨rfl, hb3⟩
  have HB3 := hid (HB2.out.trans (hb3.mono HB2.out.size))
  generalize nmL kind = K0 at *
  clear hb3
  go_wp2_with fail
  go_loopg [7, 8, 9] lLen (fun kx s7 s8 s9 wr => ∃ (v1 v2 : Value) (i m : Nat), s7 = v1 ∧ s8 = v2 ∧ s9 = .int .i64 i ∧ i ≤ lLen ∧ lLen - i ≤ kx ∧ m ≤ i ∧ Hid (wr.ownsRow w.heap.size 48 2 v1 i (fgCells (fl.take i))) ∧ Hid (wr.ownsRow w.heap.size 53 2 v2 m (fgCells (onlyF ks (fl.take i)))) ∧ Hid (m = (onlyF ks (fl.take i)).length) ∧ Hid (∀ j, v1.ownBlock = some j → v2.ownBlock ≠ some j) ∧ Hid (Below w.heap.size w wr))
  case atStart => exact ⟨_, _, 0, 0, rfl, rfl, rfl, Nat.zero_le _, Nat.le_refl _, Nat.le_refl _, World.ownsRow_nil _ _ _ _, World.ownsRow_nil _ _ _ _, rfl, (fun j e => by cases e), HB3.out⟩
  case round =>
    obtain ⟨v1, v2, i, m, rfl, rfl, rfl, hi1, hg, hmi, HR1, HR2, HM, HNE, HB⟩ := hrel
    by_cases hlt : i < lLen
    · have hlt' : (i : Int) < (lLen : Int) := by omega
      have hil : i < fl.length := by rw [← HN.out]; exact hlt
      obtain ⟨g, o, rfl, hgl, x0, x1⟩ := (HFO.out wr HB.out).at_ hil
      obtain ⟨rk, ra⟩ := HIN.out _ (List.getElem_mem hil)
      have HST := hid (onlyF_step (ks := ks) hil)
      have HTK := hid (List.take_succ_eq_append_getElem hil)
      have HEL := hid (List.getElem?_eq_getElem hil)
      generalize fl[i] = f at *
      obtain ⟨fk, fa⟩ := f
      simp only at x0 x1 rk ra
      unfold In64 at rk ra
      obtain ⟨A1, c1, rfl⟩ := owns_slice HR1.out
      obtain ⟨A2, c2, rfl⟩ := owns_slice HR2.out
      clear hil
      go_upto_region 10 with fail
      go_region
      have hq := Blk.new wr 48 #[.int .i64 fk, .int .i64 fa]
      have hqd : Blk (wr.alloc (.cells #[.int .i64 fk, .int .i64 fa] 48)).drew wr.heap.size 48 #[.int .i64 fk, .int .i64 fa] := hq
      have hr1d : World.ownsRow (wr.alloc (.cells #[.int .i64 fk, .int .i64 fa] 48)).drew w.heap.size 48 2 (.slice A1 i c1) i (fgCells (fl.take i)) := HR1.out.alloc _
      have hr2d : World.ownsRow (wr.alloc (.cells #[.int .i64 fk, .int .i64 fa] 48)).drew w.heap.size 53 2 (.slice A2 m c2) m (fgCells (onlyF ks (fl.take i))) := HR2.out.alloc _
      have hbd : Below w.heap.size w (wr.alloc (.cells #[.int .i64 fk, .int .i64 fa] 48)).drew := (HB.out.alloc HB.out.size (.cells #[.int .i64 fk, .int .i64 fa] 48)).trans ⟨rfl, rfl, rfl, Nat.le_refl _, fun _ _ => rfl⟩
      have hlo1 := fun j e => (HR1.out.lt j e).2
      have hlo2 := fun j e => (HR2.out.lt j e).2
      have hszd : (wr.alloc (.cells #[.int .i64 fk, .int .i64 fa] 48)).drew.heap.size = wr.heap.size + 1 := by simp
      have hsw := HB.out.size
      generalize (wr.alloc (.cells #[.int .i64 fk, .int .i64 fa] 48)).drew = wa at *
      generalize wr.heap.size = q at *
      have HQD := hid hqd
      have HR1D := hid hr1d
      have HR2D := hid hr2d
      have HBD := hid hbd
      have HLO1 := hid hlo1
      have HLO2 := hid hlo2
      have HSZD := hid hszd
      have a0 := hqd.cell 0
      have a1 := hqd.cell 1
      simp only [List.getElem?_toArray, List.getElem?_cons_zero, List.getElem?_cons_succ] at a0 a1
      have hql := hqd.lt
      clear hq hqd hr1d hr2d hbd hlo1 hlo2 hszd x0 x1
      go_wp2_with (at_builtin; go_must (refine wpList_append_any _ rfl (.tmp 49) (.tmp 51) 45 rfl w.heap.size 48 i0 (.agg #[.int .i64 0, .int .i64 0]) 2 16 Tryz.underlying45 hi hz0 hz1 hz2 rfl (by decide) _ i _ rfl (HR1D.out.alloc _) _ _ 1 1 [.int .i64 fk, .int .i64 fa] rfl (reads_blk2 (Blk.new wa _ _)) (by simp [Value.oneCell']) (by unfold maxLen; omega) (by omega) (by simp; omega) ?_); intro v7 w7 ho7 hg7 hv7; obtain ⟨A7, c7, rfl⟩ := owns_slice ho7; have HO7 := hid ho7; have HG7 := hid hg7; have HV7 := hid hv7; have z7 := ((HQD.out.alloc (.cells #[.int .i64 fk, .int .i64 fa] 48)).grown hg7 (fun e => by have h3 := HLO1.out q e.symm; omega)).cell 0; have z8 := ((HQD.out.alloc (.cells #[.int .i64 fk, .int .i64 fa] 48)).grown hg7 (fun e => by have h3 := HLO1.out q e.symm; omega)).cell 1; simp only [List.getElem?_toArray, List.getElem?_cons_zero, List.getElem?_cons_succ] at z7 z8; clear a0 a1 ho7 hg7 hv7)
      have hqw : Blk w7 q 48 #[.int .i64 fk, .int .i64 fa] := (HQD.out.alloc (.cells #[.int .i64 fk, .int .i64 fa] 48)).grown HG7.out (fun e => by have h3 := HLO1.out q e.symm; omega)
      have HQW := hid hqw
      have HR2W := hid (own_kept (HR2D.out.alloc (.cells #[.int .i64 fk, .int .i64 fa] 48)) HG7.out (fun j e e2 => HNE.out j e2 e))
      have HBW := hid ((HBD.out.alloc HBD.out.size _).grown HG7.out (by have := HBD.out.size; simp; omega) (fun j e => (HR1D.out.lt j e).1))
      have HNEW := hid (show ∀ j, (Value.slice A7 (i + 1) c7).ownBlock = some j → (Value.slice A2 m c2).ownBlock ≠ some j from fun j e e2 => by
        have hv : (Value.slice A7 (i + 1) c7).ownBlock = (Value.slice A1 i c1).ownBlock ∨ (Value.slice A7 (i + 1) c7).ownBlock = some (wa.alloc (.cells #[.int .i64 fk, .int .i64 fa] 48)).heap.size := HV7.out
        rcases hv with h | h
        · exact HNE.out j (h.symm.trans e) e2
        · rw [h] at e
          injection e with e
          have := HLO2.out j e2
          rw [World.size_alloc] at e
          have := HSZD.out
          omega)
      have HO7B := hid (show w7.ownsRow w.heap.size 48 2 (.slice A7 (i + 1) c7) (i + 1) (fgCells (fl.take (i + 1))) from by rw [HTK.out, fgCells_snoc]; exact HO7.out)
      clear hqw HQD HR1D HR2D HBD HO7
      refine (HRK.out fk _).mono ?_
      rintro e w8 ⟨rfl, hb8⟩
      have hs78 := hb8.size
      have HQX := hid (HQW.out.below hb8 HQW.out.lt)
      have HR1X := hid (own_kept HO7B.out (grown_of_below hb8 none) (fun k _ => by simp))
      have HR2X := hid (own_kept HR2W.out (grown_of_below hb8 none) (fun k _ => by simp))
      have HBX := hid (HBW.out.trans (hb8.mono HBW.out.size))
      have b0 := HQX.out.cell 0
      have b1 := HQX.out.cell 1
      simp only [List.getElem?_toArray, List.getElem?_cons_zero, List.getElem?_cons_succ] at b0 b1
      have hqx := HQX.out.lt
      clear z7 z8 hb8 HQW HR2W HBW HO7B HG7 HV7
      have HLP := hid (fun (W : World) (h : Below w.heap.size w W) => lintPrint_any fk fa W (itoaB_size ra.1 ra.2) (fun W' h' => itoa_all fa ra.1 ra.2 W' (Tab19.below (HTB.out W h) h' (Nat.le_refl _))))
      by_cases hk : fk < 0 ∨ 5 < fk
      · have hl : lpB fk fa = noB := if_pos hk
        rw [hl] at HLP
        rw [nmL_none hk]
        unfold noB at HLP ⊢
        clear hl hk
        by_cases hfa : 0 ≤ fa
        · have hfa' : (0 : Int) ≤ fa := by omega
          go_wp2_with fail
          refine (HLP.out w8 HBX.out).mono ?_
          rintro e w9 ⟨rfl, hb9⟩
          have hs89 := hb9.size
          have HQY := hid (HQX.out.below hb9 HQX.out.lt)
          have HR1Y := hid (own_kept HR1X.out (grown_of_below hb9 none) (fun k _ => by simp))
          have HR2Y := hid (own_kept HR2X.out (grown_of_below hb9 none) (fun k _ => by simp))
          have HBY := hid (HBX.out.trans (hb9.mono HBX.out.size))
          clear b0 b1 hb9 HQX HR1X HR2X HBX
          have HTRUE := HQY
          have hqy := HQY.out.lt
          go_wp2_with fail
          go_loopg [12, 13] kindsLen (fun kx s12 s13 wr => ∃ k : Nat, s12 = .bool (anyT ks fk k) ∧ s13 = .int .i64 k ∧ k ≤ kindsLen ∧ kindsLen - k ≤ kx ∧ Hid (Below w9.heap.size w9 wr))
          case atStart => exact ⟨0, by rw [anyT_zero], rfl, Nat.zero_le _, Nat.le_refl _, Below.refl _ _⟩
          case round =>
            obtain ⟨k, rfl, rfl, hk1, hgk, HBQ⟩ := hrel
            have HBZ := hid (HBY.out.trans (HBQ.out.mono HBY.out.size))
            have hqz := HQY.out.below HBQ.out hqy
            have b0 := hqz.cell 0
            simp only [List.getElem?_toArray, List.getElem?_cons_zero, List.getElem?_cons_succ] at b0
            by_cases hltk : k < kindsLen
            · have hltk' : (k : Int) < (kindsLen : Int) := by omega
              have hkl : k < ks.length := by rw [← HKN.out]; exact hltk
              obtain ⟨gk, ok, rfl, hgkl, y0⟩ := (HKI.out wr HBZ.out).at_ hkl
              have HAS := hid (anyT_step (c := fk) hkl)
              generalize ks[k] = kv at *
              clear hkl hqz
              cases hb : anyT ks fk k with
              | true =>
                have HAT := hid (show anyT ks fk (k + 1) = true by rw [HAS.out, hb]; rfl)
                clear hb
                go_upto_region 21 with fail
                go_quiet (fail)
                have HB2 := hid (HBQ.out.trans ((below_drewN wr.heap.size wr nq).mono HBQ.out.size))
                go_wp2_with fail
                go_roundg (kindsLen - (k + 1))
                case measure => omega
                case rel => exact ⟨k + 1, by rw [HAT.out], by go_num, by omega, Nat.le_refl _, HB2.out⟩
              | false =>
                by_cases he : kv = fk
                · have HAT := hid (show anyT ks fk (k + 1) = true by rw [HAS.out, hb, decide_eq_true he]; rfl)
                  have heb : (kv == fk) = true := by simpa using he
                  clear hb
                  go_upto_region 21 with fail
                  go_quiet (fail)
                  have HB2 := hid (HBQ.out.trans ((below_drewN wr.heap.size wr nq).mono HBQ.out.size))
                  go_wp2_with fail
                  go_roundg (kindsLen - (k + 1))
                  case measure => omega
                  case rel => exact ⟨k + 1, by rw [HAT.out], by go_num, by omega, Nat.le_refl _, HB2.out⟩
                · have HAT := hid (show anyT ks fk (k + 1) = false by rw [HAS.out, hb, decide_eq_false he]; rfl)
                  have heb : (kv == fk) = false := by simpa using he
                  clear hb
                  go_upto_region 21 with fail
                  go_quiet (fail)
                  have HB2 := hid (HBQ.out.trans ((below_drewN wr.heap.size wr nq).mono HBQ.out.size))
                  go_wp2_with fail
                  go_roundg (kindsLen - (k + 1))
                  case measure => omega
                  case rel => exact ⟨k + 1, by rw [HAT.out], by go_num, by omega, Nat.le_refl _, HB2.out⟩
            · have hltk' : ¬ (k : Int) < (kindsLen : Int) := by omega
              have hke : k = ks.length := by have := HKN.out; omega
              have HALL := hid (show anyT ks fk k = decide (fk ∈ ks) by rw [hke, anyT_all])
              have hil : i < fl.length := by rw [← HN.out]; exact hlt
              obtain ⟨g3, o3, e3, hgl3, x0, x1⟩ := (HFO.out wr HBZ.out).at_ (j := i) hil
              injection e3 with e3
              injection e3 with e3 e4
              subst e3 e4
              have hfi := HEL.out
              rw [List.getElem?_eq_getElem hil] at hfi
              injection hfi with hfi
              rw [hfi] at x0 x1
              simp only at x0 x1
              clear hfi hil
              have HR1Z := hid (own_kept HR1Y.out (grown_of_below HBQ.out none) (fun k _ => by simp))
              have HR2Z := hid (own_kept HR2Y.out (grown_of_below HBQ.out none) (fun k _ => by simp))
              have hlo1 := fun j e => (HR1Z.out.lt j e).2
              have hlo2 := fun j e => (HR2Z.out.lt j e).2
              have HLO1 := hid hlo1
              have hzz := HBZ.out.size
              clear hke hqz b0 hlo1 hlo2
              cases hb : anyT ks fk k with
              | true =>
                have hst := HST.out
                rw [← HALL.out, hb, if_pos rfl] at hst
                have HSU := hid hst
                clear hst hb
                go_wp2_with (at_builtin; go_must (refine wpList_append_any _ rfl (.tmp 99) (.tmp 104) 51 rfl w.heap.size 53 i1 (.agg #[.int .i64 0, .int .i64 0]) 2 16 Tryz.underlying51 hI1 hz3 hz4 hz5 rfl (by decide) _ m _ rfl (HR2Z.out.alloc _) _ _ 1 1 [.int .i64 fk, .int .i64 fa] rfl (reads_blk2 (Blk.new wr _ _)) (by simp [Value.oneCell']) (by unfold maxLen; omega) (by omega) (by simp; omega) ?_); intro v6 w6 ho6 hg6 hv6)
                have HB6 := hid ((HBZ.out.alloc HBZ.out.size _).grown hg6 (by have := HBZ.out.size; simp; omega) (fun j e => (HR2Z.out.lt j e).1))
                have HR16 := hid (own_kept (HR1Z.out.alloc (.cells #[.int .i64 fk, .int .i64 fa] 53)) hg6 (fun j e e2 => HNEW.out j e e2))
                have HNE6 := hid (show ∀ j, (Value.slice A7 (i + 1) c7).ownBlock = some j → v6.ownBlock ≠ some j from fun j e e2 => by
                  rcases hv6 with h | h
                  · exact HNEW.out j e (h.symm.trans e2)
                  · rw [h] at e2
                    injection e2 with e2
                    have := HLO1.out j e
                    rw [World.size_alloc] at e2
                    omega)
                go_roundg (lLen - (i + 1))
                case measure => omega
                case rel => exact ⟨_, v6, i + 1, m + 1, rfl, rfl, by go_num, by omega, Nat.le_refl _, by omega, HR16.out, (by show World.ownsRow _ _ _ _ _ _ _; rw [HSU.out, fgCells_snoc]; exact ho6), (by show _ = _; rw [HSU.out, List.length_append, ← HM.out]; rfl), HNE6.out, HB6.out⟩
              | false =>
                have hst := HST.out
                rw [← HALL.out, hb, if_neg (by decide)] at hst
                have HSU := hid hst
                clear hst hb
                go_wp2_with fail
                go_roundg (lLen - (i + 1))
                case measure => omega
                case rel => exact ⟨_, _, i + 1, m, rfl, rfl, by go_num, by omega, Nat.le_refl _, by omega, HR1Z.out, (by show World.ownsRow _ _ _ _ _ _ _; rw [HSU.out]; exact HR2Z.out), (by show _ = _; rw [HSU.out]; exact HM.out), HNEW.out, HBZ.out⟩
        · have hfa' : ¬ (0 : Int) ≤ fa := by omega
          go_wp2_with fail
          refine (HLP.out w8 HBX.out).mono ?_
          rintro e w9 ⟨rfl, hb9⟩
          have hs89 := hb9.size
          have HQY := hid (HQX.out.below hb9 HQX.out.lt)
          have HR1Y := hid (own_kept HR1X.out (grown_of_below hb9 none) (fun k _ => by simp))
          have HR2Y := hid (own_kept HR2X.out (grown_of_below hb9 none) (fun k _ => by simp))
          have HBY := hid (HBX.out.trans (hb9.mono HBX.out.size))
          clear b0 b1 hb9 HQX HR1X HR2X HBX
          have HTRUE := HQY
          have hqy := HQY.out.lt
          go_wp2_with fail
          go_loopg [12, 13] kindsLen (fun kx s12 s13 wr => ∃ k : Nat, s12 = .bool (anyT ks fk k) ∧ s13 = .int .i64 k ∧ k ≤ kindsLen ∧ kindsLen - k ≤ kx ∧ Hid (Below w9.heap.size w9 wr))
          case atStart => exact ⟨0, by rw [anyT_zero], rfl, Nat.zero_le _, Nat.le_refl _, Below.refl _ _⟩
          case round =>
            obtain ⟨k, rfl, rfl, hk1, hgk, HBQ⟩ := hrel
            have HBZ := hid (HBY.out.trans (HBQ.out.mono HBY.out.size))
            have hqz := HQY.out.below HBQ.out hqy
            have b0 := hqz.cell 0
            simp only [List.getElem?_toArray, List.getElem?_cons_zero, List.getElem?_cons_succ] at b0
            by_cases hltk : k < kindsLen
            · have hltk' : (k : Int) < (kindsLen : Int) := by omega
              have hkl : k < ks.length := by rw [← HKN.out]; exact hltk
              obtain ⟨gk, ok, rfl, hgkl, y0⟩ := (HKI.out wr HBZ.out).at_ hkl
              have HAS := hid (anyT_step (c := fk) hkl)
              generalize ks[k] = kv at *
              clear hkl hqz
              cases hb : anyT ks fk k with
              | true =>
                have HAT := hid (show anyT ks fk (k + 1) = true by rw [HAS.out, hb]; rfl)
                clear hb
                go_upto_region 21 with fail
                go_quiet (fail)
                have HB2 := hid (HBQ.out.trans ((below_drewN wr.heap.size wr nq).mono HBQ.out.size))
                go_wp2_with fail
                go_roundg (kindsLen - (k + 1))
                case measure => omega
                case rel => exact ⟨k + 1, by rw [HAT.out], by go_num, by omega, Nat.le_refl _, HB2.out⟩
              | false =>
                by_cases he : kv = fk
                · have HAT := hid (show anyT ks fk (k + 1) = true by rw [HAS.out, hb, decide_eq_true he]; rfl)
                  have heb : (kv == fk) = true := by simpa using he
                  clear hb
                  go_upto_region 21 with fail
                  go_quiet (fail)
                  have HB2 := hid (HBQ.out.trans ((below_drewN wr.heap.size wr nq).mono HBQ.out.size))
                  go_wp2_with fail
                  go_roundg (kindsLen - (k + 1))
                  case measure => omega
                  case rel => exact ⟨k + 1, by rw [HAT.out], by go_num, by omega, Nat.le_refl _, HB2.out⟩
                · have HAT := hid (show anyT ks fk (k + 1) = false by rw [HAS.out, hb, decide_eq_false he]; rfl)
                  have heb : (kv == fk) = false := by simpa using he
                  clear hb
                  go_upto_region 21 with fail
                  go_quiet (fail)
                  have HB2 := hid (HBQ.out.trans ((below_drewN wr.heap.size wr nq).mono HBQ.out.size))
                  go_wp2_with fail
                  go_roundg (kindsLen - (k + 1))
                  case measure => omega
                  case rel => exact ⟨k + 1, by rw [HAT.out], by go_num, by omega, Nat.le_refl _, HB2.out⟩
            · have hltk' : ¬ (k : Int) < (kindsLen : Int) := by omega
              have hke : k = ks.length := by have := HKN.out; omega
              have HALL := hid (show anyT ks fk k = decide (fk ∈ ks) by rw [hke, anyT_all])
              have hil : i < fl.length := by rw [← HN.out]; exact hlt
              obtain ⟨g3, o3, e3, hgl3, x0, x1⟩ := (HFO.out wr HBZ.out).at_ (j := i) hil
              injection e3 with e3
              injection e3 with e3 e4
              subst e3 e4
              have hfi := HEL.out
              rw [List.getElem?_eq_getElem hil] at hfi
              injection hfi with hfi
              rw [hfi] at x0 x1
              simp only at x0 x1
              clear hfi hil
              have HR1Z := hid (own_kept HR1Y.out (grown_of_below HBQ.out none) (fun k _ => by simp))
              have HR2Z := hid (own_kept HR2Y.out (grown_of_below HBQ.out none) (fun k _ => by simp))
              have hlo1 := fun j e => (HR1Z.out.lt j e).2
              have hlo2 := fun j e => (HR2Z.out.lt j e).2
              have HLO1 := hid hlo1
              have hzz := HBZ.out.size
              clear hke hqz b0 hlo1 hlo2
              cases hb : anyT ks fk k with
              | true =>
                have hst := HST.out
                rw [← HALL.out, hb, if_pos rfl] at hst
                have HSU := hid hst
                clear hst hb
                go_wp2_with (at_builtin; go_must (refine wpList_append_any _ rfl (.tmp 99) (.tmp 104) 51 rfl w.heap.size 53 i1 (.agg #[.int .i64 0, .int .i64 0]) 2 16 Tryz.underlying51 hI1 hz3 hz4 hz5 rfl (by decide) _ m _ rfl (HR2Z.out.alloc _) _ _ 1 1 [.int .i64 fk, .int .i64 fa] rfl (reads_blk2 (Blk.new wr _ _)) (by simp [Value.oneCell']) (by unfold maxLen; omega) (by omega) (by simp; omega) ?_); intro v6 w6 ho6 hg6 hv6)
                have HB6 := hid ((HBZ.out.alloc HBZ.out.size _).grown hg6 (by have := HBZ.out.size; simp; omega) (fun j e => (HR2Z.out.lt j e).1))
                have HR16 := hid (own_kept (HR1Z.out.alloc (.cells #[.int .i64 fk, .int .i64 fa] 53)) hg6 (fun j e e2 => HNEW.out j e e2))
                have HNE6 := hid (show ∀ j, (Value.slice A7 (i + 1) c7).ownBlock = some j → v6.ownBlock ≠ some j from fun j e e2 => by
                  rcases hv6 with h | h
                  · exact HNEW.out j e (h.symm.trans e2)
                  · rw [h] at e2
                    injection e2 with e2
                    have := HLO1.out j e
                    rw [World.size_alloc] at e2
                    omega)
                go_roundg (lLen - (i + 1))
                case measure => omega
                case rel => exact ⟨_, v6, i + 1, m + 1, rfl, rfl, by go_num, by omega, Nat.le_refl _, by omega, HR16.out, (by show World.ownsRow _ _ _ _ _ _ _; rw [HSU.out, fgCells_snoc]; exact ho6), (by show _ = _; rw [HSU.out, List.length_append, ← HM.out]; rfl), HNE6.out, HB6.out⟩
              | false =>
                have hst := HST.out
                rw [← HALL.out, hb, if_neg (by decide)] at hst
                have HSU := hid hst
                clear hst hb
                go_wp2_with fail
                go_roundg (lLen - (i + 1))
                case measure => omega
                case rel => exact ⟨_, _, i + 1, m, rfl, rfl, by go_num, by omega, Nat.le_refl _, by omega, HR1Z.out, (by show World.ownsRow _ _ _ _ _ _ _; rw [HSU.out]; exact HR2Z.out), (by show _ = _; rw [HSU.out]; exact HM.out), HNEW.out, HBZ.out⟩
      · have hkp := nmL_pos (k := fk) (by omega) (by omega)
        have hks := nmL_size fk
        have HP := hid (show lpB fk fa = (nmL fk ++ ⟨#[32]⟩) ++ itoaB fa from if_neg hk)
        have hal := itoaB_size ra.1 ra.2
        rw [HP.out] at HLP
        generalize nmL fk = K at *
        have hne : (K.toList == []) = false := by
          rw [beq_eq_false_iff_ne]
          intro e
          have := congrArg List.length e
          rw [Lib.toList_data] at this
          have h2 : K.size = 0 := this
          omega
        have hne2 : ¬ K.toList = [] := by simpa using hne
        clear hk hkp
        by_cases hfa : 0 ≤ fa
        · obtain ⟨kn, rfl⟩ : ∃ kn : Nat, fa = kn := ⟨fa.toNat, by omega⟩
          have HNUM := hid (fun W => num30_any kn (by omega) W)
          have hfa' : (0 : Int) ≤ (kn : Int) := by omega
          generalize itoaB (kn : Int) = A at *
          have hc1 : ¬ (K.size + 1 > 9223372036854775807) := by omega
          have hc2 : ¬ (K.size + 1 + A.size > 9223372036854775807) := by omega
          go_wp2_with fail
          refine (HNUM.out _).mono ?_
          rintro e w9 ⟨rfl, hw9⟩
          obtain rfl : w8 = w9 := hw9.symm
          go_wp2_with fail
          refine (HLP.out w8 HBX.out).mono ?_
          rintro e w9 ⟨rfl, hb9⟩
          have hs89 := hb9.size
          have HQY := hid (HQX.out.below hb9 HQX.out.lt)
          have HR1Y := hid (own_kept HR1X.out (grown_of_below hb9 none) (fun k _ => by simp))
          have HR2Y := hid (own_kept HR2X.out (grown_of_below hb9 none) (fun k _ => by simp))
          have HBY := hid (HBX.out.trans (hb9.mono HBX.out.size))
          clear b0 b1 hb9 HQX HR1X HR2X HBX
          have HTRUE := HQY
          have hqy := HQY.out.lt
          go_wp2_with fail
          go_loopg [12, 13] kindsLen (fun kx s12 s13 wr => ∃ k : Nat, s12 = .bool (anyT ks fk k) ∧ s13 = .int .i64 k ∧ k ≤ kindsLen ∧ kindsLen - k ≤ kx ∧ Hid (Below w9.heap.size w9 wr))
          case atStart => exact ⟨0, by rw [anyT_zero], rfl, Nat.zero_le _, Nat.le_refl _, Below.refl _ _⟩
          case round =>
            obtain ⟨k, rfl, rfl, hk1, hgk, HBQ⟩ := hrel
            have HBZ := hid (HBY.out.trans (HBQ.out.mono HBY.out.size))
            have hqz := HQY.out.below HBQ.out hqy
            have b0 := hqz.cell 0
            simp only [List.getElem?_toArray, List.getElem?_cons_zero, List.getElem?_cons_succ] at b0
            by_cases hltk : k < kindsLen
            · have hltk' : (k : Int) < (kindsLen : Int) := by omega
              have hkl : k < ks.length := by rw [← HKN.out]; exact hltk
              obtain ⟨gk, ok, rfl, hgkl, y0⟩ := (HKI.out wr HBZ.out).at_ hkl
              have HAS := hid (anyT_step (c := fk) hkl)
              generalize ks[k] = kv at *
              clear hkl hqz
              cases hb : anyT ks fk k with
              | true =>
                have HAT := hid (show anyT ks fk (k + 1) = true by rw [HAS.out, hb]; rfl)
                clear hb
                go_upto_region 21 with fail
                go_quiet (fail)
                have HB2 := hid (HBQ.out.trans ((below_drewN wr.heap.size wr nq).mono HBQ.out.size))
                go_wp2_with fail
                go_roundg (kindsLen - (k + 1))
                case measure => omega
                case rel => exact ⟨k + 1, by rw [HAT.out], by go_num, by omega, Nat.le_refl _, HB2.out⟩
              | false =>
                by_cases he : kv = fk
                · have HAT := hid (show anyT ks fk (k + 1) = true by rw [HAS.out, hb, decide_eq_true he]; rfl)
                  have heb : (kv == fk) = true := by simpa using he
                  clear hb
                  go_upto_region 21 with fail
                  go_quiet (fail)
                  have HB2 := hid (HBQ.out.trans ((below_drewN wr.heap.size wr nq).mono HBQ.out.size))
                  go_wp2_with fail
                  go_roundg (kindsLen - (k + 1))
                  case measure => omega
                  case rel => exact ⟨k + 1, by rw [HAT.out], by go_num, by omega, Nat.le_refl _, HB2.out⟩
                · have HAT := hid (show anyT ks fk (k + 1) = false by rw [HAS.out, hb, decide_eq_false he]; rfl)
                  have heb : (kv == fk) = false := by simpa using he
                  clear hb
                  go_upto_region 21 with fail
                  go_quiet (fail)
                  have HB2 := hid (HBQ.out.trans ((below_drewN wr.heap.size wr nq).mono HBQ.out.size))
                  go_wp2_with fail
                  go_roundg (kindsLen - (k + 1))
                  case measure => omega
                  case rel => exact ⟨k + 1, by rw [HAT.out], by go_num, by omega, Nat.le_refl _, HB2.out⟩
            · have hltk' : ¬ (k : Int) < (kindsLen : Int) := by omega
              have hke : k = ks.length := by have := HKN.out; omega
              have HALL := hid (show anyT ks fk k = decide (fk ∈ ks) by rw [hke, anyT_all])
              have hil : i < fl.length := by rw [← HN.out]; exact hlt
              obtain ⟨g3, o3, e3, hgl3, x0, x1⟩ := (HFO.out wr HBZ.out).at_ (j := i) hil
              injection e3 with e3
              injection e3 with e3 e4
              subst e3 e4
              have hfi := HEL.out
              rw [List.getElem?_eq_getElem hil] at hfi
              injection hfi with hfi
              rw [hfi] at x0 x1
              simp only at x0 x1
              clear hfi hil
              have HR1Z := hid (own_kept HR1Y.out (grown_of_below HBQ.out none) (fun k _ => by simp))
              have HR2Z := hid (own_kept HR2Y.out (grown_of_below HBQ.out none) (fun k _ => by simp))
              have hlo1 := fun j e => (HR1Z.out.lt j e).2
              have hlo2 := fun j e => (HR2Z.out.lt j e).2
              have HLO1 := hid hlo1
              have hzz := HBZ.out.size
              clear hke hqz b0 hlo1 hlo2
              cases hb : anyT ks fk k with
              | true =>
                have hst := HST.out
                rw [← HALL.out, hb, if_pos rfl] at hst
                have HSU := hid hst
                clear hst hb
                go_wp2_with (at_builtin; go_must (refine wpList_append_any _ rfl (.tmp 99) (.tmp 104) 51 rfl w.heap.size 53 i1 (.agg #[.int .i64 0, .int .i64 0]) 2 16 Tryz.underlying51 hI1 hz3 hz4 hz5 rfl (by decide) _ m _ rfl (HR2Z.out.alloc _) _ _ 1 1 [.int .i64 fk, .int .i64 (kn : Int)] rfl (reads_blk2 (Blk.new wr _ _)) (by simp [Value.oneCell']) (by unfold maxLen; omega) (by omega) (by simp; omega) ?_); intro v6 w6 ho6 hg6 hv6)
                have HB6 := hid ((HBZ.out.alloc HBZ.out.size _).grown hg6 (by have := HBZ.out.size; simp; omega) (fun j e => (HR2Z.out.lt j e).1))
                have HR16 := hid (own_kept (HR1Z.out.alloc (.cells #[.int .i64 fk, .int .i64 (kn : Int)] 53)) hg6 (fun j e e2 => HNEW.out j e e2))
                have HNE6 := hid (show ∀ j, (Value.slice A7 (i + 1) c7).ownBlock = some j → v6.ownBlock ≠ some j from fun j e e2 => by
                  rcases hv6 with h | h
                  · exact HNEW.out j e (h.symm.trans e2)
                  · rw [h] at e2
                    injection e2 with e2
                    have := HLO1.out j e
                    rw [World.size_alloc] at e2
                    omega)
                go_roundg (lLen - (i + 1))
                case measure => omega
                case rel => exact ⟨_, v6, i + 1, m + 1, rfl, rfl, by go_num, by omega, Nat.le_refl _, by omega, HR16.out, (by show World.ownsRow _ _ _ _ _ _ _; rw [HSU.out, fgCells_snoc]; exact ho6), (by show _ = _; rw [HSU.out, List.length_append, ← HM.out]; rfl), HNE6.out, HB6.out⟩
              | false =>
                have hst := HST.out
                rw [← HALL.out, hb, if_neg (by decide)] at hst
                have HSU := hid hst
                clear hst hb
                go_wp2_with fail
                go_roundg (lLen - (i + 1))
                case measure => omega
                case rel => exact ⟨_, _, i + 1, m, rfl, rfl, by go_num, by omega, Nat.le_refl _, by omega, HR1Z.out, (by show World.ownsRow _ _ _ _ _ _ _; rw [HSU.out]; exact HR2Z.out), (by show _ = _; rw [HSU.out]; exact HM.out), HNEW.out, HBZ.out⟩
        · have hfa' : ¬ (0 : Int) ≤ fa := by omega
          have w9 := w8
          obtain ⟨w9, hw9⟩ : ∃ w9, w9 = w8 := ⟨_, rfl⟩
          have hb9 : Below w8.heap.size w8 w9 := by rw [hw9]; exact Below.refl _ _
          rw [← hw9]
          clear hw9
          have b0' := (HQX.out.below hb9 HQX.out.lt).cell 0
          have b1' := (HQX.out.below hb9 HQX.out.lt).cell 1
          simp only [List.getElem?_toArray, List.getElem?_cons_zero, List.getElem?_cons_succ] at b0' b1'
          go_wp2_with fail
          have hs89 := hb9.size
          have HQY := hid (HQX.out.below hb9 HQX.out.lt)
          have HR1Y := hid (own_kept HR1X.out (grown_of_below hb9 none) (fun k _ => by simp))
          have HR2Y := hid (own_kept HR2X.out (grown_of_below hb9 none) (fun k _ => by simp))
          have HBY := hid (HBX.out.trans (hb9.mono HBX.out.size))
          clear b0 b1 b0' b1' hb9 HQX HR1X HR2X HBX
          have HTRUE := HQY
          have hqy := HQY.out.lt
          go_wp2_with fail
          go_loopg [12, 13] kindsLen (fun kx s12 s13 wr => ∃ k : Nat, s12 = .bool (anyT ks fk k) ∧ s13 = .int .i64 k ∧ k ≤ kindsLen ∧ kindsLen - k ≤ kx ∧ Hid (Below w9.heap.size w9 wr))
          case atStart => exact ⟨0, by rw [anyT_zero], rfl, Nat.zero_le _, Nat.le_refl _, Below.refl _ _⟩
          case round =>
            obtain ⟨k, rfl, rfl, hk1, hgk, HBQ⟩ := hrel
            have HBZ := hid (HBY.out.trans (HBQ.out.mono HBY.out.size))
            have hqz := HQY.out.below HBQ.out hqy
            have b0 := hqz.cell 0
            simp only [List.getElem?_toArray, List.getElem?_cons_zero, List.getElem?_cons_succ] at b0
            by_cases hltk : k < kindsLen
            · have hltk' : (k : Int) < (kindsLen : Int) := by omega
              have hkl : k < ks.length := by rw [← HKN.out]; exact hltk
              obtain ⟨gk, ok, rfl, hgkl, y0⟩ := (HKI.out wr HBZ.out).at_ hkl
              have HAS := hid (anyT_step (c := fk) hkl)
              generalize ks[k] = kv at *
              clear hkl hqz
              cases hb : anyT ks fk k with
              | true =>
                have HAT := hid (show anyT ks fk (k + 1) = true by rw [HAS.out, hb]; rfl)
                clear hb
                go_upto_region 21 with fail
                go_quiet (fail)
                have HB2 := hid (HBQ.out.trans ((below_drewN wr.heap.size wr nq).mono HBQ.out.size))
                go_wp2_with fail
                go_roundg (kindsLen - (k + 1))
                case measure => omega
                case rel => exact ⟨k + 1, by rw [HAT.out], by go_num, by omega, Nat.le_refl _, HB2.out⟩
              | false =>
                by_cases he : kv = fk
                · have HAT := hid (show anyT ks fk (k + 1) = true by rw [HAS.out, hb, decide_eq_true he]; rfl)
                  have heb : (kv == fk) = true := by simpa using he
                  clear hb
                  go_upto_region 21 with fail
                  go_quiet (fail)
                  have HB2 := hid (HBQ.out.trans ((below_drewN wr.heap.size wr nq).mono HBQ.out.size))
                  go_wp2_with fail
                  go_roundg (kindsLen - (k + 1))
                  case measure => omega
                  case rel => exact ⟨k + 1, by rw [HAT.out], by go_num, by omega, Nat.le_refl _, HB2.out⟩
                · have HAT := hid (show anyT ks fk (k + 1) = false by rw [HAS.out, hb, decide_eq_false he]; rfl)
                  have heb : (kv == fk) = false := by simpa using he
                  clear hb
                  go_upto_region 21 with fail
                  go_quiet (fail)
                  have HB2 := hid (HBQ.out.trans ((below_drewN wr.heap.size wr nq).mono HBQ.out.size))
                  go_wp2_with fail
                  go_roundg (kindsLen - (k + 1))
                  case measure => omega
                  case rel => exact ⟨k + 1, by rw [HAT.out], by go_num, by omega, Nat.le_refl _, HB2.out⟩
            · have hltk' : ¬ (k : Int) < (kindsLen : Int) := by omega
              have hke : k = ks.length := by have := HKN.out; omega
              have HALL := hid (show anyT ks fk k = decide (fk ∈ ks) by rw [hke, anyT_all])
              have hil : i < fl.length := by rw [← HN.out]; exact hlt
              obtain ⟨g3, o3, e3, hgl3, x0, x1⟩ := (HFO.out wr HBZ.out).at_ (j := i) hil
              injection e3 with e3
              injection e3 with e3 e4
              subst e3 e4
              have hfi := HEL.out
              rw [List.getElem?_eq_getElem hil] at hfi
              injection hfi with hfi
              rw [hfi] at x0 x1
              simp only at x0 x1
              clear hfi hil
              have HR1Z := hid (own_kept HR1Y.out (grown_of_below HBQ.out none) (fun k _ => by simp))
              have HR2Z := hid (own_kept HR2Y.out (grown_of_below HBQ.out none) (fun k _ => by simp))
              have hlo1 := fun j e => (HR1Z.out.lt j e).2
              have hlo2 := fun j e => (HR2Z.out.lt j e).2
              have HLO1 := hid hlo1
              have hzz := HBZ.out.size
              clear hke hqz b0 hlo1 hlo2
              cases hb : anyT ks fk k with
              | true =>
                have hst := HST.out
                rw [← HALL.out, hb, if_pos rfl] at hst
                have HSU := hid hst
                clear hst hb
                go_wp2_with (at_builtin; go_must (refine wpList_append_any _ rfl (.tmp 99) (.tmp 104) 51 rfl w.heap.size 53 i1 (.agg #[.int .i64 0, .int .i64 0]) 2 16 Tryz.underlying51 hI1 hz3 hz4 hz5 rfl (by decide) _ m _ rfl (HR2Z.out.alloc _) _ _ 1 1 [.int .i64 fk, .int .i64 fa] rfl (reads_blk2 (Blk.new wr _ _)) (by simp [Value.oneCell']) (by unfold maxLen; omega) (by omega) (by simp; omega) ?_); intro v6 w6 ho6 hg6 hv6)
                have HB6 := hid ((HBZ.out.alloc HBZ.out.size _).grown hg6 (by have := HBZ.out.size; simp; omega) (fun j e => (HR2Z.out.lt j e).1))
                have HR16 := hid (own_kept (HR1Z.out.alloc (.cells #[.int .i64 fk, .int .i64 fa] 53)) hg6 (fun j e e2 => HNEW.out j e e2))
                have HNE6 := hid (show ∀ j, (Value.slice A7 (i + 1) c7).ownBlock = some j → v6.ownBlock ≠ some j from fun j e e2 => by
                  rcases hv6 with h | h
                  · exact HNEW.out j e (h.symm.trans e2)
                  · rw [h] at e2
                    injection e2 with e2
                    have := HLO1.out j e
                    rw [World.size_alloc] at e2
                    omega)
                go_roundg (lLen - (i + 1))
                case measure => omega
                case rel => exact ⟨_, v6, i + 1, m + 1, rfl, rfl, by go_num, by omega, Nat.le_refl _, by omega, HR16.out, (by show World.ownsRow _ _ _ _ _ _ _; rw [HSU.out, fgCells_snoc]; exact ho6), (by show _ = _; rw [HSU.out, List.length_append, ← HM.out]; rfl), HNE6.out, HB6.out⟩
              | false =>
                have hst := HST.out
                rw [← HALL.out, hb, if_neg (by decide)] at hst
                have HSU := hid hst
                clear hst hb
                go_wp2_with fail
                go_roundg (lLen - (i + 1))
                case measure => omega
                case rel => exact ⟨_, _, i + 1, m, rfl, rfl, by go_num, by omega, Nat.le_refl _, by omega, HR1Z.out, (by show World.ownsRow _ _ _ _ _ _ _; rw [HSU.out]; exact HR2Z.out), (by show _ = _; rw [HSU.out]; exact HM.out), HNEW.out, HBZ.out⟩
    · have hlt' : ¬ ((i : Int) < (lLen : Int)) := by omega
      have hil : i = lLen := by omega
      have hfull : fl.take i = fl := by rw [hil, HN.out, List.take_length]
      have hr1 := HR1.out
      have hr2 := HR2.out
      rw [hfull] at hr1 hr2
      obtain ⟨A1, c1, rfl, hf1⟩ := FR.of_own hr1
      obtain ⟨A2, c2, rfl, hf2⟩ := FR.of_own hr2
      have HF2 := hid hf2
      have HMM := hid (show m = (onlyF ks fl).length by rw [← hfull]; exact HM.out)
      have HON := hid (HONL.out wr HB.out A1 i c1 fl hf1 (by omega))
      clear hfull hr1 hr2 hf1 hf2 hil
      go_wp2_with fail
      refine HON.out.mono ?_
      rintro e w9 ⟨v9, rfl, ho9, hb9⟩
      obtain ⟨A9, c9, rfl, hf9⟩ := FR.of_own ho9
      have HF9 := hid hf9
      have HB9 := hid hb9
      clear ho9 hb9 hf9
      rw [← HMM.out] at HF9 ⊢
      go_wp2_with fail
      refine (isF_any A9 A2 m c9 c2 _ w9 HF9.out (HF2.out.below HB9.out (Nat.le_refl _)) (by omega)).mono ?_
      rintro e w10 ⟨rfl, hb10⟩
      have HB10 := hid (HB.out.trans ((HB9.out.trans (hb10.mono HB9.out.size)).mono HB.out.size))
      clear hb10
      go_wp2_with fail
      go_ret
      exact ⟨rfl, HB10.out⟩
end Go.Proofs.YtpnbkecchfhimaaGreatDoor.lintPrints
