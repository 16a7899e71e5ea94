/- Chapter 20: the document's answer: how many are settled: the walk. -/
import Derived.Test.YtpnbkecchfhimaaGreatDoorFdT
import Derived.Test.YtpnbkecchfhimaaGreatDoorTkV0
namespace Go.Proofs.YtpnbkecchfhimaaGreatDoor
open Go.RowKit Go.Shelf
open Go.Lib (hid)
set_option linter.unusedVariables false
set_option linter.unusedSimpArgs false
set_option maxRecDepth 100000

theorem setN_at {s : ByteArray} {i : Nat} (h1 : ∀ j, j < i → setB s (toks s) j = true) (hi : i ≤ (toks s).length) (h2 : i < (toks s).length → setB s (toks s) i = false) : setN s = i := by
  have h := setN_from h1 _ 0 rfl (Nat.zero_le _) hi
  unfold setN
  rw [h]
  by_cases hl : i < (toks s).length
  · exact scanTo_stop hl (by rw [h2 hl]; rfl)
  · exact scanTo_end (by omega)
set_option maxHeartbeats 16000000 in
theorem refset_any (a : Option Addr) (n cap : Nat) (s : ByteArray) (w : World) (hba : BA w a n cap s) (hm : n ≤ 1000000) :
    Calls Tryz.prog 17 #[.slice a n cap] w fun e w' => e = .returned (.int .i64 (setN s)) ∧ Below w.heap.size w w' := by
  have HALL := hid (refAll_any a n cap s w hba hm)
  have HRT := hid (fun W (hW : Below w.heap.size w W) (j : Int) (hj : j ≤ 9223372036854775807) => refread_any W a n cap j s hba.1 (fun h0 => (hba.below hW (Nat.le_refl _)).2.2.2 h0) hba.2.1 hba.2.2.1 (by omega) hj)
  have HRE := hid (fun W (hW : Below w.heap.size w W) (j : Int) (hj : j ≤ 9223372036854775807) => refread_any_a a n cap j s W (hba.below hW (Nat.le_refl _)) (by omega) hj)
  have HLS := hid hba.1
  have HMM := hid (fun j (h : j < (toks s).length) => toks_mem (List.getElem_mem h))
  have HNM := hid (fun j (h : j < (toks s).length) => name_size (List.getElem_mem h))
  clear hba
  go_enter Tryz.func17, Tryz.ntmps17
  go_wp2_with fail
  refine HALL.out.mono ?_
  rintro e w2 ⟨v, rfl, hmd, hb2⟩
  obtain ⟨A, c2, rfl, hdr⟩ := DR.of_made hmd
  have HB2 := hid hb2
  have HDR := hid hdr
  have hs2 := hb2.size
  clear hmd hb2 hdr HALL
  obtain ⟨N, hN⟩ : ∃ N, N = (toks s).length := ⟨_, rfl⟩
  have HN := hid hN
  have hN6 : N ≤ 1000000 := by rw [hN]; have := toks_len s; have := HLS.out; omega
  rw [← hN] at HDR ⊢
  clear hN
  go_wp2_with fail
  go_loopg [4] N (fun kx s4 wr => ∃ i : Nat, s4 = .int .i64 i ∧ i ≤ N ∧ N - i ≤ kx ∧ Hid (∀ j, j < i → setB s (toks s) j = true) ∧ Hid (Below w2.heap.size w2 wr))
  case atStart => exact ⟨0, rfl, Nat.zero_le _, Nat.le_refl _, fun j h => absurd h (Nat.not_lt_zero _), Below.refl _ _⟩
  case round =>
    obtain ⟨i, rfl, hi1, hg, HSET, HB⟩ := hrel
    have hszr := HB.out.size
    by_cases hlt : i < N
    · have hlt' : (i : Int) < (N : Int) := by omega
      have hil : i < (toks s).length := by rw [← HN.out]; exact hlt
      obtain ⟨v, hv⟩ : ∃ v, v = setB s (toks s) i := ⟨_, rfl⟩
      have HSB := hid hv.symm
      unfold setB at hv
      rw [List.getElem?_eq_getElem hil] at hv
      simp only at hv
      have hnx : (i + 1 < N → ∃ u : Tk, (toks s)[i + 1]? = some u ∧ u.name.size ≤ s.size ∧ u.fr < u.til ∧ u.til ≤ s.size ∧ ∃ g, A = some ⟨g, 0, none⟩ ∧ g < wr.heap.size ∧ wr.cell? ⟨g, (i + 1) * 7 + 1, none⟩ = some (.int .i64 u.fr) ∧ wr.cell? ⟨g, (i + 1) * 7 + 2, none⟩ = some (.int .i64 u.til) ∧ wr.cell? ⟨g, (i + 1) * 7 + 3, none⟩ = some (.string u.name)) := fun hin => by
        have hil2 : i + 1 < (toks s).length := by rw [← HN.out]; exact hin
        refine ⟨(toks s)[i + 1], List.getElem?_eq_getElem hil2, HNM.out _ hil2, (HMM.out _ hil2).1, (HMM.out _ hil2).2.1, ?_⟩
        obtain ⟨g', e, hgl, y0, y1, y2, y3, _⟩ := (HDR.out.below HB.out (Nat.le_refl _)).at_ hil2
        exact ⟨g', e, hgl, y1, y2, y3⟩
      have HNX := hid hnx
      have hno : ¬ i + 1 < N → (toks s)[i + 1]? = none := fun hin => List.getElem?_eq_none (by rw [← HN.out]; omega)
      have HNO := hid hno
      obtain ⟨g, rfl, hgl, x0, x1, x2, x3, x4, x5, x6⟩ := (HDR.out.below HB.out (Nat.le_refl _)).at_ hil
      have hfb := (HMM.out i hil)
      rw [← HN.out] at hv
      generalize hol : (toks s)[i + 1]? = ol at hv HNX HNO
      generalize (toks s)[i] = t at *
      obtain ⟨k, f, tl, nm, r, sg⟩ := t
      simp only at x0 x1 x2 x3 x4 x5 x6 hv hfb
      have HV := hid hv
      have HF := hid (show (f : Int) ≤ 9223372036854775807 by have := HLS.out; omega)
      have hB1 := (Below.refl wr.heap.size wr).alloc (Nat.le_refl _) (.cells #[.int .i64 k, .int .i64 f, .int .i64 tl, .string nm, .int .i32 r, .bool sg, .bool false] 42)
      have q1 := Blk.new wr 42 #[.int .i64 k, .int .i64 f, .int .i64 tl, .string nm, .int .i32 r, .bool sg, .bool false]
      have z0 := q1.cell 0
      have z1 := q1.cell 1
      simp only [List.getElem?_toArray, List.getElem?_cons_zero, List.getElem?_cons_succ] at z0 z1
      have HB1 := hid (HB.out.trans (hB1.mono hszr))
      have HBw := hid (HB2.out.trans (HB1.out.mono HB2.out.size))
      have HBr := hid hB1
      have hi1' : (i : Int) + 1 = ((i + 1 : Nat) : Int) := by omega
      have hi1b : ((i + 1 : Nat) : Int) ≤ 2000000 := by omega
      have hwr : IntKind.i64.wrap ((i + 1 : Nat) : Int) = ((i + 1 : Nat) : Int) := IntWalk.i64_in _ (by omega)
      clear hv hnx hno hil hol hfb q1 hB1
      by_cases h0 : k = 0
      · subst h0
        have hv := HV.out
        rw [if_pos rfl] at hv
        by_cases hin : i + 1 < N
        · have hin' : ((i + 1 : Nat) : Int) < (N : Int) := by omega
          rw [decide_eq_true hin] at hv
          subst hv
          clear HV HNX HNO hin
          generalize hi2 : i + 1 = i2 at *
          have HI2 := hid hi2
          clear hi2
          go_wp2_with fail
          go_roundg (N - i2)
          case measure => have := HI2.out; omega
          case rel => exact ⟨i2, rfl, by have := HI2.out; omega, Nat.le_refl _, fun j hj => by
            by_cases hji : j = i
            · subst hji; exact HSB.out
            · exact HSET.out j (by have := HI2.out; omega), HB1.out⟩
        · have hin' : ¬ ((i + 1 : Nat) : Int) < (N : Int) := by omega
          rw [decide_eq_false hin] at hv
          subst hv
          have HEQ := hid (setN_at (s := s) (i := i) HSET.out (by rw [← HN.out]; exact Nat.le_of_lt hlt) (fun _ => HSB.out))
          clear HV HNX HNO hin hlt hg
          generalize i + 1 = i2 at *
          go_wp2_with fail
          go_ret
          exact ⟨by rw [HEQ.out]; rfl, HB2.out.trans (HB1.out.mono HB2.out.size)⟩
      have h0b : (k == 0) = false := by simpa using h0
      by_cases h1 : k = 1
      · subst h1
        have hv := HV.out
        rw [if_neg (by decide), if_pos rfl] at hv
        subst hv
        clear HV HNX HNO
        generalize hi2 : i + 1 = i2 at *
        have HI2 := hid hi2
        clear hi2
        go_wp2_with fail
        go_roundg (N - i2)
        case measure => have := HI2.out; omega
        case rel => exact ⟨i2, rfl, by have := HI2.out; omega, Nat.le_refl _, fun j hj => by
          by_cases hji : j = i
          · subst hji; exact HSB.out
          · exact HSET.out j (by have := HI2.out; omega), HB1.out⟩
      have h1b : (k == 1) = false := by simpa using h1
      by_cases h6 : k = 6
      · subst h6
        have hv := HV.out
        rw [if_neg (by decide), if_neg (by decide), if_pos rfl] at hv
        have hre := HRE.out _ HBw.out (f : Int) HF.out
        generalize readE s (f : Int) = E at *
        obtain ⟨ez, ew, eo, el⟩ := E
        simp only [Es.val] at hv hre
        have HRE1 := hid hre
        clear HV HNX HNO hre
        have hfl : ∀ W : World, (Instr.field 76 (.agg #[.int .i64 ez, .bool ew, .bool eo, .int .u8 el]) 2).run Tryz.prog W = .ok (.bool eo) W := fun W => by kernel_rfl
        go_wp2_with fail
        refine HRE1.out.mono ?_
        rintro e w3 ⟨rfl, hb3⟩
        have HB3 := hid (HB1.out.trans (hb3.mono HB1.out.size))
        clear hb3
        cases eo with
        | true =>
          have hv2 : v = false := hv
          clear hv
          subst hv2
          have HEQ := hid (setN_at (s := s) (i := i) HSET.out (by rw [← HN.out]; exact Nat.le_of_lt hlt) (fun _ => HSB.out))
          clear hlt hg
          generalize i + 1 = i2 at *
          go_wp2_with fail
          go_ret
          exact ⟨by rw [HEQ.out]; rfl, HB2.out.trans (HB3.out.mono HB2.out.size)⟩
        | false =>
          have hv2 : v = true := hv
          clear hv
          subst hv2
          generalize hi2 : i + 1 = i2 at *
          have HI2 := hid hi2
          clear hi2
          go_wp2_with fail
          go_roundg (N - i2)
          case measure => have := HI2.out; omega
          case rel => exact ⟨i2, rfl, by have := HI2.out; omega, Nat.le_refl _, fun j hj => by
            by_cases hji : j = i
            · subst hji; exact HSB.out
            · exact HSET.out j (by have := HI2.out; omega), HB3.out⟩
      have h6b : (k == 6) = false := by simpa using h6
      by_cases h7 : k = 7
      · subst h7
        have hv := HV.out
        rw [if_neg (by decide), if_neg (by decide), if_neg (by decide), if_pos rfl] at hv
        by_cases hin : i + 1 < N
        · have hin' : ((i + 1 : Nat) : Int) < (N : Int) := by omega
          have hd1 : decide (i + 1 < N) = true := decide_eq_true hin
          obtain ⟨u, hu, hun, huf, hut, g', e', hg', y1, y2, y3⟩ := HNX.out hin
          cases e'
          rw [hu] at hv
          obtain ⟨uk, uf, ut, un, ur, us⟩ := u
          simp only at hv hun huf hut y1 y2 y3
          have e1 : (uf : Int) + 2 = ((uf + 2 : Nat) : Int) := by omega
          have e2 : ((uf + 2 : Nat) : Int) + (un.size : Int) = ((uf + 2 + un.size : Nat) : Int) := by omega
          have hls := HLS.out
          have w1 : IntKind.i64.wrap ((uf + 2 : Nat) : Int) = ((uf + 2 : Nat) : Int) := IntWalk.i64_in _ (by omega)
          have w2' : IntKind.i64.wrap ((uf + 2 + un.size : Nat) : Int) = ((uf + 2 + un.size : Nat) : Int) := IntWalk.i64_in _ (by omega)
          have hcv : v = decide (uf + 2 + un.size < ut) := by
            rw [hv]
            by_cases hc : 2 + un.size < ut - uf
            · rw [decide_eq_true hc, decide_eq_true (by omega)]
            · rw [decide_eq_false hc, decide_eq_false (by omega)]
          have q1 := (HBr.out.cell (p := ⟨g, (i + 1) * 7 + 1, none⟩) hgl).trans y1
          have q2 := (HBr.out.cell (p := ⟨g, (i + 1) * 7 + 2, none⟩) hgl).trans y2
          have q3 := (HBr.out.cell (p := ⟨g, (i + 1) * 7 + 3, none⟩) hgl).trans y3
          clear hv hls hun huf hut hu y1 y2 y3 HV HNX HNO hin
          generalize uf + 2 + un.size = m3 at *
          generalize uf + 2 = m2 at *
          generalize hi2 : i + 1 = i2 at *
          have HI2 := hid hi2
          clear hi2
          have HCV := hid hcv
          clear hcv
          go_upto_region 16 with fail
          generalize wr.alloc (.cells #[.int .i64 7, .int .i64 f, .int .i64 tl, .string nm, .int .i32 r, .bool sg, .bool false] 42) = w5 at *
          by_cases hc : m3 < ut
          · have hd2 : decide (m3 < ut) = true := decide_eq_true hc
            have hc2 : (m3 : Int) < (ut : Int) := by omega
            obtain rfl : v = true := by rw [HCV.out]; exact hd2
            go_quiet (fail)
            have HB5 := hid (HB1.out.trans ((below_drewN w5.heap.size w5 nq).mono HB1.out.size))
            go_wp2_with fail
            go_roundg (N - i2)
            case measure => have := HI2.out; omega
            case rel => exact ⟨i2, rfl, by have := HI2.out; omega, Nat.le_refl _, fun j hj => by
              by_cases hji : j = i
              · subst hji; exact HSB.out
              · exact HSET.out j (by have := HI2.out; omega), HB5.out⟩
          · have hd2 : decide (m3 < ut) = false := decide_eq_false hc
            have hc2 : ¬ (m3 : Int) < (ut : Int) := by omega
            obtain rfl : v = false := by rw [HCV.out]; exact hd2
            have HEQ := hid (setN_at (s := s) (i := i) HSET.out (by rw [← HN.out]; exact Nat.le_of_lt hlt) (fun _ => HSB.out))
            clear hlt hg
            go_quiet (fail)
            have HB5 := hid (HB1.out.trans ((below_drewN w5.heap.size w5 nq).mono HB1.out.size))
            go_wp2_with fail
            go_ret
            exact ⟨by rw [HEQ.out]; rfl, HB2.out.trans (HB5.out.mono HB2.out.size)⟩
        · have hin' : ¬ ((i + 1 : Nat) : Int) < (N : Int) := by omega
          have hd1 : decide (i + 1 < N) = false := decide_eq_false hin
          rw [HNO.out hin] at hv
          simp only at hv
          subst hv
          have HEQ := hid (setN_at (s := s) (i := i) HSET.out (by rw [← HN.out]; exact Nat.le_of_lt hlt) (fun _ => HSB.out))
          clear HV HNX HNO hin hlt hg
          generalize i + 1 = i2 at *
          go_upto_region 16 with fail
          generalize wr.alloc (.cells #[.int .i64 7, .int .i64 f, .int .i64 tl, .string nm, .int .i32 r, .bool sg, .bool false] 42) = w5 at *
          go_quiet (fail)
          have HB5 := hid (HB1.out.trans ((below_drewN w5.heap.size w5 nq).mono HB1.out.size))
          go_wp2_with fail
          go_ret
          exact ⟨by rw [HEQ.out]; rfl, HB2.out.trans (HB5.out.mono HB2.out.size)⟩
      have h7b : (k == 7) = false := by simpa using h7
      have hv := HV.out
      rw [if_neg h0, if_neg h1, if_neg h6, if_neg h7] at hv
      have hrt := HRT.out _ HBw.out (f : Int) HF.out
      generalize readV s (f : Int) = R at *
      obtain ⟨M, ok⟩ := R
      simp only [Mk.val] at hv hrt
      generalize M.kind = mk at *
      generalize M.size = mz at *
      generalize M.name = mn at *
      generalize M.single = ms at *
      generalize M.closed = mc at *
      have HRT1 := hid hrt
      clear HV HNX HNO hrt
      subst hv
      go_wp2_with fail
      refine HRT1.out.mono ?_
      rintro e w3 ⟨vv, rfl, hb3, hrow⟩
      obtain ⟨va, vc, rfl⟩ := owns_slice hrow
      clear hrow
      generalize M.attrs.length = vn at *
      have HB3 := hid (HB1.out.trans (hb3.mono HB1.out.size))
      have HB4 := hid (HB3.out.alloc HB3.out.size (.cells #[.int .i64 mk, .int .i64 mz, .string mn, .slice va vn vc, .bool ms, .bool v] 80))
      have q2 := Blk.new w3 80 #[.int .i64 mk, .int .i64 mz, .string mn, .slice va vn vc, .bool ms, .bool v]
      have v5 := q2.cell 5
      simp only [List.getElem?_toArray, List.getElem?_cons_zero, List.getElem?_cons_succ] at v5
      clear hb3 q2
      cases v with
      | false =>
        have HEQ := hid (setN_at (s := s) (i := i) HSET.out (by rw [← HN.out]; exact Nat.le_of_lt hlt) (fun _ => HSB.out))
        clear hlt hg
        generalize i + 1 = i2 at *
        go_wp2_with fail
        go_ret
        exact ⟨by rw [HEQ.out]; rfl, HB2.out.trans (HB4.out.mono HB2.out.size)⟩
      | true =>
        generalize hi2 : i + 1 = i2 at *
        have HI2 := hid hi2
        clear hi2
        go_wp2_with fail
        go_roundg (N - i2)
        case measure => have := HI2.out; omega
        case rel => exact ⟨i2, rfl, by have := HI2.out; omega, Nat.le_refl _, fun j hj => by
          by_cases hji : j = i
          · subst hji; exact HSB.out
          · exact HSET.out j (by have := HI2.out; omega), HB4.out⟩
    · have hiN : i = N := by omega
      have hlt' : ¬ (i : Int) < (N : Int) := by omega
      have HEQ := hid (setN_at (s := s) (i := N) (fun j hj => HSET.out j (by omega)) (by rw [← HN.out]; exact Nat.le_refl _) (fun h => by have := HN.out; omega))
      clear hiN hlt hg
      go_wp2_with fail
      go_ret
      exact ⟨by rw [HEQ.out]; rfl, HB2.out.trans (HB.out.mono HB2.out.size)⟩
end Go.Proofs.YtpnbkecchfhimaaGreatDoor
