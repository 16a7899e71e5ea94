/- The law RangesMake: the walk. -/
import Derived.Test.YteddhjfbnanplaaDoorRgAw
namespace Go.Proofs.YteddhjfbnanplaaDoor.rangesMake
open Go.RowKit
open Go.Lib (hid)
set_option linter.unusedVariables false
set_option maxRecDepth 100000

theorem in_gath {l : List Rg} (h : ∀ x ∈ l, okR x) (r : Int) : inB (gathR l [] 0) r = inB l r := by
  rw [Bool.eq_iff_iff, inB_iff, inB_iff, (gath_or (b := []) h (fun x hx => by cases hx)).2]
  exact ⟨fun q => q.elim id (fun q => absurd q (memR_nil r)), .inl⟩
set_option maxHeartbeats 4000000 in
theorem walk (l : Option Addr) (lLen lCap : Nat) (lD : List (List Value)) (r : Int) (w : World) (w0 : IsAggRow [.int .i32, .int .i32] w l lLen lCap lD) (w1 : (Lit.int .i32 r).wf = true) (hdb : Db w) :
    Calls Tryd.prog 3 #[.slice l lLen lCap, .int .i32 r] w fun e w' => e = .returned (.bool true) ∧ Below w.heap.size w w' := by
  obtain ⟨L, hL, h32⟩ := rr_of w0
  have hr : -2147483648 ≤ r ∧ r ≤ 2147483647 := by
    simp only [Lit.wf, IntKind.min, IntKind.max, IntKind.signed, IntKind.bits, Bool.and_eq_true] at w1
    simp at w1
    omega
  have HAW := hid (awake_any w hdb)
  have HL := hid hL
  have HN := hid hL.1
  have H32 := hid h32
  clear w0 w1 hdb hL h32
  by_cases hbig : 30 < lLen
  · have hbig' : (30 : Int) < (lLen : Int) := by omega
    clear hbig
    go_enter Tryd.func3, Tryd.ntmps3
    go_wp2_with fail
    refine HAW.out.mono ?_
    rintro e w2 ⟨rfl, hb⟩
    have HB := hid hb
    clear hb
    go_wp2_with fail
    go_ret
    exact ⟨rfl, HB.out⟩
  · have hbig' : ¬ (30 : Int) < (lLen : Int) := by omega
    go_enter Tryd.func3, Tryd.ntmps3
    go_wp2_with fail
    refine HAW.out.mono ?_
    rintro e w2 ⟨rfl, hb⟩
    have HB := hid hb
    clear hb HAW
    have HL2 := hid (HL.out.below HB.out (Nat.le_refl _))
    go_wp2_with fail
    refine (to_own l lLen lCap L w2 HL2.out (by omega)).mono ?_
    rintro e w3 ⟨A3, n3, c3, rfl, ho, hb⟩
    have HB3 := hid (HB.out.trans (hb.mono HB.out.size))
    have HR3 := hid (RR.of_own ho)
    have HF3 := hid (Flat.of_own ho)
    have hn3 : n3 = lLen := by have := (RR.of_own ho).1; have := HN.out; omega
    subst hn3
    clear ho hb
    go_wp2_with fail
    refine (make_any A3 n3 c3 L w3 HR3.out HF3.out (by omega)).mono ?_
    rintro e w4 ⟨A4, n4, c4, rfl, hr4, hb⟩
    have hmk : makeR L = if badB L = true then ([], 1) else (gathR L [] 0, 0) := by
      unfold makeR
      rw [if_neg (by have := HN.out; omega)]
    have HMK := hid hmk
    have HB4 := hid (HB3.out.trans (hb.mono HB3.out.size))
    have HR4 := hid hr4
    have HL4 := hid (HL.out.below HB4.out (Nat.le_refl _))
    obtain ⟨er, her⟩ : ∃ er, er = (makeR L).2 := ⟨_, rfl⟩
    rw [← her]
    have HER := hid her
    clear hmk hr4 hb her
    have hB4 := HB4.out.size
    go_wp2_with fail
    go_loopg [7] n3 (fun kx s7 wr => ∃ i : Nat, s7 = .int .i64 i ∧ i ≤ n3 ∧ n3 - i ≤ kx ∧ Hid (Below w4.heap.size w4 wr) ∧ Hid (∀ j (hj : j < L.length), j < i → okB L[j] = true))
    case atStart => exact ⟨0, rfl, Nat.zero_le _, by omega, Below.refl _ _, fun j hj h => absurd h (Nat.not_lt_zero _)⟩
    case round =>
      obtain ⟨i, rfl, hi, hg, HBR, HA⟩ := hrel
      by_cases hlt : i < n3
      · have hlt' : (i : Int) < (n3 : Int) := by omega
        have hil : i < L.length := by have := HN.out; omega
        obtain ⟨b, off, rfl, hbl, x0, x1⟩ := (HL4.out.below HBR.out (Nat.le_refl _)).at hil
        cases hk : okB L[i]
        · have HBAD := hid (badB_yes hil hk)
          have hmr := HMK.out
          rw [if_pos HBAD.out] at hmr
          have hr4 := HR4.out
          rw [hmr] at hr4
          have he4 := HER.out
          rw [hmr] at he4
          obtain rfl : n4 = 0 := hr4.1
          obtain rfl : er = 1 := he4
          generalize L[i] = x at *
          obtain ⟨lo, hi2⟩ := x
          simp only at x0 x1
          have HR := hid (may_any lo hi2 wr)
          rw [hk] at HR
          clear hk hmr hr4
          go_wp2_with fail
          refine HR.out.mono ?_
          rintro e w5 ⟨rfl, hb⟩
          have HB5 := hid ((HB4.out.trans (HBR.out.mono hB4)).trans (hb.mono (Nat.le_trans hB4 HBR.out.size)))
          clear hb
          go_wp2_with fail
          go_ret
          exact ⟨rfl, HB5.out⟩
        · have HA2 := hid (show ∀ j (hj : j < L.length), j < i + 1 → okB L[j] = true from fun j hj h => by
            rcases Nat.lt_or_ge j i with h2 | h2
            · exact HA.out j hj h2
            · obtain rfl : j = i := by omega
              exact hk)
          generalize L[i] = x at *
          obtain ⟨lo, hi2⟩ := x
          simp only at x0 x1
          have HR := hid (may_any lo hi2 wr)
          rw [hk] at HR
          clear hk
          go_wp2_with fail
          refine HR.out.mono ?_
          rintro e w5 ⟨rfl, hb⟩
          have HB5 := hid (HBR.out.trans (hb.mono HBR.out.size))
          clear hb
          go_wp2_with fail
          go_roundg (n3 - (i + 1))
          case measure => omega
          case rel => exact ⟨i + 1, by go_num, by omega, Nat.le_refl _, HB5, HA2⟩
      · have hlt' : ¬ (i : Int) < (n3 : Int) := by omega
        have hbad := badB_none fun j hj => HA.out j hj (by have := HN.out; omega)
        have hok := badB_no hbad
        have hmr := HMK.out
        rw [if_neg (by rw [hbad]; decide)] at hmr
        have hr4 := HR4.out
        rw [hmr] at hr4
        have he4 := HER.out
        rw [hmr] at he4
        obtain rfl : er = 0 := he4
        have HOK := hid hok
        obtain ⟨g1, g2⟩ := gath_or (b := []) hok (fun x hx => by cases hx)
        have HIG := hid (in_gath hok r)
        have HRB := hid ((rightB_iff _).2 g1)
        have HKN := hid (knownL_of g1)
        have HG32 := hid (in32_of_ok (right_ok g1))
        have HGOK := hid (right_ok g1)
        have HCB := hid (countR_bound g1 (by decide))
        have HWR := hid (HB4.out.trans (HBR.out.mono hB4))
        have HRR := hid (hr4.below HBR.out (Nat.le_refl _))
        have hgl : n4 ≤ 900000 := by
          have h1 : n4 = (gathR L [] 0).length := hr4.1
          have h2 := gathR_len L [] 0
          rw [List.append_nil] at h2
          have := HN.out
          omega
        have HLR := hid (HL4.out.below HBR.out (Nat.le_refl _))
        have HMR := hid (refmake_any l n3 lCap L wr HLR.out (by omega) hok)
        generalize gathR L [] 0 = G at *
        clear hmr hr4 hbad hok g1 g2 hi hg hlt
        have hws := HWR.out.size
        go_wp2_with fail
        refine HMR.out.mono ?_
        rintro e w5 ⟨A5, n5, c5, rfl, hr5, hb⟩
        have HR5 := hid hr5
        have HN5 := hid hr5.1
        have HB5 := hid (HWR.out.trans (hb.mono hws))
        have HRR5 := hid (HRR.out.below hb (Nat.le_refl _))
        have hn5 : n5 ≤ 1000000 := by
          have h1 := hr5.1
          have h2 := HRR.out.1
          omega
        clear hr5 hb
        have hs5 := HB5.out.size
        have HTL := hid (countR_take_le HGOK.out)
        have HCT := hid (fun (i : Nat) (h : i < G.length) => countR_take h)
        go_wp2_with fail
        obtain ⟨wo, rfl⟩ : ∃ wo : World, wo = wr := ⟨_, rfl⟩
        go_loopg [9, 10] n5 (fun kx s9 s10 wr => ∃ i : Nat, s9 = .int .i64 (countR (G.take i)) ∧ s10 = .int .i64 i ∧ i ≤ n5 ∧ n5 - i ≤ kx ∧ Hid (Below w5.heap.size w5 wr))
        case atStart => exact ⟨0, rfl, rfl, Nat.zero_le _, by omega, Below.refl _ _⟩
        case round =>
          obtain ⟨i, rfl, rfl, hi, hg, HBX⟩ := hrel
          by_cases hlt : i < n5
          · have hlt' : (i : Int) < (n5 : Int) := by omega
            have hil : i < G.length := by have := HN5.out; omega
            obtain ⟨b, off, rfl, hbl, x0, x1⟩ := (HR5.out.below HBX.out (Nat.le_refl _)).at hil
            have hct := HCT.out i hil
            obtain ⟨o1, o2, o3⟩ := HGOK.out _ (List.getElem_mem hil)
            have t0 := HTL.out i
            have t1 := HTL.out (i + 1)
            have hcb := HCB.out
            generalize G[i] = x at *
            obtain ⟨lo, hi2⟩ := x
            simp only at x0 x1 o1 o2 o3 hct
            rw [hct] at t1
            have HCTT := hid hct
            clear hct
            generalize countR (G.take i) = q at *
            have e1 : IntKind.i32.wrap (hi2 - lo) = hi2 - lo := wrap32 (by omega) (by omega)
            have e2 : IntKind.i64.wrap (hi2 - lo) = hi2 - lo := IntWalk.i64_in _ (by omega)
            have e3 : IntKind.i64.wrap (q + (hi2 - lo)) = q + (hi2 - lo) := IntWalk.i64_in _ (by omega)
            have e4 : IntKind.i64.wrap (q + (hi2 - lo) + 1) = q + (hi2 - lo) + 1 := IntWalk.i64_in _ (by omega)
            go_wp2_with fail
            go_quiet (fail)
            go_wp2_with fail
            go_roundg (n5 - (i + 1))
            case measure => omega
            case rel => exact ⟨i + 1, by rw [HCTT.out]; congr 1; omega, by go_num, by omega, Nat.le_refl _, HBX.out.trans (below_drewN _ _ _)⟩
          · have hlt' : ¬ (i : Int) < (n5 : Int) := by omega
            have ht : G.take i = G := List.take_of_length_le (by have := HN5.out; omega)
            rw [ht]
            clear hi hg hlt ht
            have HWX := hid (HB5.out.trans (HBX.out.mono hs5))
            have hsx := HWX.out.size
            have HS := hid (HRR5.out.below HBX.out (Nat.le_refl _))
            have HSW := hid (HR5.out.below HBX.out (Nat.le_refl _))
            have HLX := hid (HL.out.below HWX.out (Nat.le_refl _))
            go_wp2_with fail
            refine (is_any A4 n4 c4 G A5 n5 c5 G wr HS.out HSW.out hn5).mono ?_
            rintro e w6 ⟨rfl, hb⟩
            have HB6 := hid (HWX.out.trans (hb.mono hsx))
            have HS6 := hid (HS.out.below hb (Nat.le_refl _))
            clear hb
            have hsame : sameB G G = true := decide_eq_true rfl
            rw [hsame]
            have hs6 := HB6.out.size
            go_wp2_with fail
            refine (isright_any A4 n4 c4 G w6 HS6.out (by omega) HG32.out).mono ?_
            rintro e w7 ⟨rfl, hb⟩
            have HB7 := hid (HB6.out.trans (hb.mono hs6))
            have HS7 := hid (HS6.out.below hb (Nat.le_refl _))
            rw [HRB.out]
            clear hb
            have hs7 := HB7.out.size
            go_wp2_with fail
            refine (has_any A4 n4 c4 G r w7 HS7.out (by omega) HG32.out hr.1 hr.2).mono ?_
            rintro e w8 ⟨rfl, hb⟩
            have HB8 := hid (HB7.out.trans (hb.mono hs7))
            have HS8 := hid (HS7.out.below hb (Nat.le_refl _))
            rw [HKN.out, HIG.out]
            clear hb
            have hs8 := HB8.out.size
            go_wp2_with fail
            refine (in_any l n3 lCap L r w8 (HL.out.below HB8.out (Nat.le_refl _)) (by omega)).mono ?_
            rintro e w9 ⟨rfl, hw⟩
            obtain rfl : w8 = w9 := hw.symm
            have hbb : (inB L r == inB L r) = true := by simp
            have HC := hid (count_any A4 n4 c4 G w8 HS8.out (by omega) HG32.out)
            rw [HKN.out] at HC
            have hcc : (countR G == countR G) = true := by simp
            go_wp2_with fail
            refine HC.out.mono ?_
            rintro e w10 ⟨rfl, hb⟩
            have HB10 := hid (HB8.out.trans (hb.mono hs8))
            clear hb
            go_wp2_with fail
            go_ret
            exact ⟨rfl, HB10.out⟩
end Go.Proofs.YteddhjfbnanplaaDoor.rangesMake
