/- The walk of the law PropParts. -/
import Derived.Test.YtbkjanlkklmleaaPsB
import Derived.Test.YtbkjanlkklmleaaPsZ
import Derived.Test.YtbkjanlkklmleaaRgE
namespace Go.Proofs.Ytbkjanlkklmleaa.propParts
open Go.RowKit
open Go.Lib
set_option linter.unusedVariables false
set_option maxRecDepth 100000

theorem mod36 (a : Int) : ∃ x : Nat, IntKind.u64.wrap a % 36 = (x : Int) ∧ x < 36 := ⟨(IntKind.u64.wrap a % 36).toNat, by omega, by omega⟩
theorem setI_nat (n : Nat) (h : n < 36) : setI n = setL n := by unfold setI; rw [if_pos (by omega), Int.toNat_natCast]
theorem cls_rng (r : Int) : ∃ n : Nat, n < 36 ∧ C4.cls r = n := by
  rcases cls_told r with h | ⟨c, h1, h2, h3, _⟩
  · exact ⟨0, by decide, h⟩
  · exact ⟨c, h2, h3⟩
theorem cls_out {r : Int} (h : r < 0 ∨ 1114111 < r) : C4.cls r = 0 := by
  rcases cls_told r with h0 | ⟨c, h1, h2, h3, h4⟩
  · exact h0
  · have := mem_num (right_ok (told_right c h2)) h4
    omega
theorem has_own {n : Nat} (hn : n < 36) {r : Int} (h0 : 0 ≤ r) (h1 : r ≤ 1114111) (hc : C4.cls r = n) : inB (knownL (setL n)) r = true := by
  rw [knownL_of (set_right n hn)]
  exact (inB_iff _ _).2 ((mem_set n hn r h0 h1).2 hc)
set_option maxHeartbeats 2000000 in
/-- The law's last part. -/
theorem last_part (r : Int) (h0 : 0 ≤ r) (h1 : r ≤ 1114111) : ∃ n : Nat, n < 36 ∧ C4.cls r = n ∧ inB (knownL (setL n)) r = true := by
  obtain ⟨n, hn, hc⟩ := cls_rng r
  exact ⟨n, hn, hc, has_own hn h0 h1 hc⟩
set_option maxHeartbeats 4000000 in
theorem walk (a : Int) (b : Int) (r : Int) (w : World) (w0 : (Lit.int .i64 a).wf = true) (w1 : (Lit.int .i64 b).wf = true) (w2 : (Lit.int .i32 r).wf = true) :
    Calls Try.prog 4 #[.int .i64 a, .int .i64 b, .int .i32 r] w fun e w' => e = .returned (.bool true) ∧ Below w.heap.size w w' := by
  have hr32 : -2147483648 ≤ r ∧ r ≤ 2147483647 := by
    simp only [Lit.wf, IntKind.min, IntKind.max, IntKind.signed, IntKind.bits, Bool.and_eq_true] at w2
    simp at w2
    omega
  obtain ⟨x, hx, hx36⟩ := mod36 a
  obtain ⟨y, hy, hy36⟩ := mod36 b
  have hwx : IntKind.i64.wrap (x : Int) = (x : Int) := IntWalk.i64_in _ (by omega)
  have hwy : IntKind.i64.wrap (y : Int) = (y : Int) := IntWalk.i64_in _ (by omega)
  have hux : 0 ≤ IntKind.u64.wrap a := by unfold IntKind.wrap; simp [IntKind.signed, IntKind.bits]; omega
  have huy : 0 ≤ IntKind.u64.wrap b := by unfold IntKind.wrap; simp [IntKind.signed, IntKind.bits]; omega
  have hrx : wrap64 ((IntKind.u64.wrap a).tmod 36) = (x : Int) := by rw [Int.tmod_eq_emod_of_nonneg hux, hx]; unfold wrap64; omega
  have hry : wrap64 ((IntKind.u64.wrap b).tmod 36) = (y : Int) := by rw [Int.tmod_eq_emod_of_nonneg huy, hy]; unfold wrap64; omega
  clear hx hy hux huy hwx hwy
  have HSE := hid (fun c h0 h1 W => set_any c h0 h1 W)
  have HCL := hid (fun W => C4.class_any r W)
  have HAW := hid (fun W => C4.awake04_any W)
  clear w0 w1 w2
  by_cases hr : r < 0
  · have HC0 := hid (cls_out (.inl hr))
    go_enter Try.func4, Try.ntmps4
    go_wp2_with fail
    refine (HCL.out _).mono ?_
    rintro e w3 ⟨rfl, hb3⟩
    have HB3 := hid hb3
    clear hb3
    rw [HC0.out]
    go_wp2_with fail
    refine (HAW.out _).mono ?_
    rintro e w4 ⟨rfl, hb4⟩
    have HB4 := hid (HB3.out.trans (hb4.mono HB3.out.size))
    clear hb4
    go_wp2_with fail
    go_ret
    exact ⟨rfl, HB4.out⟩
  by_cases hr2 : 1114111 < r
  · have HC0 := hid (cls_out (.inr hr2))
    go_enter Try.func4, Try.ntmps4
    go_wp2_with fail
    refine (HCL.out _).mono ?_
    rintro e w3 ⟨rfl, hb3⟩
    have HB3 := hid hb3
    clear hb3
    rw [HC0.out]
    go_wp2_with fail
    refine (HAW.out _).mono ?_
    rintro e w4 ⟨rfl, hb4⟩
    have HB4 := hid (HB3.out.trans (hb4.mono HB3.out.size))
    clear hb4
    go_wp2_with fail
    go_ret
    exact ⟨rfl, HB4.out⟩
  obtain ⟨n, hn, hcn, hin⟩ := last_part r (by omega) (by omega)
  have HCN := hid hcn
  have HIN := hid hin
  have HSN := hid (setI_nat n hn)
  have HLN := hid (set_len n hn)
  have HRN := hid (in32_right (set_right n hn))
  have HSX := hid (setI_nat x hx36)
  have HSY := hid (setI_nat y hy36)
  have HLX := hid (set_len x hx36)
  have HLY := hid (set_len y hy36)
  have HRX := hid (set_right x hx36)
  have HRY := hid (set_right y hy36)
  have HAP := hid (fun h => sets_apart hx36 hy36 h)
  clear hcn hin
  go_enter Try.func4, Try.ntmps4
  by_cases hxy : x = y
  · have hxb : ((x : Int) != (y : Int)) = false := by simp [hxy]
    have hxb2 : ((x : Int) == (y : Int)) = true := by simp [hxy]
    clear hxy
    go_wp2_with fail
    refine (HCL.out _).mono ?_
    rintro e w3 ⟨rfl, hb3⟩
    have HB3 := hid hb3
    clear hb3
    rw [HCN.out]
    go_wp2_with fail
    refine (HSE.out (n : Int) (by omega) (by omega) w3).mono ?_
    rintro e w4 ⟨A4, n4, c4, rfl, hr4, hb4⟩
    rw [HSN.out] at hr4
    have HR4 := hid hr4
    have hn4 : n4 ≤ 1000000 := by have := hr4.1; have := HLN.out; omega
    have HB4 := hid (HB3.out.trans (hb4.mono HB3.out.size))
    clear hr4 hb4
    go_wp2_with fail
    refine (has_any A4 n4 c4 (setL n) r w4 HR4.out hn4 HRN.out hr32.1 hr32.2).mono ?_
    rintro e w5 ⟨rfl, hb5⟩
    rw [HIN.out]
    have HB5 := hid (HB4.out.trans (hb5.mono HB4.out.size))
    clear hb5
    go_wp2_with fail
    refine (HAW.out _).mono ?_
    rintro e w6 ⟨rfl, hb6⟩
    have HB6 := hid (HB5.out.trans (hb6.mono HB5.out.size))
    clear hb6
    go_wp2_with fail
    go_ret
    exact ⟨rfl, HB6.out⟩
  · have HA := hid (HAP.out hxy)
    have hxb : ((x : Int) != (y : Int)) = true := by simp; omega
    have hxb2 : ((x : Int) == (y : Int)) = false := by simp; omega
    clear hxy
    go_wp2_with fail
    refine (HSE.out (x : Int) (by omega) (by omega) w).mono ?_
    rintro e wa ⟨Aa, na, ca, rfl, hra, hba⟩
    rw [HSX.out] at hra
    have HRA := hid hra
    have hna : na ≤ 300000 := by have := hra.1; have := HLX.out; omega
    have HBA := hid hba
    clear hra hba
    go_wp2_with fail
    refine (HSE.out (y : Int) (by omega) (by omega) wa).mono ?_
    rintro e wb ⟨Ab, nb, cb, rfl, hrb, hbb⟩
    rw [HSY.out] at hrb
    have HRB := hid hrb
    have hnb : nb ≤ 300000 := by have := hrb.1; have := HLY.out; omega
    have HRA2 := hid (HRA.out.below hbb (Nat.le_refl _))
    have HBB := hid (HBA.out.trans (hbb.mono HBA.out.size))
    clear hrb hbb
    go_wp2_with fail
    refine (cut_any Aa na ca (setL x) Ab nb cb (setL y) wb HRA2.out HRB.out (by omega) (by omega) (in32_right HRX.out) (in32_right HRY.out)).mono ?_
    rintro e wc ⟨Ac, nc, cc, rfl, hrc, hbc⟩
    rw [knownL_of HRX.out, knownL_of HRY.out, HA.out] at hrc
    have HRC := hid hrc
    have hnc : nc ≤ 1000000 := by have := hrc.1; simp at this; omega
    have HBC := hid (HBB.out.trans (hbc.mono HBB.out.size))
    clear hrc hbc
    go_wp2_with fail
    refine (count_any Ac nc cc [] wc HRC.out hnc (fun x hx => by cases hx)).mono ?_
    rintro e wd ⟨rfl, hbd⟩
    have HBD := hid (HBC.out.trans (hbd.mono HBC.out.size))
    have hc0 : countR (knownL []) = 0 := rfl
    rw [hc0]
    clear hbd hc0
    go_wp2_with fail
    refine (HCL.out _).mono ?_
    rintro e w3 ⟨rfl, hb3⟩
    have HB3 := hid (HBD.out.trans (hb3.mono HBD.out.size))
    clear hb3
    rw [HCN.out]
    go_wp2_with fail
    refine (HSE.out (n : Int) (by omega) (by omega) w3).mono ?_
    rintro e w4 ⟨A4, n4, c4, rfl, hr4, hb4⟩
    rw [HSN.out] at hr4
    have HR4 := hid hr4
    have hn4 : n4 ≤ 1000000 := by have := hr4.1; have := HLN.out; omega
    have HB4 := hid (HB3.out.trans (hb4.mono HB3.out.size))
    clear hr4 hb4
    go_wp2_with fail
    refine (has_any A4 n4 c4 (setL n) r w4 HR4.out hn4 HRN.out hr32.1 hr32.2).mono ?_
    rintro e w5 ⟨rfl, hb5⟩
    rw [HIN.out]
    have HB5 := hid (HB4.out.trans (hb5.mono HB4.out.size))
    clear hb5
    go_wp2_with fail
    refine (HAW.out _).mono ?_
    rintro e w6 ⟨rfl, hb6⟩
    have HB6 := hid (HB5.out.trans (hb6.mono HB5.out.size))
    clear hb6
    go_wp2_with fail
    go_ret
    exact ⟨rfl, HB6.out⟩
end Go.Proofs.Ytbkjanlkklmleaa.propParts
