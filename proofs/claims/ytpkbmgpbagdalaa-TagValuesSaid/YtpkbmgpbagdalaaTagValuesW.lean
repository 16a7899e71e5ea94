/- The walk of the law TagValues. -/
import Derived.Test.YtpkbmgpbagdalaaTagArg
import Derived.Test.YtpkbmgpbagdalaaTagAwake
import Derived.Test.YtpkbmgpbagdalaaTagRR2
import Derived.Test.YtpkbmgpbagdalaaTagVal
import Derived.Test.YtpkbmgpbagdalaaTagRL
namespace Go.Proofs.Ytpkbmgpbagdalaa.tagValues
open Go.RowKit
open Go.Lib (hid)
set_option linter.unusedVariables false

set_option maxRecDepth 100000 in
set_option maxHeartbeats 8000000 in
theorem walk (a : Option Addr) (aLen aCap : Nat) (aD : List Int) (nm sx : ByteArray) (w : World) (w0 : IsRow .u8 w a aLen aCap aD) (w1 : nm.size ≤ maxLen) (w2 : sx.size ≤ maxLen) (hsh : w.ShapedOpen Try.prog) :
    Calls Try.prog 6 #[.slice a aLen aCap, .string nm, .string sx] w fun e w' => e = .returned (.bool true) ∧ Below w.heap.size w w' := by
  obtain ⟨m, hml⟩ := Try.laysM185.s1_3 w hsh
  have hml : w.cell? ⟨0, 0, none⟩ = some (.int .i64 m) := hml
  obtain ⟨s, hs⟩ := ba_of w0
  have haw := fun (W : World) (hb : Below w.heap.size w W) => awake_any m W ((hb.cell (p := ⟨0, 0, none⟩) (World.block_lt_of_cell? _ _ hml)).trans hml)
  have h0l : 0 < w.heap.size := World.block_lt_of_cell? _ _ hml
  have HML := hid hml
  have HAW := hid haw
  rename_i hmq
  clear w0 w1 w2 hsh hml haw hmq
  by_cases hbig : 200 < aLen ∨ 60 < nm.size ∨ 60 < sx.size
  · have hcases : (200 : Int) < (aLen : Int) ∨ ¬ (200 : Int) < (aLen : Int) ∧ (60 : Int) < (nm.size : Int) ∨ ¬ (200 : Int) < (aLen : Int) ∧ ¬ (60 : Int) < (nm.size : Int) ∧ (60 : Int) < (sx.size : Int) := by omega
    clear hs hbig
    rcases hcases with h1 | ⟨h1, h2⟩ | ⟨h1, h2, h3⟩
    all_goals
      go_enter Try.func6, Try.ntmps6
      go_wp2_with fail
      refine (HAW.out w (Below.refl _ _)).mono ?_
      rintro e w3 ⟨rfl, hb3⟩
      go_wp2_with fail
      go_ret
      exact ⟨rfl, hb3⟩
  have hbig1 : ¬ (200 : Int) < (aLen : Int) := by omega
  have hbig2 : ¬ (60 : Int) < (nm.size : Int) := by omega
  have hbig3 : ¬ (60 : Int) < (sx.size : Int) := by omega
  have hsx : sx.size ≤ 9223372036854775807 := by omega
  have hal200 : aLen ≤ 200 := by omega
  clear hbig
  have HS := hid hs
  clear hs
  go_enter Try.func6, Try.ntmps6
  go_wp2_with fail
  refine (HAW.out w (Below.refl _ _)).mono ?_
  rintro e w3 ⟨rfl, hb3⟩
  have HB3 := hid hb3
  have z3 := hb3.size
  clear hb3 HAW
  go_wp2_with fail
  have hs3 := HS.out.below HB3.out (Nat.le_refl _)
  have hm3 : w3.cell? ⟨0, 0, none⟩ = some (.int .i64 m) := (HB3.out.cell (p := ⟨0, 0, none⟩) h0l).trans HML.out
  refine (read_any w3 a aLen aCap 0 m s hs3.1 hs3.2.2.2 hs3.2.1 hs3.2.2.1 (by omega) (by decide) hm3).mono ?_
  rintro e w4 ⟨v4, rfl, hb4, ho4⟩
  clear hs3 hm3
  have hsm := (read_small s 0).2
  have hB4 := HB3.out.trans (hb4.mono z3)
  have hs4 := HS.out.below hB4 (Nat.le_refl _)
  have hrow4 := AtRow.of_own ho4
  have hal : (readV s 0).1.attrs.length ≤ 1048576 := by have := HS.out.1; omega
  obtain ⟨A1, c1, rfl, _⟩ := owns_form ho4
  have z4 := hb4.size
  have HB4 := hid hB4
  have HROW4 := hid hrow4
  have HAL := hid hal
  have href := refread_any
  generalize hR : readV s 0 = t1 at *
  have HR := hid hR
  clear hR
  obtain ⟨⟨kd1, sz1, nm1, at1, sg1, cl1⟩, ok1⟩ := t1
  simp only [Mk.val]
  simp only at ho4 hsm hal
  clear ho4 hb4 hB4 hsm hal hrow4 hs4
  go_upto_region 4 with fail
  have hbb5 : Below w4.heap.size w4 (w4.alloc (.cells #[.int .i64 kd1, .int .i64 sz1, .string nm1, .slice A1 at1.length c1, .bool sg1, .bool cl1] 26)) := (Below.refl _ _).alloc (Nat.le_refl _) _
  have hr5 := Blk.new w4 26 #[.int .i64 kd1, .int .i64 sz1, .string nm1, .slice A1 at1.length c1, .bool sg1, .bool cl1]
  generalize (w4.alloc (.cells #[.int .i64 kd1, .int .i64 sz1, .string nm1, .slice A1 at1.length c1, .bool sg1, .bool cl1] 26)) = w5 at *
  have hB5 := HB4.out.trans (hbb5.mono HB4.out.size)
  have hs5 := HS.out.below hB5 (Nat.le_refl _)
  have hrf := refread_any w5 a aLen aCap 0 s hs5.1 hs5.2.2.2 hs5.2.1 hs5.2.2.1 (by omega) (by decide)
  rw [HR.out] at hrf
  have HRF := hid hrf
  have HROW5 := hid (HROW4.out.below hbb5)
  have HR5 := hid hr5
  have HB5 := hid hB5
  clear hs5 hrf hr5 hB5 hbb5 href
  go_wp2_with fail
  refine HRF.out.mono ?_
  rintro e w6 ⟨v6, rfl, hb6, ho6⟩
  have hrow6 := AtRow.of_own ho6
  obtain ⟨A2, c2, rfl, _⟩ := owns_form ho6
  simp only [Mk.val]
  have hr6 := HR5.out.below hb6 HR5.out.lt
  have z6 := hb6.size
  have l6 := hr6.lt
  have k0 := hr6.cell 0
  have k1 := hr6.cell 1
  have k2 := hr6.cell 2
  have k3 := hr6.cell 3
  have k4 := hr6.cell 4
  have k5 := hr6.cell 5
  simp only [List.getElem?_toArray, List.getElem?_cons_zero, List.getElem?_cons_succ] at k0 k1 k2 k3 k4 k5
  have HB6 := hid (HB5.out.trans (hb6.mono HB5.out.size))
  have HRA := hid (HROW5.out.below hb6)
  have HRB := hid hrow6
  clear hr6 hrow6 ho6 hb6 HRF
  go_wp2_with fail
  have hbb7 := (Below.refl w6.heap.size w6).alloc (Nat.le_refl _) (.cells #[.int .i64 kd1, .int .i64 sz1, .string nm1, .slice A2 at1.length c2, .bool sg1, .bool cl1] 31)
  have hr7 := Blk.new w6 31 #[.int .i64 kd1, .int .i64 sz1, .string nm1, .slice A2 at1.length c2, .bool sg1, .bool cl1]
  generalize (w6.alloc (.cells #[.int .i64 kd1, .int .i64 sz1, .string nm1, .slice A2 at1.length c2, .bool sg1, .bool cl1] 31)) = w7 at *
  refine (tagvalue_any ⟨kd1, sz1, nm1, at1, sg1, cl1⟩ (.slice A1 at1.length c1) nm w7 (HRA.out.below hbb7) HAL.out).mono ?_
  rintro e w8 ⟨rfl, hb8⟩
  simp only
  have HB8 := hid ((HB6.out.trans (hbb7.mono HB6.out.size)).trans (hb8.mono (by have := HB6.out.size; have := hbb7.size; omega)))
  have c3 := (hr7.below hb8 hr7.lt).cell 3
  simp only [List.getElem?_toArray, List.getElem?_cons_zero, List.getElem?_cons_succ] at c3
  have hrw := (HRB.out.below hbb7).below hb8
  have hlk : look nm at1 = ((look nm at1).1, (look nm at1).2) := rfl
  generalize (look nm at1).1 = fs at hlk ⊢
  generalize (look nm at1).2 = fb at hlk ⊢
  have HLK := hid hlk
  obtain ⟨A', cc', hA, _, hrr⟩ := hrw
  injection hA with hA1 _ hA2
  subst hA1 hA2
  have HRR := hid hrr
  clear hrr hlk hb8 hr7 hbb7 k0 k1 k2 k3 k4 k5 HRA HRB HROW4 HROW5 HR5
  have hal' := HAL.out
  have hend := look_end nm at1 at1.length (Nat.le_refl _)
  generalize hL : at1.length = L at *
  have HL := hid hL
  have HEND := hid hend
  clear hL hend
  have hz0 : ((L : Int) - 1) + 1 = (L : Int) := by omega
  have HZ0 := hid hz0
  clear hz0
  have hL1 : -9223372036854775808 ≤ (L : Int) - 1 ∧ (L : Int) - 1 ≤ 9223372036854775807 := by omega
  go_wp2_with fail
  go_loopg [13, 14, 15] (L + 1) (fun kx s13 s14 s15 wr => ∃ (i q : Nat) (z : Int) (x : ByteArray) (bx : Bool), s13 = .string x ∧ s14 = .bool bx ∧ s15 = .int .i64 z ∧ wr = w8.drewN q ∧ i ≤ L ∧ i ≤ kx ∧ Hid (z + 1 = i) ∧ Hid (look nm (at1.drop i) = (x, bx)))
  case atStart => exact ⟨L, 0, (L : Int) - 1, ⟨#[]⟩, false, rfl, rfl, rfl, rfl, Nat.le_refl _, by omega, HZ0, HEND⟩
  case round =>
    obtain ⟨i, q, z, x, bx, rfl, rfl, rfl, rfl, hi, hk, HZI, HX⟩ := hrel
    by_cases hlt : 0 < i
    · obtain ⟨i, rfl⟩ : ∃ k, i = k + 1 := ⟨i - 1, by omega⟩
      obtain rfl : z = (i : Int) := by have := HZI.out; omega
      have h0 : (0 : Int) ≤ (i : Int) := by omega
      have hilt : (i : Int) < (L : Int) := by omega
      have hiL : i < L := by omega
      obtain ⟨b, off, rfl, hbl, hcell⟩ := HRR.out (by omega)
      have hil : i < at1.length := by have := HL.out; omega
      obtain ⟨n1, v1⟩ := hcell i _ (List.getElem?_eq_getElem hil)
      have hhit := look_hit nm at1 i hil
      have hnext := look_next nm at1 i hil
      rw [HX.out] at hnext
      have HIT := hid hhit
      have HNEXT := hid hnext
      generalize at1[i] = at_ at *
      obtain ⟨an, av⟩ := at_
      simp only at n1 v1
      have hi1 : -9223372036854775808 ≤ (i : Int) - 1 := by omega
      have hi2 : (i : Int) - 1 ≤ 9223372036854775807 := by omega
      have HZN : Hid (((i : Int) - 1) + 1 = (i : Int)) := by show _ = _; omega
      clear hcell hhit hnext hlt
      cases he : (an.toList == nm.toList)
      · have HE := hid he
        go_wp2_with fail
        go_roundg i
        case measure => omega
        case rel => exact ⟨i, q, (i : Int) - 1, x, bx, rfl, rfl, rfl, rfl, by omega, Nat.le_refl _, HZN, HNEXT.out HE.out⟩
      · have HE := hid he
        go_wp2_with fail
        go_roundg i
        case measure => omega
        case rel => exact ⟨i, q, (i : Int) - 1, av, true, rfl, rfl, rfl, rfl, by omega, Nat.le_refl _, HZN, HIT.out HE.out⟩
    · obtain rfl : i = 0 := by omega
      obtain rfl : z = -1 := by have := HZI.out; omega
      have hx : (fs, fb) = (x, bx) := by rw [← HLK.out, ← HX.out, List.drop_zero]
      injection hx with hx1 hx2
      subst hx1 hx2
      clear hlt
      go_wp2_with fail
      refine (lower_any sx hsx _).mono ?_
      rintro e w9 ⟨rfl, hb9⟩
      go_wp2_with fail
      refine (rlower_any sx hsx _).mono ?_
      rintro e w10 ⟨rfl, hb10⟩
      have HBF := hid ((HB8.out.trans (below_drewN _ _ _)).trans ((hb9.mono (by have := HB8.out.size; simpa using this)).trans (hb10.mono (by have := HB8.out.size; have := hb9.size; simp at this; omega))))
      go_wp2_with fail
      go_ret
      exact ⟨rfl, HBF.out⟩
end Go.Proofs.Ytpkbmgpbagdalaa.tagValues
