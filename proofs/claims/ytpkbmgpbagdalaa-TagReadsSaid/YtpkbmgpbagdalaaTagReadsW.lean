/- The walk of the law TagReads. -/
import Derived.Test.YtpkbmgpbagdalaaTagArg
import Derived.Test.YtpkbmgpbagdalaaTagAwake
import Derived.Test.YtpkbmgpbagdalaaTagRR2
namespace Go.Proofs.Ytpkbmgpbagdalaa.tagReads
open Go.RowKit
open Go.Lib (hid)
set_option linter.unusedVariables false

set_option maxRecDepth 100000 in
set_option maxHeartbeats 8000000 in
theorem walk (a : Option Addr) (aLen aCap : Nat) (aD : List Int) (at_ : Int) (w : World) (w0 : IsRow .u8 w a aLen aCap aD) (w1 : (Lit.int .i64 at_).wf = true) (hsh : w.ShapedOpen Try.prog) :
    Calls Try.prog 3 #[.slice a aLen aCap, .int .i64 at_] w fun e w' => e = .returned (.bool true) ∧ Below w.heap.size w w' := by
  obtain ⟨m, hml⟩ := Try.laysM185.s1_3 w hsh
  have hml : w.cell? ⟨0, 0, none⟩ = some (.int .i64 m) := hml
  obtain ⟨s, hs⟩ := ba_of w0
  have haw := fun (W : World) (hb : Below w.heap.size w W) => awake_any m W ((hb.cell (p := ⟨0, 0, none⟩) (World.block_lt_of_cell? _ _ hml)).trans hml)
  have h0l : 0 < w.heap.size := World.block_lt_of_cell? _ _ hml
  have hi63 : at_ ≤ 9223372036854775807 := by
    simp only [Lit.wf, IntKind.min, IntKind.max, IntKind.signed, IntKind.bits, Bool.and_eq_true] at w1
    simp at w1
    omega
  have HML := hid hml
  have HAW := hid haw
  rename_i hmq
  clear w0 w1 hsh hml haw hmq
  by_cases hbig : 200 < aLen
  · have hbig' : (200 : Int) < (aLen : Int) := by omega
    clear hs
    go_enter Try.func3, Try.ntmps3
    go_wp2_with fail
    refine (HAW.out w (Below.refl _ _)).mono ?_
    rintro e w3 ⟨rfl, hb3⟩
    go_wp2_with fail
    go_ret
    exact ⟨rfl, hb3⟩
  have hbig' : ¬ (200 : Int) < (aLen : Int) := by omega
  have HS := hid hs
  clear hs
  go_enter Try.func3, Try.ntmps3
  go_wp2_with fail
  refine (HAW.out w (Below.refl _ _)).mono ?_
  rintro e w3 ⟨rfl, hb3⟩
  have HB3 := hid hb3
  have z3 := hb3.size
  clear hb3 HAW
  go_wp2_with fail
  have hs3 := HS.out.below HB3.out (Nat.le_refl _)
  have hm3 : w3.cell? ⟨0, 0, none⟩ = some (.int .i64 m) := (HB3.out.cell (p := ⟨0, 0, none⟩) h0l).trans HML.out
  refine (read_any w3 a aLen aCap at_ m s hs3.1 hs3.2.2.2 hs3.2.1 hs3.2.2.1 (by omega) hi63 hm3).mono ?_
  rintro e w4 ⟨v4, rfl, hb4, ho4⟩
  clear hs3 hm3
  have hsm := (read_small s at_).2
  have hB4 := HB3.out.trans (hb4.mono z3)
  have hs4 := HS.out.below hB4 (Nat.le_refl _)
  have hrow4 := AtRow.of_own ho4
  have hal : (readV s at_).1.attrs.length ≤ 1048576 := by have := HS.out.1; omega
  obtain ⟨A1, c1, rfl, _⟩ := owns_form ho4
  have z4 := hb4.size
  have HB4 := hid hB4
  have HROW4 := hid hrow4
  have HAL := hid hal
  have href := refread_any
  generalize hR : readV s at_ = t1 at *
  have HR := hid hR
  clear hR
  obtain ⟨⟨kd1, sz1, nm1, at1, sg1, cl1⟩, ok1⟩ := t1
  simp only [Mk.val]
  simp only at ho4 hsm hal
  clear ho4 hb4 hB4 hsm hal hrow4 hs4
  go_upto_region 4 with fail
  have hbb5 : Below w4.heap.size w4 (w4.alloc (.cells #[.int .i64 kd1, .int .i64 sz1, .string nm1, .slice A1 at1.length c1, .bool sg1, .bool cl1] 26)) := (Below.refl _ _).alloc (Nat.le_refl _) _
  have hr5 := Blk.new w4 26 #[.int .i64 kd1, .int .i64 sz1, .string nm1, .slice A1 at1.length c1, .bool sg1, .bool cl1]
  generalize (w4.alloc (.cells #[.int .i64 kd1, .int .i64 sz1, .string nm1, .slice A1 at1.length c1, .bool sg1, .bool cl1] 26)) = w5 at *
  have hB5 := HB4.out.trans (hbb5.mono HB4.out.size)
  have hs5 := HS.out.below hB5 (Nat.le_refl _)
  have hrf := refread_any w5 a aLen aCap at_ s hs5.1 hs5.2.2.2 hs5.2.1 hs5.2.2.1 (by omega) hi63
  rw [HR.out] at hrf
  have HRF := hid hrf
  have HROW5 := hid (HROW4.out.below hbb5)
  have HR5 := hid hr5
  have HB5 := hid hB5
  clear hs5 hrf hr5 hB5 hbb5 href
  go_wp2_with fail
  refine HRF.out.mono ?_
  rintro e w6 ⟨v6, rfl, hb6, ho6⟩
  have hrow6 := AtRow.of_own ho6
  obtain ⟨A2, c2, rfl, _⟩ := owns_form ho6
  simp only [Mk.val]
  have hr6 := HR5.out.below hb6 HR5.out.lt
  have z6 := hb6.size
  have l6 := hr6.lt
  have k0 := hr6.cell 0
  have k1 := hr6.cell 1
  have k2 := hr6.cell 2
  have k3 := hr6.cell 3
  have k4 := hr6.cell 4
  have k5 := hr6.cell 5
  simp only [List.getElem?_toArray, List.getElem?_cons_zero, List.getElem?_cons_succ] at k0 k1 k2 k3 k4 k5
  have HB6 := hid (HB5.out.trans (hb6.mono HB5.out.size))
  have HRA := hid (HROW5.out.below hb6)
  have HRB := hid hrow6
  clear hr6 hrow6 ho6 hb6 HRF
  go_wp2_with fail
  have hbb7 := (Below.refl w6.heap.size w6).alloc (Nat.le_refl _) (.cells #[.int .i64 kd1, .int .i64 sz1, .string nm1, .slice A2 at1.length c2, .bool sg1, .bool cl1] 31)
  refine (alike_any ⟨kd1, sz1, nm1, at1, sg1, cl1⟩ (.slice A1 at1.length c1) (.slice A2 at1.length c2) _ (HRA.out.below hbb7) (HRB.out.below hbb7) HAL.out).mono ?_
  rintro e w8 ⟨rfl, hb8⟩
  have hB8 := (HB6.out.trans (hbb7.mono HB6.out.size)).trans (hb8.mono (by have := HB6.out.size; simp; omega))
  clear hbb7 hb8
  go_wp2_with fail
  go_ret
  exact ⟨rfl, hB8⟩
end Go.Proofs.Ytpkbmgpbagdalaa.tagReads
