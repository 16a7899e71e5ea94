/- The walk of the law AnsiReads. -/
import Derived.Test.YtlopigkaibkblaaDoorAnAwake
import Derived.Test.YtlopigkaibkblaaDoorAnN
namespace Go.Proofs.YtlopigkaibkblaaDoor.ansiReads
open Go.RowKit
open Go.Lib (hid)
set_option linter.unusedVariables false

set_option maxRecDepth 100000 in
set_option maxHeartbeats 8000000 in
theorem walk (a : Option Addr) (aLen aCap : Nat) (aD : List Int) (at_ : Int) (w : World) (w0 : IsRow .u8 w a aLen aCap aD) (w1 : (Lit.int .i64 at_).wf = true) (hsh : w.ShapedOpen Tryd.prog)
    (pe : Value) (hev : w.cell? ⟨Tryd.laysC172_ren.g 15, 0, none⟩ = some (.iface 120 pe)) :
    Calls Tryd.prog 3 #[.slice a aLen aCap, .int .i64 at_] w fun e w' => e = .returned (.bool true) ∧ Below w.heap.size w w' := by
  obtain ⟨m, hml⟩ := Tryd.laysM146.s1_3 w hsh
  have hml : w.cell? ⟨0, 0, none⟩ = some (.int .i64 m) := hml
  have h0l := World.block_lt_of_cell? _ _ hml
  have hgl := World.block_lt_of_cell? _ _ hev
  obtain ⟨s, hs⟩ := ba_of w0
  have hi63 : at_ ≤ 9223372036854775807 := by
    simp only [Lit.wf, IntKind.min, IntKind.max, IntKind.signed, IntKind.bits, Bool.and_eq_true] at w1
    simp at w1
    omega
  have haw := awake_any m _ pe w hml hev
  have HAW := hid haw
  have HML := hid hml
  have HEV := hid hev
  clear w0 w1 hsh hml hev haw
  by_cases hbig : 200 < aLen
  · have hbig' : (200 : Int) < (aLen : Int) := by omega
    clear hs
    go_enter Tryd.func3, Tryd.ntmps3
    go_wp2_with fail
    refine HAW.out.mono ?_
    rintro e w3 ⟨rfl, hb3⟩
    go_wp2_with fail
    go_ret
    exact ⟨rfl, hb3⟩
  have hbig' : ¬ (200 : Int) < (aLen : Int) := by omega
  have HS := hid hs
  clear hs
  go_enter Tryd.func3, Tryd.ntmps3
  go_wp2_with fail
  refine HAW.out.mono ?_
  rintro e w3 ⟨rfl, hb3⟩
  have HB3 := hid hb3
  clear hb3 HAW
  go_wp2_with fail
  refine (read_any a aLen aCap at_ s w3 (HS.out.below HB3.out (Nat.le_refl _)) (by omega) hi63).mono ?_
  rintro e w4 ⟨rfl, hb4⟩
  have HB4 := hid (HB3.out.trans (hb4.mono HB3.out.size))
  clear hb4
  have href := refread_any a aLen aCap at_ s w4 (HS.out.below HB4.out (Nat.le_refl _)) (by omega) hi63
  generalize readE s at_ = e at *
  obtain ⟨z, wh, op, la⟩ := e
  simp only [Es.val] at href ⊢
  have HREF := hid href
  clear href
  go_wp2_with fail
  refine HREF.out.mono ?_
  rintro e w5 ⟨rfl, hb5⟩
  have HB5 := hid (HB4.out.trans (hb5.mono HB4.out.size))
  have hb6 := (Below.refl w5.heap.size w5).alloc (Nat.le_refl _) (.cells #[.int .i64 z, .bool wh, .bool op, .int .u8 la] 25)
  have hr6 := Blk.new w5 25 #[.int .i64 z, .bool wh, .bool op, .int .u8 la]
  have hz6 : (w5.alloc (.cells #[.int .i64 z, .bool wh, .bool op, .int .u8 la] 25)).heap.size = w5.heap.size + 1 := by simp
  have hb7 := (Below.refl _ (w5.alloc (.cells #[.int .i64 z, .bool wh, .bool op, .int .u8 la] 25))).alloc (Nat.le_refl _) (.cells #[.int .i64 z, .bool wh, .bool op, .int .u8 la] 27)
  have hq7 := Blk.new (w5.alloc (.cells #[.int .i64 z, .bool wh, .bool op, .int .u8 la] 25)) 27 #[.int .i64 z, .bool wh, .bool op, .int .u8 la]
  have hr7 := hr6.below hb7 hr6.lt
  have HB7 := hid ((HB5.out.trans (hb6.mono HB5.out.size)).trans (hb7.mono (by have := HB5.out.size; omega)))
  rw [hz6] at hq7
  clear hb5 hb6 hr6 HREF
  go_upto_region 4 with fail
  generalize ((w5.alloc (.cells #[.int .i64 z, .bool wh, .bool op, .int .u8 la] 25)).alloc (.cells #[.int .i64 z, .bool wh, .bool op, .int .u8 la] 27)) = w7 at *
  clear hb7 hz6
  have HR7 := hid hr7
  have HQ7 := hid hq7
  clear hr7 hq7
  go_wp2_with fail
  refine (nums_any a aLen aCap at_ s m _ pe w7 (HS.out.below HB7.out (Nat.le_refl _)) (by omega) hi63 ((HB7.out.cell (p := ⟨0, 0, none⟩) h0l).trans HML.out) ((HB7.out.cell (p := ⟨Tryd.laysC172_ren.g 15, 0, none⟩) hgl).trans HEV.out)).mono ?_
  rintro e w8 ⟨v8, rfl, hb8, ho8⟩
  have HB8 := hid (HB7.out.trans (hb8.mono HB7.out.size))
  have hrn := refnums_any a aLen aCap at_ s w8 (HS.out.below HB8.out (Nat.le_refl _)) (by omega) hi63
  have HR8 := hid (HR7.out.below hb8 HR7.out.lt)
  have HQ8 := hid (HQ7.out.below hb8 HQ7.out.lt)
  generalize numsV s at_ = nv at *
  obtain ⟨l, hl⟩ : ∃ l, l = nv.getD [] := ⟨_, rfl⟩
  rw [← hl] at ho8 hrn
  generalize nv.isSome = ok at *
  clear hl
  obtain ⟨A8, c8, rfl, hx1, hx2, hcc8⟩ := owns_form ho8
  generalize hL : l.length = L at *
  have HL := hid hL
  have HLM := hid (Nat.le_trans hx1 hx2)
  have HRN := hid hrn
  have HCC8 := hid hcc8
  clear hL hrn hcc8 hx1 hx2 ho8 hb8
  go_wp2_with fail
  refine HRN.out.mono ?_
  rintro e w9 ⟨v9, rfl, hb9, ho9⟩
  have HB9 := hid (HB8.out.trans (hb9.mono HB8.out.size))
  obtain ⟨A9, c9, rfl, hx1, hx2, hcc9⟩ := owns_form ho9
  have HCC9 := hid hcc9
  have HX9 := hid hb9
  have hr9 := HR8.out.below hb9 HR8.out.lt
  have hq9 := HQ8.out.below hb9 HQ8.out.lt
  have k0 := hr9.cell 0
  have k1 := hr9.cell 1
  have k2 := hr9.cell 2
  have k3 := hr9.cell 3
  have q0 := hq9.cell 0
  have q1 := hq9.cell 1
  have q2 := hq9.cell 2
  have q3 := hq9.cell 3
  simp only [List.getElem?_toArray, List.getElem?_cons_zero, List.getElem?_cons_succ] at k0 k1 k2 k3 q0 q1 q2 q3
  clear hcc9 hx1 hx2 ho9 hb9 hr9 hq9 HRN
  go_wp2_with fail
  go_loopw [11] (fun s11 wr => ∃ (i q : Nat), s11 = .int .i64 i ∧ wr = w9.drewN q ∧ i ≤ L) (fun s11 _ => L - (intOf s11).toNat)
  case atStart => exact ⟨0, 0, rfl, rfl, Nat.zero_le _⟩
  case round =>
    obtain ⟨i, q, rfl, rfl, hi⟩ := hrel
    by_cases hlt : i < L
    · have hlt' : (i : Int) < (L : Int) := by omega
      obtain ⟨g8, rfl, _, hg8, hcell8⟩ := HCC8.out (by omega)
      obtain ⟨g9, rfl, _, hg9, hcell9⟩ := HCC9.out (by omega)
      have hil : i < l.length := by have := HL.out; omega
      have e8 : w9.cell? ⟨g8, i, none⟩ = some (.int .i64 l[i]) := by
        rw [HX9.out.cell (p := ⟨g8, i, none⟩) hg8, hcell8 i (by omega)]
        simp [intCells, List.getElem?_eq_getElem hil]
      have e9 : w9.cell? ⟨g9, i, none⟩ = some (.int .i64 l[i]) := by
        rw [hcell9 i (by omega)]
        simp [intCells, List.getElem?_eq_getElem hil]
      generalize l[i] = y at *
      have hi1 : (i : Int) + 1 ≤ 9223372036854775807 := by have := HLM.out; unfold maxLen at this; omega
      clear hcell8 hcell9
      go_wp2_with fail
      go_quiet (fail)
      go_wp2_with fail
      go_roundw
      case rel => exact ⟨i + 1, _, by go_num, rfl, by omega⟩
      case measure => simp [intOf]; omega
    · have hlt' : ¬ (i : Int) < (L : Int) := by omega
      go_wp2_with fail
      go_ret
      exact ⟨rfl, HB9.out.trans (below_drewN _ _ _)⟩
end Go.Proofs.YtlopigkaibkblaaDoor.ansiReads
