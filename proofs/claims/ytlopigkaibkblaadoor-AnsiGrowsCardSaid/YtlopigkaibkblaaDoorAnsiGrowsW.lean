/- The walk of the law AnsiGrows. -/
import Derived.Test.YtlopigkaibkblaaDoorAnAwake
import Derived.Test.YtlopigkaibkblaaDoorAnG
namespace Go.Proofs.YtlopigkaibkblaaDoor.ansiGrows
open Go.RowKit
open Go.Lib (hid)
set_option linter.unusedVariables false

set_option maxRecDepth 100000 in
set_option maxHeartbeats 8000000 in
theorem walk (a : Option Addr) (aLen aCap : Nat) (aD : List Int) (b : Option Addr) (bLen bCap : Nat) (bD : List Int) (w : World) (w0 : IsRow .u8 w a aLen aCap aD) (w1 : IsRow .u8 w b bLen bCap bD) (hsh : w.ShapedOpen Tryd.prog)
    (pe : Value) (hev : w.cell? ⟨Tryd.laysC172_ren.g 15, 0, none⟩ = some (.iface 120 pe)) :
    Calls Tryd.prog 4 #[.slice a aLen aCap, .slice b bLen bCap] w fun e w' => e = .returned (.bool true) ∧ Below w.heap.size w w' := by
  obtain ⟨m, hml⟩ := Tryd.laysM146.s1_3 w hsh
  have hml : w.cell? ⟨0, 0, none⟩ = some (.int .i64 m) := hml
  obtain ⟨s, hs⟩ := ba_of w0
  obtain ⟨r, hr⟩ := ba_of w1
  have haw := awake_any m _ pe w hml hev
  have HAW := hid haw
  clear w0 w1 hsh hml hev haw
  by_cases hbig : 100 < aLen
  · have hbig' : (100 : Int) < (aLen : Int) := by omega
    clear hs hr
    go_enter Tryd.func4, Tryd.ntmps4
    go_wp2_with fail
    refine HAW.out.mono ?_
    rintro e w3 ⟨rfl, hb3⟩
    go_wp2_with fail
    go_ret
    exact ⟨rfl, hb3⟩
  have hbig' : ¬ (100 : Int) < (aLen : Int) := by omega
  by_cases hbig2 : 60 < bLen
  · have hbig2' : (60 : Int) < (bLen : Int) := by omega
    clear hs hr
    go_enter Tryd.func4, Tryd.ntmps4
    go_wp2_with fail
    refine HAW.out.mono ?_
    rintro e w3 ⟨rfl, hb3⟩
    go_wp2_with fail
    go_ret
    exact ⟨rfl, hb3⟩
  have hbig2' : ¬ (60 : Int) < (bLen : Int) := by omega
  have HS := hid hs
  have HR := hid hr
  clear hs hr
  go_enter Tryd.func4, Tryd.ntmps4
  go_wp2_with fail
  refine HAW.out.mono ?_
  rintro e w3 ⟨rfl, hb3⟩
  have HB3 := hid hb3
  have z3 := hb3.size
  clear hb3 HAW
  go_wp2_with fail
  refine (read_any a aLen aCap 0 s w3 (HS.out.below HB3.out (Nat.le_refl _)) (by omega) (by decide)).mono ?_
  rintro e w4 ⟨rfl, hb4⟩
  have hG := esc_grows (Pre.left s r)
  rw [← HS.out.1] at hG
  generalize readE s 0 = e1 at hG ⊢
  obtain ⟨z1, wh1, op1, la1⟩ := e1
  simp only [Es.val]
  have HG := hid hG
  have HB4 := hid (HB3.out.trans (hb4.mono z3))
  clear hG hb4 z3
  go_upto_region 4 with fail
  have hb5 := HB4.out.alloc HB4.out.size (.cells #[.int .i64 z1, .bool wh1, .bool op1, .int .u8 la1] 25)
  have hr5 := Blk.new w4 25 #[.int .i64 z1, .bool wh1, .bool op1, .int .u8 la1]
  generalize (w4.alloc (.cells #[.int .i64 z1, .bool wh1, .bool op1, .int .u8 la1] 25)) = w5 at *
  have HB5 := hid hb5
  have HR5 := hid hr5
  have HS5 := hid (HS.out.below hb5 (Nat.le_refl _)).reads
  have HR5r := hid (HR.out.below hb5 (Nat.le_refl _)).reads
  have HO1 := hid (u8s_one s)
  have HO2 := hid (u8s_one r)
  obtain ⟨i0, hi, hz0, hz1, hz2⟩ := info_parts info_u8
  clear hb5 hr5
  go_wp2_with (first
    | (at_builtin; refine wpList_append_any _ rfl (.tmp 22) (.tmp 23) 22 rfl w5.heap.size 5 i0 (.int .u8 0) 1 1 Tryd.underlying22 hi hz0 hz1 hz2 rfl (by decide) _ 0 [] rfl (owns_empty w5 _ 1) w5.heap.size a aLen aCap _ rfl (HS5.out.alloc (Nat.le_refl _) _) HO1.out (by unfold maxLen; omega) (by omega) (by simp) ?_; intro v6 w6 ho6 hg6 hl6; have hb6 : Below w5.heap.size w5 w6 := ((Below.refl _ w5).alloc (Nat.le_refl _) _).grown hg6 (by simp) (own_ge (owns_empty w5 5 1)))
    | (at_builtin; go_must (refine wpList_append_any _ rfl (.tmp 24) (.tmp 25) 22 rfl w5.heap.size 5 i0 (.int .u8 0) 1 1 Tryd.underlying22 hi hz0 hz1 hz2 rfl (by decide) v6 (0 + aLen) ([] ++ u8s s) rfl ho6 w5.heap.size b bLen bCap _ rfl (HR5r.out.below hb6) HO2.out (by unfold maxLen; omega) (by omega) hb6.size ?_); intro v7 w7 ho7 hg7 hl7; have hb7 : Below w5.heap.size w5 w7 := hb6.grown hg7 hb6.size (own_ge ho6)))
  obtain ⟨A7, c7, rfl⟩ := owns_slice ho7
  have hba : BA w7 A7 (0 + aLen + bLen) c7 (s ++ r) := BA.of_own (by rw [u8s_append]; simpa using ho7)
  have HB7 := hid (HB5.out.trans (hb7.mono HB5.out.size))
  have HR7 := hid (HR5.out.below hb7 HR5.out.lt)
  clear ho7 hg7 hl7 hb7 ho6 hg6 hl6 hb6 HS5 HR5r HO1 HO2 hi hz0 hz1 hz2 HR5
  refine (read_any A7 (0 + aLen + bLen) c7 0 (s ++ r) w7 hba (by omega) (by decide)).mono ?_
  rintro e w8 ⟨rfl, hb8⟩
  have hG := HG.out
  generalize readE (s ++ r) 0 = e2 at hG ⊢
  obtain ⟨z2, wh2, op2, la2⟩ := e2
  simp only [Es.val]
  simp only at hG
  have hr8 := HR7.out.below hb8 HR7.out.lt
  have HB8 := hid (HB7.out.trans (hb8.mono HB7.out.size))
  have hb9 := (Below.refl w8.heap.size w8).alloc (Nat.le_refl _) (.cells #[.int .i64 z2, .bool wh2, .bool op2, .int .u8 la2] 25)
  have hq9 := Blk.new w8 25 #[.int .i64 z2, .bool wh2, .bool op2, .int .u8 la2]
  have hr9 := hr8.below hb9 hr8.lt
  have HB9 := hid (HB8.out.trans (hb9.mono HB8.out.size))
  clear HG hba hb8 hr8 hb9
  go_upto_region 5 with fail
  generalize w8.alloc (.cells #[.int .i64 z2, .bool wh2, .bool op2, .int .u8 la2] 25) = w9 at *
  have k0 := hr9.cell 0
  have k1 := hr9.cell 1
  have k2 := hr9.cell 2
  have k3 := hr9.cell 3
  have q0 := hq9.cell 0
  have q1 := hq9.cell 1
  have q2 := hq9.cell 2
  have q3 := hq9.cell 3
  simp only [List.getElem?_toArray, List.getElem?_cons_zero, List.getElem?_cons_succ] at k0 k1 k2 k3 q0 q1 q2 q3
  clear hr9 hq9
  rcases hG with ⟨h1, h2⟩ | ⟨h1, h2⟩
  · obtain rfl : z1 = 0 := h1
    by_cases h3 : aLen = 0
    · subst h3
      clear h2
      go_wp2_with fail
      go_ret
      exact ⟨rfl, HB9.out⟩
    · obtain rfl : z2 = 0 := h2.resolve_left h3
      have h3' : ¬ (aLen : Int) = 0 := by omega
      have h3b : ((aLen : Int) == 0) = false := by simpa using h3'
      clear h2
      go_wp2_with fail
      go_ret
      exact ⟨rfl, HB9.out⟩
  · have h1' : ¬ (z1 : Int) = 0 := by omega
    have h1b : ((z1 : Int) == 0) = false := by simpa using h1'
    rcases h2 with ⟨h3, h4⟩ | ⟨h3, h4, h5⟩
    · obtain rfl : op1 = false := h3
      injection h4 with g1 g2 g3 g4
      subst g1 g2 g3 g4
      go_wp2_with fail
      go_ret
      exact ⟨rfl, HB9.out⟩
    · obtain rfl : op1 = true := h3
      obtain rfl : z1 = aLen := h4
      have h6 : (z1 : Int) ≤ (z2 : Int) := by omega
      clear h5
      go_wp2_with fail
      go_ret
      exact ⟨rfl, HB9.out⟩
end Go.Proofs.YtlopigkaibkblaaDoor.ansiGrows
