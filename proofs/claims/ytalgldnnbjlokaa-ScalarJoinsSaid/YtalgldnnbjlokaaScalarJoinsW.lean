/- The walk of the law ScalarJoins. -/
import Derived.Test.YtalgldnnbjlokaaProg
import Derived.Test.YtalgldnnbjlokaaAwake01
import Derived.Test.YtalgldnnbjlokaaAll
import Derived.Test.YtalgldnnbjlokaaStarts
import Derived.Test.YtalgldnnbjlokaaValid
import Derived.Test.YtalgldnnbjlokaaOpenSB
import Derived.Test.YtalgldnnbjlokaaSame
import Derived.Test.YtalgldnnbjlokaaWords
import Derived.Test.YtalgldnnbjlokaaPcsJoin
namespace Go.Proofs.Ytalgldnnbjlokaa.scalarJoins
open Go.RowKit
open Go.Lib (hid)
set_option linter.unusedVariables false

theorem info_u8 : (Try.prog.info? 5).map (fun i => (i.zero, i.size, i.bytes)) = some (some (.int .u8 0), 1, 1) := by kernel_rfl

set_option maxRecDepth 100000 in
set_option maxHeartbeats 8000000 in
theorem walk (a : Option Addr) (aLen aCap : Nat) (aD : List Int) (b : Option Addr) (bLen bCap : Nat) (bD : List Int) (w : World) (w0 : IsRow .u8 w a aLen aCap aD) (w1 : IsRow .u8 w b bLen bCap bD) :
    Calls Try.prog 5 #[.slice a aLen aCap, .slice b bLen bCap] w fun e w' => e = .returned (.bool true) ∧ Below w.heap.size w w' := by
  obtain ⟨xs, rfl, hs⟩ := sb_of w0
  obtain ⟨ys, rfl, ht⟩ := sb_of w1
  clear w0 w1
  have hcap := hs.2.1
  have hcap2 := ht.2.1
  have hl0 := hs.1
  have ht0 := ht.1
  by_cases hbig : 200 < xs.length
  · have hbig' : (200 : Int) < (xs.length : Int) := by omega
    clear hs ht
    go_enter Try.func5, Try.ntmps5
    go_wp2_with (go_at_call 7; refine (awake01_any _).mono ?_; rintro e w3 ⟨rfl, hb3⟩)
    go_ret
    exact ⟨rfl, by assumption⟩
  have hbig' : ¬ (200 : Int) < (xs.length : Int) := by omega
  by_cases hbig2 : 200 < ys.length
  · have hbig2' : (200 : Int) < (ys.length : Int) := by omega
    clear hs ht
    go_enter Try.func5, Try.ntmps5
    go_wp2_with (go_at_call 7; refine (awake01_any _).mono ?_; rintro e w3 ⟨rfl, hb3⟩)
    go_ret
    exact ⟨rfl, by assumption⟩
  have hbig2' : ¬ (200 : Int) < (ys.length : Int) := by omega
  have HS := hid hs
  have HT := hid ht
  clear hs ht
  go_enter Try.func5, Try.ntmps5
  go_wp2_with fail
  refine (awake01_any _).mono ?_
  rintro e w1 ⟨rfl, hb1⟩
  have HB1 := hid hb1
  have z1 := hb1.size
  clear hb1
  go_wp2_with fail
  refine (valid_any a aCap xs _ (HS.out.below HB1.out (Nat.le_refl _))).mono ?_
  rintro e w2 ⟨rfl, hb2⟩
  have HB2 := hid (HB1.out.trans (hb2.mono z1))
  have z2 := HB2.out.size
  clear hb2 HB1
  cases hv : validF xs
  · have hpos : 0 < (pcs xs).length := by
      rcases Nat.eq_zero_or_pos (pcs xs).length with h | h
      · rw [validF, List.eq_nil_of_length_eq_zero h] at hv; cases hv
      · exact h
    have hpos' : (0 : Int) < ((pcs xs).length : Int) := by omega
    clear hv
    go_wp2_with fail
    refine (count_any a aCap xs _ (HS.out.below HB2.out (Nat.le_refl _)) (by omega)).mono ?_
    rintro e w3 ⟨rfl, hb3⟩
    have HB3 := hid (HB2.out.trans (hb3.mono z2))
    clear hb3
    go_wp2_with fail
    go_ret
    exact ⟨rfl, HB3.out⟩
  · have HV := hid hv
    clear hv
    have hsx := HS.out
    have hr1 := (HS.out.below HB2.out (Nat.le_refl _)).reads
    have hr2 := (HT.out.below HB2.out (Nat.le_refl _)).reads
    have hx1 := ints_oneCell .u8 xs
    have hy1 := ints_oneCell .u8 ys
    have HR1 := hid hr1
    have HR2 := hid hr2
    have HX1 := hid hx1
    have HY1 := hid hy1
    clear hr1 hr2 hx1 hy1 hsx
    obtain ⟨i0, hi, hz0, hz1, hz2⟩ := info_parts info_u8
    go_wp2_with (first
      | (at_builtin; refine wpList_append_any _ rfl (.tmp 25) (.tmp 26) 22 rfl w2.heap.size 5 i0 (.int .u8 0) 1 1 Try.underlying22 hi hz0 hz1 hz2 rfl (by decide) _ 0 [] rfl (owns_empty w2 _ 1) w2.heap.size a xs.length aCap _ rfl (HR1.out.alloc (Nat.le_refl _) _) HX1.out (by unfold maxLen; omega) (by omega) (by simp) ?_; intro v1 w3 ho1 hg1 hl1; have hb3 : Below w2.heap.size w2 w3 := ((Below.refl _ w2).alloc (Nat.le_refl _) _).grown hg1 (by simp) (own_ge (owns_empty w2 5 1)))
      | (at_builtin; go_must (refine wpList_append_any _ rfl (.tmp 27) (.tmp 28) 22 rfl w2.heap.size 5 i0 (.int .u8 0) 1 1 Try.underlying22 hi hz0 hz1 hz2 rfl (by decide) v1 (0 + xs.length) ([] ++ xs.map (Value.int .u8)) rfl ho1 w2.heap.size b ys.length bCap _ rfl (HR2.out.below hb3) HY1.out (by unfold maxLen; omega) (by omega) hb3.size ?_); intro v2 w4 ho2 hg2 hl2; have hb4 : Below w2.heap.size w2 w4 := hb3.grown hg2 hb3.size (own_ge ho1)))
    obtain ⟨A2, c2, rfl⟩ := owns_slice ho2
    have hz2 := hb4.size
    have HB4 := hid (HB2.out.trans (hb4.mono z2))
    have hby : Bytes (xs ++ ys) := fun x hx => by
      rcases List.mem_append.1 hx with h | h
      · exact HS.out.2.2.1 x h
      · exact HT.out.2.2.1 x h
    have hsb : SB w4 A2 c2 (xs ++ ys) := SB.of_own (by simpa using ho2) (by simp) hby
    have hjl : (xs ++ ys).length = 0 + xs.length + ys.length := by simp
    have hall := all_any A2 c2 (xs ++ ys) w4 hsb (by omega)
    rw [hjl] at hall
    have HALL := hid hall
    clear hall hsb hby ho2 hg2 hl2 hb4 ho1 hg1 hl1 hb3 HR1 HR2 HX1 HY1
    refine HALL.out.mono ?_
    rintro e w5 ⟨v3, rfl, ⟨ho3, _⟩, hb5⟩
    have z5 := hb5.size
    have HO3 := hid ho3
    have HB5 := hid (HB4.out.trans (hb5.mono (by omega)))
    clear hb5 ho3 HB4 HALL
    obtain ⟨i1, hi1, hy0, hy1, hy2⟩ := info_parts info_i32
    have hpl1 := pcs_length xs
    have hpl2 := pcs_length ys
    have hpl3 := pcs_length (xs ++ ys)
    simp only [List.length_append] at hpl3
    simp only [List.length_map] at HO3
    have hj := pcs_join xs ys HV.out
    have HJ := hid hj
    have hjn : (pcs (xs ++ ys)).length = (pcs xs).length + (pcs ys).length := by simpa using congrArg List.length hj
    have HJN := hid hjn
    clear hj hjn
    go_wp2_with fail
    obtain ⟨A3, c3, rfl⟩ := owns_slice HO3.out
    have hb6 : Below w.heap.size w (w5.alloc (.cells #[] 21)) := HB5.out.alloc (by omega) _
    have hc6 : Below w5.heap.size w5 (w5.alloc (.cells #[] 21)) := (Below.refl _ w5).alloc (Nat.le_refl _) _
    refine (all_any a aCap xs _ (HS.out.below hb6 (Nat.le_refl _)) (by omega)).mono ?_
    rintro e w6 ⟨v4, rfl, ⟨ho4, _⟩, hb7⟩
    have HB6 := hid (hb6.trans (hb7.mono hb6.size))
    have HC6 := hid (hc6.trans (hb7.mono hc6.size))
    have he6 := owns_below (owns_empty w5 21 1) hb7
    have HE6 := hid he6
    have z6 := HC6.out.size
    simp only [List.length_map] at ho4
    obtain ⟨A4, c4, rfl⟩ := owns_slice ho4
    have hr4 := Reads.of_own ho4
    have ho1 := ints_oneCell .i32 ((pcs xs).map (·.r))
    have HR4 := hid hr4
    have HX4 := hid ho1
    clear ho4 hr4 ho1 hb7 hb6 HB5 he6 hc6
    go_wp2_with (at_builtin; go_must (refine wpList_append_any _ rfl (.tmp 32) (.tmp 34) 30 rfl w5.heap.size 21 i1 (.int .i32 0) 1 4 Try.underlying30 hi1 hy0 hy1 hy2 rfl (by decide) _ 0 [] rfl HE6.out w6.heap.size A4 (pcs xs).length c4 _ rfl HR4.out HX4.out (by unfold maxLen; omega) (by omega) (by omega) ?_); intro v5 w7 ho5 hg5 hl5)
    have h67 : Below w5.heap.size w6 w7 := (Below.refl _ w6).grown hg5 (by omega) (own_ge HE6.out)
    have HB7 := hid (HB6.out.trans (h67.mono (by omega)))
    have HC7 := hid (HC6.out.trans h67)
    have HO5 := hid ho5
    have z7 := HC7.out.size
    clear hg5 hl5 h67 ho5 HB6 HC6 HE6 HR4 HX4
    refine (all_any b bCap ys _ (HT.out.below HB7.out (Nat.le_refl _)) (by omega)).mono ?_
    rintro e w8 ⟨v6, rfl, ⟨ho6, _⟩, hb8⟩
    have HB8 := hid (HB7.out.trans (hb8.mono HB7.out.size))
    have HC8 := hid (HC7.out.trans (hb8.mono z7))
    have ho5 := owns_below HO5.out hb8
    have HO5' := hid ho5
    have z8 := HC8.out.size
    simp only [List.length_map] at ho6
    obtain ⟨A6, c6, rfl⟩ := owns_slice ho6
    have hr6 := Reads.of_own ho6
    have ho1 := ints_oneCell .i32 ((pcs ys).map (·.r))
    have HR6 := hid hr6
    have HX6 := hid ho1
    clear ho6 hr6 ho1 hb8 HB7 HC7 ho5 HO5
    go_wp2_with (at_builtin; go_must (refine wpList_append_any _ rfl (.tmp 35) (.tmp 37) 30 rfl w5.heap.size 21 i1 (.int .i32 0) 1 4 Try.underlying30 hi1 hy0 hy1 hy2 rfl (by decide) _ _ _ rfl HO5'.out w8.heap.size A6 (pcs ys).length c6 _ rfl HR6.out HX6.out (by unfold maxLen; omega) (by omega) (by omega) ?_); intro v7 w9 ho7 hg7 hl7)
    have h89 : Below w5.heap.size w8 w9 := (Below.refl _ w8).grown hg7 (by omega) (own_ge HO5'.out)
    have HB9 := hid (HB8.out.trans (h89.mono (by omega)))
    have hc9 := HC8.out.trans h89
    obtain ⟨A7, c7, rfl⟩ := owns_slice ho7
    rw [List.nil_append, ← List.map_append, ← HJ.out] at ho7
    have hn7 : 0 + (pcs xs).length + (pcs ys).length = (pcs (xs ++ ys)).length := by have := HJN.out; omega
    rw [hn7] at ho7 ⊢
    have hl7' : (pcs (xs ++ ys)).length = ((pcs (xs ++ ys)).map (·.r)).length := by rw [List.length_map]
    have hq1 : RunesAt w9 A3 ((pcs (xs ++ ys)).map (·.r)) := RunesAt.of_own (owns_below HO3.out hc9) hl7'
    have hq2 : RunesAt w9 A7 ((pcs (xs ++ ys)).map (·.r)) := RunesAt.of_own ho7 hl7'
    have hq3 : (pcs (xs ++ ys)).length ≤ 1000000 := by omega
    have hsame := same_eq A3 A7 (pcs (xs ++ ys)).length c3 c7 _ hl7' w9 hq1 hq2 hq3
    refine hsame.mono ?_
    rintro e w10 ⟨rfl, q, rfl⟩
    clear ho7 hg7 hl7 hc9 HB8 HC8 HO5' HR6 HX6 h89 hn7 hpl1 hpl2 hpl3 HJ HO3 hi1 hy0 hy1 hy2 hi hz0 hz1 hz2 hl7' hq1 hq2 hq3 hsame
    go_wp2_with fail
    go_ret
    exact ⟨rfl, HB9.out.trans (below_drewN _ _ _)⟩
end Go.Proofs.Ytalgldnnbjlokaa.scalarJoins
