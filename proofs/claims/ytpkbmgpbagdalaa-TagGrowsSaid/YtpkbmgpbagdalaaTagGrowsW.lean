/- The walk of the law TagGrows. -/
import Derived.Test.YtpkbmgpbagdalaaTagArg
import Derived.Test.YtpkbmgpbagdalaaTagPl
import Derived.Test.YtpkbmgpbagdalaaTagAwake
namespace Go.Proofs.Ytpkbmgpbagdalaa.tagGrows
open Go.RowKit
open Go.Lib (hid)
set_option linter.unusedVariables false

theorem pre_append (s r : ByteArray) : Pre s (s ++ r) := by
  refine ⟨by rw [ByteArray.size_append]; omega, fun i hi => ?_⟩
  unfold byt
  have hd : i < s.data.size := hi
  simp only [ByteArray.data_append, Array.getD_eq_getD_getElem?, Array.getElem?_append_left hd]

set_option maxRecDepth 100000 in
set_option maxHeartbeats 8000000 in
theorem walk (a : Option Addr) (aLen aCap : Nat) (aD : List Int) (b : Option Addr) (bLen bCap : Nat) (bD : List Int) (w : World) (w0 : IsRow .u8 w a aLen aCap aD) (w1 : IsRow .u8 w b bLen bCap bD) (hsh : w.ShapedOpen Try.prog) :
    Calls Try.prog 4 #[.slice a aLen aCap, .slice b bLen bCap] w fun e w' => e = .returned (.bool true) ∧ Below w.heap.size w w' := by
  obtain ⟨m, hml⟩ := Try.laysM185.s1_3 w hsh
  have hml : w.cell? ⟨0, 0, none⟩ = some (.int .i64 m) := hml
  obtain ⟨s, hs⟩ := ba_of w0
  obtain ⟨r, hr⟩ := ba_of w1
  have haw := fun (W : World) (hb : Below w.heap.size w W) => awake_any m W ((hb.cell (p := ⟨0, 0, none⟩) (World.block_lt_of_cell? _ _ hml)).trans hml)
  have h0l : 0 < w.heap.size := World.block_lt_of_cell? _ _ hml
  have HML := hid hml
  clear w0 w1 hsh hml
  by_cases hbig : 120 < aLen
  · have hbig' : (120 : Int) < (aLen : Int) := by omega
    have HAW := hid haw
    clear hs hr haw
    go_enter Try.func4, Try.ntmps4
    go_wp2_with fail
    refine (HAW.out w (Below.refl _ _)).mono ?_
    rintro e w3 ⟨rfl, hb3⟩
    go_wp2_with fail
    go_ret
    exact ⟨rfl, hb3⟩
  have hbig' : ¬ (120 : Int) < (aLen : Int) := by omega
  by_cases hbig2 : 60 < bLen
  · have hbig2' : (60 : Int) < (bLen : Int) := by omega
    have HAW := hid haw
    clear hs hr haw
    go_enter Try.func4, Try.ntmps4
    go_wp2_with fail
    refine (HAW.out w (Below.refl _ _)).mono ?_
    rintro e w3 ⟨rfl, hb3⟩
    go_wp2_with fail
    go_ret
    exact ⟨rfl, hb3⟩
  have hbig2' : ¬ (60 : Int) < (bLen : Int) := by omega
  have HS := hid hs
  have HR := hid hr
  have HAW := hid haw
  clear hs hr haw
  go_enter Try.func4, Try.ntmps4
  go_wp2_with fail
  refine (HAW.out w (Below.refl _ _)).mono ?_
  rintro e w3 ⟨rfl, hb3⟩
  have HB3 := hid hb3
  have z3 := hb3.size
  clear hb3 HAW
  go_wp2_with fail
  have hs3 := HS.out.below HB3.out (Nat.le_refl _)
  have hm3 : w3.cell? ⟨0, 0, none⟩ = some (.int .i64 m) := (HB3.out.cell (p := ⟨0, 0, none⟩) h0l).trans HML.out
  refine (read_any w3 a aLen aCap 0 m s hs3.1 hs3.2.2.2 hs3.2.1 hs3.2.2.1 (by omega) (by decide) hm3).mono ?_
  rintro e w4 ⟨v4, rfl, hb4, ho4⟩
  clear hs3 hm3
  have hG := grows_read (pre_append s r)
  have hn := HS.out.1
  generalize readV s 0 = t1 at hG ho4 ⊢
  obtain ⟨⟨kd1, sz1, nm1, at1, sg1, cl1⟩, ok1⟩ := t1
  obtain ⟨A1, c1, rfl, hA1⟩ := owns_form ho4
  simp only [Mk.val]
  have HG := hid hG
  have HN := hid hn
  have z4 := hb4.size
  have HB4 := hid (HB3.out.trans (hb4.mono z3))
  clear hG hn hA1 ho4 hb4 hml
  go_upto_region 4 with fail
  have hb5 := HB4.out.alloc (by omega) (.cells #[.int .i64 kd1, .int .i64 sz1, .string nm1, .slice A1 at1.length c1, .bool sg1, .bool cl1] 26)
  have hr5 := Blk.new w4 26 #[.int .i64 kd1, .int .i64 sz1, .string nm1, .slice A1 at1.length c1, .bool sg1, .bool cl1]
  have z5 : (w4.alloc (.cells #[.int .i64 kd1, .int .i64 sz1, .string nm1, .slice A1 at1.length c1, .bool sg1, .bool cl1] 26)).heap.size = w4.heap.size + 1 := by simp
  generalize (w4.alloc (.cells #[.int .i64 kd1, .int .i64 sz1, .string nm1, .slice A1 at1.length c1, .bool sg1, .bool cl1] 26)) = w5 at *
  have HB5 := hid hb5
  have HR5 := hid hr5
  have HS5 := hid (HS.out.below hb5 (Nat.le_refl _)).reads
  have HR5r := hid (HR.out.below hb5 (Nat.le_refl _)).reads
  have HO1 := hid (u8s_one s)
  have HO2 := hid (u8s_one r)
  obtain ⟨i0, hi, hz0, hz1, hz2⟩ := info_parts info_u8
  have Z5 := hid z5
  clear hb5 hr5 z5
  go_wp2_with (first
    | (at_builtin; refine wpList_append_any _ rfl (.tmp 28) (.tmp 29) 22 rfl w5.heap.size 5 i0 (.int .u8 0) 1 1 Try.underlying22 hi hz0 hz1 hz2 rfl (by decide) _ 0 [] rfl (owns_empty w5 _ 1) w5.heap.size a aLen aCap _ rfl (HS5.out.alloc (Nat.le_refl _) _) HO1.out (by unfold maxLen; omega) (by omega) (by simp) ?_; intro v6 w6 ho6 hg6 hl6; have hb6 : Below w5.heap.size w5 w6 := ((Below.refl _ w5).alloc (Nat.le_refl _) _).grown hg6 (by simp) (own_ge (owns_empty w5 5 1)))
    | (at_builtin; go_must (refine wpList_append_any _ rfl (.tmp 30) (.tmp 31) 22 rfl w5.heap.size 5 i0 (.int .u8 0) 1 1 Try.underlying22 hi hz0 hz1 hz2 rfl (by decide) v6 (0 + aLen) ([] ++ u8s s) rfl ho6 w5.heap.size b bLen bCap _ rfl (HR5r.out.below hb6) HO2.out (by unfold maxLen; omega) (by omega) hb6.size ?_); intro v7 w7 ho7 hg7 hl7; have hb7 : Below w5.heap.size w5 w7 := hb6.grown hg7 hb6.size (own_ge ho6)))
  obtain ⟨A7, c7, rfl⟩ := owns_slice ho7
  have hba : BA w7 A7 (0 + aLen + bLen) c7 (s ++ r) := BA.of_own (by rw [u8s_append]; simpa using ho7)
  have hB7 : Below w.heap.size w w7 := HB5.out.trans (hb7.mono (by have := HB5.out.size; omega))
  have hm7 : w7.cell? ⟨0, 0, none⟩ = some (.int .i64 m) := (hB7.cell (p := ⟨0, 0, none⟩) h0l).trans HML.out
  have HR7 := hid (HR5.out.below hb7 HR5.out.lt)
  have HB7 := hid hB7
  clear hB7 ho7 hg7 hl7 hb7 ho6 hg6 hl6 hb6 HS5 HR5r HO1 HO2 hi hz0 hz1 hz2 HR5
  refine (read_any w7 A7 (0 + aLen + bLen) c7 0 m (s ++ r) hba.1 hba.2.2.2 hba.2.1 hba.2.2.1 (by omega) (by decide) hm7).mono ?_
  rintro e w8 ⟨v8, rfl, hb8, ho8⟩
  have hG := HG.out
  generalize readV (s ++ r) 0 = t2 at hG ho8 ⊢
  obtain ⟨⟨kd2, sz2, nm2, at2, sg2, cl2⟩, ok2⟩ := t2
  obtain ⟨A2, c2, rfl, hA2⟩ := owns_form ho8
  simp only [Mk.val]
  have hr8 := HR7.out.below hb8 HR7.out.lt
  have hB8 : Below w.heap.size w w8 := HB7.out.trans (hb8.mono (by have := HB7.out.size; omega))
  have z8 := hr8.lt
  have k0 := hr8.cell 0
  have k1 := hr8.cell 1
  have k2 := hr8.cell 2
  have k3 := hr8.cell 3
  have k4 := hr8.cell 4
  have k5 := hr8.cell 5
  simp only [List.getElem?_toArray, List.getElem?_cons_zero, List.getElem?_cons_succ] at k0 k1 k2 k3 k4 k5
  have HB8 := hid hB8
  have HFIN := hid fun o => hB8.alloc (by have := hB8.size; omega) o
  clear HG hba hm7 hA2 ho8 hb8 hr8 hB8 HR7
  cases ok1
  · obtain ⟨h1, h2⟩ := hG.1 rfl
    obtain rfl : sz1 = 0 := h1
    by_cases h3 : s.size < 2
    · have h4 : (aLen : Int) < 2 := by have := HN.out; omega
      clear hG h2
      go_wp2_with fail
      go_ret
      exact ⟨rfl, HFIN.out _⟩
    · obtain rfl : ok2 = false := h2.resolve_left h3
      have h4 : ¬ (aLen : Int) < 2 := by have := HN.out; omega
      clear hG h2
      go_wp2_with fail
      go_ret
      exact ⟨rfl, HFIN.out _⟩
  · obtain ⟨h1, h2, h3, h4, h5⟩ := hG.2 rfl
    obtain rfl : ok2 = true := h1
    have h3' : ¬ (aLen : Int) < (sz1 : Int) := by have := HN.out; simp only at h3; omega
    have h2' : ¬ (sz1 : Int) < 2 := by omega
    cases cl1
    · obtain ⟨h6, h7, h8⟩ := h5 rfl
      simp only at h6 h7 h8
      subst h8
      have h6' : sz1 = aLen := by rw [h6, HN.out]
      subst h6'
      have h7' : (sz1 : Int) ≤ (sz2 : Int) := by have := HN.out; omega
      clear hG h3 h4 h5 h6 h7
      go_wp2_with fail
      go_ret
      exact ⟨rfl, HFIN.out _⟩
    · have h6 := h4 rfl
      injection h6 with e1 e2 e3 e4 e5 e6
      subst e1 e2 e3 e4 e5 e6
      clear hG h3 h4 h5 h2
      go_wp2_with fail
      go_ret
      exact ⟨rfl, HFIN.out _⟩
end Go.Proofs.Ytpkbmgpbagdalaa.tagGrows
