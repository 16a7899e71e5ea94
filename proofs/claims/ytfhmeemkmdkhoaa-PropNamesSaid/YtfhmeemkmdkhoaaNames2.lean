/- The document's Name; the statements' example 'awake' of chapter 04. -/
import Derived.Test.YtfhmeemkmdkhoaaProg
import Derived.Test.YtfhmeemkmdkhoaaNames
import Derived.Test.YtfhmeemkmdkhoaaClass
import Derived.Test.YtfhmeemkmdkhoaaRefClass
import Derived.Great.Walk
namespace Go.Proofs.Ytfhmeemkmdkhoaa
open Go.RowKit
open Go.Lib

theorem empty_toList : ByteArray.empty.toList = [] := by rw [Lib.toList_data]; rfl
theorem str_nonempty {a : ByteArray} (h : a ≠ ByteArray.empty) : (¬ a.toList = []) ∧ a.toList.isEmpty = false := by
  have : ¬ a.toList = [] := fun e => h (str_toList_inj.1 (by rw [e, empty_toList]))
  exact ⟨this, by simpa using this⟩

theorem namesV_at (c : Int) (h0 : 0 ≤ c) (h1 : c < 36) : namesV[c.toNat]? = some (.string (nmOf c)) := by
  rw [namesV_get _ (by omega), nmOf, if_pos ⟨h0, h1⟩]

set_option maxHeartbeats 1000000 in
theorem refname_any (c : Int) (w : World) : Calls Try.prog 18 #[.int .i64 c] w fun e w' => e = .returned (.string (nmOf c)) ∧ Below w.heap.size w w' := by
  by_cases h0 : c < 0
  · have HN := Lib.hid (show nmOf c = ByteArray.empty by rw [nmOf, if_neg (by omega)])
    go_enter Try.func18, Try.ntmps18
    go_wp2
    go_ret
    exact ⟨by rw [HN.out]; rfl, Below.refl _ _⟩
  · by_cases h1 : 35 < c
    · have HN := Lib.hid (show nmOf c = ByteArray.empty by rw [nmOf, if_neg (by omega)])
      go_enter Try.func18, Try.ntmps18
      go_wp2
      go_ret
      exact ⟨by rw [HN.out]; rfl, Below.refl _ _⟩
    · have hv := namesV_at c (by omega) (by omega)
      have hc0 : 0 ≤ c := by omega
      have hc1 : c < 36 := by omega
      generalize nmOf c = s at *
      go_enter Try.func18, Try.ntmps18
      go_wp2_with ((with_reducible refine Great.wpList_buildSliceTo (o := ⟨some 9, .buildSlice 62 36 _, _, _, _, _⟩) rfl 62 9 36 _ rfl w.heap.size rfl (some 9) rfl Try.underlying62 namesV ?hf ?_); (case hf => kernel_rfl))
      go_ret
      exact ⟨rfl, (Below.refl _ _).alloc (Nat.le_refl _) _⟩

theorem nm_inj_all : ((List.range 36).all fun a => (List.range 36).all fun b => a == b || !(decide (nameList.getD a ByteArray.empty = nameList.getD b ByteArray.empty))) = true := by decide +kernel
theorem nm_inj {a b : Int} (ha0 : 0 ≤ a) (ha1 : a < 36) (hb0 : 0 ≤ b) (hb1 : b < 36) (h : nmOf a = nmOf b) : a = b := by
  rw [nmOf, if_pos ⟨ha0, ha1⟩, nmOf, if_pos ⟨hb0, hb1⟩] at h
  have := nm_inj_all
  rw [List.all_eq_true] at this
  have := this a.toNat (by simp; omega)
  rw [List.all_eq_true] at this
  have := this b.toNat (by simp; omega)
  simp only [h, decide_true, Bool.not_true, Bool.or_false, beq_iff_eq] at this
  omega
theorem nm_ne_all : ((List.range 36).all fun a => decide (nameList.getD a ByteArray.empty ≠ ByteArray.empty)) = true := by decide +kernel
theorem nm_ne {a : Int} (ha0 : 0 ≤ a) (ha1 : a < 36) : nmOf a ≠ ByteArray.empty := by
  rw [nmOf, if_pos ⟨ha0, ha1⟩]
  have := nm_ne_all
  rw [List.all_eq_true] at this
  simpa using this a.toNat (by simp; omega)

def upperS : ByteArray := ⟨#[85, 112, 112, 101, 114]⟩
theorem upper_is : nmOf 17 = upperS := by decide +kernel
theorem upper_number {n : Int} {ok : Bool} (h : IsNumber upperS n ok) : n = 17 ∧ ok = true := by
  rcases h with ⟨_, _, h⟩ | ⟨h1, h2, h3, h4⟩
  · exact absurd upper_is (h 17 (by omega) (by omega))
  · exact ⟨nm_inj h2 h3 (by omega) (by omega) (h4.trans upper_is.symm), h1⟩

theorem cls_65 : cls 65 = 17 := by decide +kernel
theorem cls_44032 : cls 44032 = 14 := by decide +kernel
theorem cls_44033 : cls 44033 = 15 := by decide +kernel

set_option maxHeartbeats 1000000 in
theorem awake04_any (w : World) : Calls Try.prog 15 #[] w fun e w' => e = .returned (.bool true) ∧ Below w.heap.size w w' := by
  have h1 := fun w => (number_any upperS w).mono (R' := fun e w' => e = .returned (.tuple #[.int .i64 17, .bool true]) ∧ Below w.heap.size w w') (by
    rintro e w' ⟨n, ok, rfl, h, hb⟩
    obtain ⟨rfl, rfl⟩ := upper_number h
    exact ⟨rfl, hb⟩)
  have H1 := Lib.hid h1
  have h2 := class_any 65
  rw [cls_65] at h2
  have H2 := Lib.hid h2
  have h3 := class_any 44032
  rw [cls_44032] at h3
  have H3 := Lib.hid h3
  have h4 := class_any 44033
  rw [cls_44033] at h4
  have H4 := Lib.hid h4
  have h5 := name_any 17
  rw [upper_is] at h5
  have H5 := Lib.hid h5
  clear h1 h2 h3 h4 h5
  go_enter Try.func15, Try.ntmps15
  go_wp2_with fail
  refine (H1.out _).mono ?_
  rintro e w1 ⟨rfl, hb1⟩
  have HB1 := Lib.hid hb1
  clear hb1
  go_wp2_with fail
  refine (H2.out _).mono ?_
  rintro e w2 ⟨rfl, hb2⟩
  have HB2 := Lib.hid hb2
  clear hb2
  go_wp2_with fail
  refine (H5.out _).mono ?_
  rintro e w3 ⟨rfl, hb3⟩
  have HB3 := Lib.hid hb3
  clear hb3
  unfold upperS
  go_wp2_with fail
  refine (H3.out _).mono ?_
  rintro e w4 ⟨rfl, hb4⟩
  have HB4 := Lib.hid hb4
  clear hb4
  go_wp2_with fail
  refine (H4.out _).mono ?_
  rintro e w5 ⟨rfl, hb5⟩
  have HB5 := Lib.hid hb5
  clear hb5
  go_wp2
  go_ret
  have s1 := HB1.out.size
  have s2 := HB2.out.size
  have s3 := HB3.out.size
  have s4 := HB4.out.size
  exact ⟨rfl, (((HB1.out.trans (HB2.out.mono (by omega))).trans (HB3.out.mono (by omega))).trans (HB4.out.mono (by omega))).trans (HB5.out.mono (by omega))⟩
end Go.Proofs.Ytfhmeemkmdkhoaa
