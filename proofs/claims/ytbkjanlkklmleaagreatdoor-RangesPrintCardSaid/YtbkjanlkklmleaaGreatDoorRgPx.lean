/- Chapter 02: the program's hex: the walk. -/
import Derived.Test.YtbkjanlkklmleaaGreatDoorRgSh2
import Derived.Test.YtbkjanlkklmleaaGreatDoorHxQ
import Derived.Test.YtbkjanlkklmleaaGreatDoorRgPr
import Derived.Outline
namespace Go.Proofs.YtbkjanlkklmleaaGreatDoor
open Go.RowKit
open Go.Shelf
open Go.Lib (hid)
set_option linter.unusedVariables false
set_option maxRecDepth 100000

theorem extraB : Builder.Extra Tryz.prog Tryz.lays105_ren where
  sizeBuilder := by kernel_rfl
  liesBuilder := by kernel_rfl
  t5 := Tryz.underlying5
  a5 := Tryz.isAgg5
  z5 := Tryz.sizeOf5
  v5 := Tryz.zeroValue5
  infoByte := by kernel_rfl
  cellsByte := by kernel_rfl
  sizeByte := by kernel_rfl
  neB5 := by decide
theorem extraB2 : Builder.Extra Tryz.prog Tryz.lays156_ren where
  sizeBuilder := by kernel_rfl
  liesBuilder := by kernel_rfl
  t5 := Tryz.underlying5
  a5 := Tryz.isAgg5
  z5 := Tryz.sizeOf5
  v5 := Tryz.zeroValue5
  infoByte := by kernel_rfl
  cellsByte := by kernel_rfl
  sizeByte := by kernel_rfl
  neB5 := by decide
theorem repeat48 : ∀ c, Lib.repeatL [48] c = List.replicate c 48
  | 0 => rfl
  | c + 1 => by
    show [48] ++ Lib.repeatL [48] c = _
    rw [repeat48 c]
    rfl
theorem hex4_is (u : Nat) : (⟨(Lib.repeatL (⟨#[48]⟩ : ByteArray).data.toList (4 - (hexB u).size)).toArray⟩ : ByteArray) ++ hexB u = mkB (hex4D u) := by
  rw [hexB_size]
  show (⟨(Lib.repeatL [48] _).toArray⟩ : ByteArray) ++ _ = _
  rw [repeat48]
  exact mkB_append _ _
set_option maxHeartbeats 1000000 in
theorem hex_any (z : Int) (h0 : 0 ≤ z) (h1 : z ≤ 1114111) (w : World) (hdb : Db w) : Calls Tryz.prog 16 #[.int .i32 z] w fun e w' => e = .returned (.string (mkB (hex4D z.toNat))) ∧ Below w.heap.size w w' := by
  have HF := hid (show Calls Tryz.prog 27 #[.int .i64 z, .int .i64 16] w fun e w' => e = .returned (.string (hexB z.toNat)) ∧ Below w.heap.size w w' by
    have := sformatInt_any z.toNat (by omega) w hdb
    rwa [Int.toNat_of_nonneg h0] at this)
  have hz : (hexB z.toNat).size ≤ 6 := by rw [hexB_size]; exact hexD_len 6 _ (by decide) (by show _ < 16777216; omega)
  have HE := hid (hex4_is z.toNat)
  have e1 : IntKind.i64.wrap z = z := IntWalk.i64_in _ (by omega)
  generalize hexB z.toNat = s at *
  generalize mkB (hex4D z.toNat) = r at *
  have hr := fun W => Any.strings_Repeat (P := Tryz.prog) Tryz.lays105 extraB ⟨#[48]⟩ (4 - s.size) W (by omega) (by show 1 * _ ≤ _; omega)
  have e2 : (((4 - s.size : Nat)) : Int) = max (4 - (s.size : Int)) 0 := by omega
  rw [e2] at hr
  have HR := hid hr
  have hls : (⟨(Lib.repeatL (⟨#[48]⟩ : ByteArray).data.toList (4 - s.size)).toArray⟩ : ByteArray).size ≤ 4 := by
    show (Lib.repeatL [48] _).toArray.size ≤ 4
    rw [repeat48]
    simp
  generalize (⟨(Lib.repeatL (⟨#[48]⟩ : ByteArray).data.toList (4 - s.size)).toArray⟩ : ByteArray) = t at *
  have hc : ¬ (t.size + s.size > 9223372036854775807) := by omega
  have hc2 : ¬ (9223372036854775807 < t.size + s.size) := by omega
  clear hdb hr e2
  go_enter Tryz.func16, Tryz.ntmps16
  go_wp2_with (go_at_call 27; refine HF.out.mono ?_; rintro e w2 ⟨rfl, hb⟩; have HB := hid hb; clear hb)
  refine (HR.out _).mono ?_
  rintro e w3 ⟨rfl, hb⟩
  have HB3 := hid (HB.out.trans (hb.mono HB.out.size))
  clear hb
  go_wp2_with fail
  go_ret
  rw [HE.out]
  exact ⟨rfl, HB3.out⟩
end Go.Proofs.YtbkjanlkklmleaaGreatDoor
