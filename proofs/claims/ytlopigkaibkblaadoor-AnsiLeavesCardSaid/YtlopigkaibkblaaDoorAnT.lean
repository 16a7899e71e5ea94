/- Chapter 17: bytes without escapes: the walks. -/
import Derived.Test.YtlopigkaibkblaaDoorAnS
import Derived.Test.YtlopigkaibkblaaDoorAnR
import Derived.Test.YtlopigkaibkblaaDoorAnE
namespace Go.Proofs.YtlopigkaibkblaaDoor
open Go.RowKit
open Go.Lib (hid)
set_option linter.unusedVariables false

theorem field_size (a b c d : Value) (W : World) : (Instr.field 27 (.agg #[a, b, c, d]) 0).run Tryd.prog W = .ok a W := by kernel_rfl
theorem u8s_one_ext (s : ByteArray) (i : Nat) (h : i < s.size) : u8s (s.extract i (i + 1)) = [.int .u8 (byt s i)] := by
  have hl : (u8s (s.extract i (i + 1))).length = 1 := by rw [u8s_len, ByteArray.size_extract]; omega
  have hg := u8s_get (s.extract i (i + 1)) 0 (by rw [ByteArray.size_extract]; omega)
  rw [byt_extract s i (i + 1) 0 (by omega) (by omega)] at hg
  match hx : u8s (s.extract i (i + 1)), hl with
  | [x], _ =>
    rw [hx] at hg
    simp only [List.getElem?_cons_zero, Option.some.injEq] at hg
    rw [hg, Nat.add_zero]

set_option maxRecDepth 100000 in
set_option maxHeartbeats 8000000 in
theorem strip_any (a : Option Addr) (n cap : Nat) (s : ByteArray) (w : World) (hb : BA w a n cap s) (hm : n ≤ 1048576) :
    Calls Tryd.prog 13 #[.slice a n cap] w fun e w' => ∃ v, e = .returned v ∧ Below w.heap.size w w' ∧ w'.ownsRow w.heap.size 5 1 v (stripAt s 0).size (u8s (stripAt s 0)) := by
  have HBA := hid hb
  have HN := hid hb.1
  clear hb
  obtain ⟨i0, hi0, hz0, hz1, hz2⟩ := info_parts info_u8
  go_enter Tryd.func13, Tryd.ntmps13
  go_wp2_with fail
  go_loopg [3, 4] n (fun kx s3 s4 wr => ∃ (i k : Nat) (v : Value) (acc : ByteArray), s3 = v ∧ s4 = .int .i64 i ∧ i ≤ n ∧ n - i ≤ kx ∧ k ≤ i ∧ Hid (acc.size = k) ∧ Hid (stripAt s 0 = acc ++ stripAt s i) ∧ Hid (wr.ownsRow w.heap.size 5 1 v k (u8s acc)) ∧ Hid (Below w.heap.size w wr))
  case atStart => exact ⟨0, 0, .slice none 0 0, ⟨#[]⟩, rfl, rfl, Nat.zero_le _, by omega, Nat.le_refl _, rfl, (empty_append _).symm, ⟨rfl, .inl ⟨rfl, rfl⟩⟩, Below.refl _ _⟩
  case round =>
    obtain ⟨i, k, v, acc, rfl, rfl, hin, hg, hki, HK, HST, HOWN, HB⟩ := hrel
    by_cases hlt : i < n
    · have hlt' : (i : Int) < (n : Int) := by omega
      have his : i < s.size := by have := HN.out; omega
      have hrd := read_any a n cap i s wr (HBA.out.below HB.out (Nat.le_refl _)) hm (by omega)
      obtain ⟨b, off, rfl, hbl, hzb⟩ := (HBA.out.below HB.out (Nat.le_refl _)).2.2.2 (by omega)
      have hcell := bytes_cell hzb his
      have hke := stripAt_keep his
      have hsk := stripAt_skip his
      have hle := readE_le s i
      have hone := u8s_one_ext s i his
      generalize readE s i = e at *
      obtain ⟨z, ew, eo, el⟩ := e
      simp only at hke hsk hle
      simp only [Es.val] at hrd
      have hi1 : (i : Int) + 1 ≤ 9223372036854775807 := by omega
      have HRD := hid hrd
      have HONE := hid hone
      clear hrd hzb hone
      by_cases hz : z = 0
      · subst hz
        have HKE := hid (HST.out.trans (congrArg (acc ++ ·) (hke rfl)))
        clear hke hsk hle
        generalize byt s i = c at *
        go_wp2_with fail
        refine HRD.out.mono ?_
        rintro e w2 ⟨rfl, hb2⟩
        have hcell2 := (hb2.cell (p := ⟨b, _, none⟩) hbl).trans hcell
        have hown2 := own_kept HOWN.out (grown_of_below hb2 none) fun _ _ e => by cases e
        have HB2 := hid (HB.out.trans (hb2.mono HB.out.size))
        have hb3 := (Below.refl w2.heap.size w2).alloc (Nat.le_refl _) (.cells #[.int .i64 0, .bool ew, .bool eo, .int .u8 el] 25)
        have hr3 := Blk.new w2 25 #[.int .i64 0, .bool ew, .bool eo, .int .u8 el]
        have hcell3 := (hb3.cell (p := ⟨b, _, none⟩) (Nat.lt_of_lt_of_le hbl hb2.size)).trans hcell2
        have hown3 := own_kept hown2 (grown_of_below hb3 none) fun _ _ e => by cases e
        have q0 := hr3.cell 0
        simp only [List.getElem?_toArray, List.getElem?_cons_zero] at q0
        have HB3 := hid (HB2.out.trans (hb3.mono HB2.out.size))
        obtain ⟨A0, cp0, rfl⟩ := owns_slice hown3
        have HOWN3 := hid hown3
        clear hb2 hb3 hr3 hown2 hown3 hcell hcell2 hbl
        go_upto_region 5 with fail
        generalize w2.alloc (.cells #[.int .i64 0, .bool ew, .bool eo, .int .u8 el] 25) = w3 at *
        go_wp2_with (at_builtin; go_must (refine wpList_append_any _ rfl (.tmp 20) (.tmp 25) 22 rfl w.heap.size 5 i0 (.int .u8 0) 1 1 Tryd.underlying22 hi0 hz0 hz1 hz2 rfl (by decide) _ k (u8s acc) rfl (HOWN3.out.alloc _) _ (some ⟨w3.heap.size, 0, none⟩) 1 1 [.int .u8 c] rfl (reads_blk1 (Blk.new w3 _ _)) (by simp [Value.oneCell']) (by unfold maxLen; omega) (by omega) (by have := HB3.out.size; simp; omega) ?_); intro v' w6 ho6 hg6 hl6; have hb6 := (HB3.out.alloc HB3.out.size _).grown hg6 (by have := HB3.out.size; simp; omega) (own_ge HOWN3.out); have HO6 := hid ho6; have HB6 := hid hb6; clear ho6 hg6 hl6 hb6)
        go_roundg (n - (i + 1))
        case measure => omega
        case rel =>
          refine ⟨i + 1, k + 1, _, acc ++ s.extract i (i + 1), rfl, rfl, by omega, Nat.le_refl _, by omega, ?_, ?_, ?_, HB6⟩
          · show _ = _
            rw [ByteArray.size_append, HK.out, ByteArray.size_extract]
            omega
          · show _ = _
            rw [HKE.out, append_assoc3]
          · show World.ownsRow _ _ _ _ _ _ _
            rw [u8s_append, HONE.out]
            exact HO6.out
      · have HSK := hid (HST.out.trans (congrArg (acc ++ ·) (hsk hz)))
        have hle' : i + z ≤ s.size := hle.resolve_left hz
        have hz' : (0 : Int) < (z : Int) := by omega
        obtain ⟨y, hy⟩ : ∃ y, y = i + z := ⟨_, rfl⟩
        have hye : (i : Int) + (z : Int) = (y : Int) := by omega
        have hyb : (y : Int) ≤ 9223372036854775807 := by have := HN.out; omega
        have HY := hid hy
        have HLE := hid hle'
        rw [← hy] at HSK HLE
        clear hy hz
        generalize (z : Int) = zi at *
        have hzi0 : ¬ zi = 0 := by omega
        clear hke hsk hle hle' hcell
        go_wp2_with fail
        refine HRD.out.mono ?_
        rintro e w2 ⟨rfl, hb2⟩
        have hown2 := own_kept HOWN.out (grown_of_below hb2 none) fun _ _ e => by cases e
        have HB2 := hid (HB.out.trans (hb2.mono HB.out.size))
        have hb3 := (Below.refl w2.heap.size w2).alloc (Nat.le_refl _) (.cells #[.int .i64 zi, .bool ew, .bool eo, .int .u8 el] 25)
        have hr3 := Blk.new w2 25 #[.int .i64 zi, .bool ew, .bool eo, .int .u8 el]
        have hown3 := own_kept hown2 (grown_of_below hb3 none) fun _ _ e => by cases e
        have q0 := hr3.cell 0
        simp only [List.getElem?_toArray, List.getElem?_cons_zero] at q0
        have HB3 := hid (HB2.out.trans (hb3.mono HB2.out.size))
        have HOWN3 := hid hown3
        clear hb2 hb3 hr3 hown2 hown3
        go_upto_region 5 with fail
        generalize w2.alloc (.cells #[.int .i64 zi, .bool ew, .bool eo, .int .u8 el] 25) = w3 at *
        go_wp2_with fail
        go_roundg (n - y)
        case measure => have := HY.out; omega
        case rel => exact ⟨y, k, _, acc, rfl, rfl, by have := HLE.out; have := HN.out; omega, Nat.le_refl _, by have := HY.out; omega, HK, HSK, HOWN3, HB3⟩
    · have hlt' : ¬ (i : Int) < (n : Int) := by omega
      have hE : stripAt s 0 = acc := by rw [HST.out, stripAt_end (by have := HN.out; omega), append_empty]
      have HE := hid hE
      have HJ := hid (show i = n by omega)
      clear hE
      go_wp2_with fail
      go_ret
      rw [HE.out, HK.out]
      exact ⟨_, rfl, HB.out, HOWN.out⟩

set_option maxRecDepth 100000 in
set_option maxHeartbeats 8000000 in
theorem refstrip_any (a : Option Addr) (n cap : Nat) (s : ByteArray) (w : World) (hb : BA w a n cap s) (hm : n ≤ 1048576) :
    Calls Tryd.prog 14 #[.slice a n cap] w fun e w' => ∃ v, e = .returned v ∧ Below w.heap.size w w' ∧ w'.ownsRow w.heap.size 5 1 v (stripAt s 0).size (u8s (stripAt s 0)) := by
  have HBA := hid hb
  have HN := hid hb.1
  clear hb
  obtain ⟨i0, hi0, hz0, hz1, hz2⟩ := info_parts info_u8
  have hfs := field_size
  go_enter Tryd.func14, Tryd.ntmps14
  go_wp2_with fail
  go_loopg [3, 4, 5] n (fun kx s3 s4 s5 wr => ∃ (i k q : Nat) (v : Value) (acc : ByteArray), s3 = v ∧ s4 = .int .i64 q ∧ s5 = .int .i64 i ∧ i ≤ n ∧ i + q ≤ n ∧ n - i ≤ kx ∧ k ≤ i ∧ Hid (acc.size = k) ∧ Hid (stripAt s 0 = acc ++ stripAt s (i + q)) ∧ Hid (wr.ownsRow w.heap.size 5 1 v k (u8s acc)) ∧ Hid (Below w.heap.size w wr))
  case atStart => exact ⟨0, 0, 0, .slice none 0 0, ⟨#[]⟩, rfl, rfl, rfl, Nat.zero_le _, by omega, by omega, Nat.le_refl _, rfl, (empty_append _).symm, ⟨rfl, .inl ⟨rfl, rfl⟩⟩, Below.refl _ _⟩
  case round =>
    obtain ⟨i, k, q, v, acc, rfl, rfl, rfl, hin, hiq, hg, hki, HK, HST, HOWN, HB⟩ := hrel
    by_cases hlt : i < n
    · have hlt' : (i : Int) < (n : Int) := by omega
      have his : i < s.size := by have := HN.out; omega
      have hi1 : (i : Int) + 1 ≤ 9223372036854775807 := by omega
      by_cases hq : q = 0
      · subst hq
        have hrd := refread_any a n cap i s wr (HBA.out.below HB.out (Nat.le_refl _)) hm (by omega)
        obtain ⟨b, off, rfl, hbl, hzb⟩ := (HBA.out.below HB.out (Nat.le_refl _)).2.2.2 (by omega)
        have hcell := bytes_cell hzb his
        have hke := stripAt_keep his
        have hsk := stripAt_skip his
        have hle := readE_le s i
        have hone := u8s_one_ext s i his
        generalize readE s i = e at *
        obtain ⟨z, ew, eo, el⟩ := e
        simp only at hke hsk hle
        simp only [Es.val] at hrd
        have HRD := hid hrd
        have HONE := hid hone
        have hst := HST.out
        rw [Nat.add_zero] at hst
        clear hrd hzb hone HST
        by_cases hz : z = 0
        · subst hz
          have HKE := hid (hst.trans (congrArg (acc ++ ·) (hke rfl)))
          clear hke hsk hle hst
          generalize byt s i = c at *
          go_wp2_with fail
          refine HRD.out.mono ?_
          rintro e w2 ⟨rfl, hb2⟩
          have hcell2 := (hb2.cell (p := ⟨b, _, none⟩) hbl).trans hcell
          have hown2 := own_kept HOWN.out (grown_of_below hb2 none) fun _ _ e => by cases e
          have HB2 := hid (HB.out.trans (hb2.mono HB.out.size))
          obtain ⟨A0, cp0, rfl⟩ := owns_slice hown2
          have HOWN2 := hid hown2
          clear hb2 hown2 hcell hbl
          go_wp2_with (at_builtin; go_must (refine wpList_append_any _ rfl (.tmp 22) (.tmp 27) 22 rfl w.heap.size 5 i0 (.int .u8 0) 1 1 Tryd.underlying22 hi0 hz0 hz1 hz2 rfl (by decide) _ k (u8s acc) rfl (HOWN2.out.alloc _) _ (some ⟨w2.heap.size, 0, none⟩) 1 1 [.int .u8 c] rfl (reads_blk1 (Blk.new w2 _ _)) (by simp [Value.oneCell']) (by unfold maxLen; omega) (by omega) (by have := HB2.out.size; simp; omega) ?_); intro v' w6 ho6 hg6 hl6; have hb6 := (HB2.out.alloc HB2.out.size _).grown hg6 (by have := HB2.out.size; simp; omega) (own_ge HOWN2.out); have HO6 := hid ho6; have HB6 := hid hb6; clear ho6 hg6 hl6 hb6)
          go_roundg (n - (i + 1))
          case measure => omega
          case rel =>
            refine ⟨i + 1, k + 1, 0, _, acc ++ s.extract i (i + 1), rfl, rfl, rfl, by omega, by omega, Nat.le_refl _, by omega, ?_, ?_, ?_, HB6⟩
            · show _ = _
              rw [ByteArray.size_append, HK.out, ByteArray.size_extract]
              omega
            · show _ = _
              rw [HKE.out, append_assoc3]
            · show World.ownsRow _ _ _ _ _ _ _
              rw [u8s_append, HONE.out]
              exact HO6.out
        · have HSK := hid (hst.trans (congrArg (acc ++ ·) (hsk hz)))
          have hle' : i + z ≤ s.size := hle.resolve_left hz
          obtain ⟨y, rfl⟩ : ∃ y, z = y + 1 := ⟨z - 1, by omega⟩
          have hz' : (0 : Int) < ((y + 1 : Nat) : Int) := by omega
          have hz2' : (0 : Int) < (y : Int) + 1 := by omega
          have hz3 : ((y : Int) + 1) - 1 = (y : Int) := by omega
          have hyb : (y : Int) ≤ 9223372036854775807 := by have := HN.out; omega
          have HLE := hid hle'
          clear hke hsk hle hle' hcell hst
          go_wp2_with fail
          refine HRD.out.mono ?_
          rintro e w2 ⟨rfl, hb2⟩
          have hown2 := own_kept HOWN.out (grown_of_below hb2 none) fun _ _ e => by cases e
          have HB2 := hid (HB.out.trans (hb2.mono HB.out.size))
          have HOWN2 := hid hown2
          clear hb2 hown2
          go_wp2_with fail
          go_roundg (n - (i + 1))
          case measure => omega
          case rel =>
            refine ⟨i + 1, k, y, _, acc, rfl, rfl, rfl, by omega, by have := HLE.out; have := HN.out; omega, Nat.le_refl _, by omega, HK, ?_, HOWN2, HB2⟩
            show _ = _
            rw [HSK.out, show i + (y + 1) = i + 1 + y by omega]
      · obtain ⟨y, rfl⟩ : ∃ y, q = y + 1 := ⟨q - 1, by omega⟩
        have hq0 : ¬ ((y + 1 : Nat) : Int) = 0 := by omega
        have hq0' : ¬ (y : Int) + 1 = 0 := by omega
        have hq0b : ((y : Int) + 1 == 0) = false := by simpa using hq0'
        have hz2' : (0 : Int) < (y : Int) + 1 := by omega
        have hz3 : ((y : Int) + 1) - 1 = (y : Int) := by omega
        have hyb : (y : Int) ≤ 9223372036854775807 := by omega
        go_wp2_with fail
        go_roundg (n - (i + 1))
        case measure => omega
        case rel =>
          refine ⟨i + 1, k, y, _, acc, rfl, rfl, rfl, by omega, by omega, Nat.le_refl _, by omega, HK, ?_, HOWN, HB⟩
          show _ = _
          rw [HST.out, show i + (y + 1) = i + 1 + y by omega]
    · have hlt' : ¬ (i : Int) < (n : Int) := by omega
      have hE : stripAt s 0 = acc := by rw [HST.out, stripAt_end (by have := HN.out; omega), append_empty]
      have HE := hid hE
      have HJ := hid (show i = n by omega)
      clear hE
      go_wp2_with fail
      go_ret
      rw [HE.out, HK.out]
      exact ⟨_, rfl, HB.out, HOWN.out⟩
end Go.Proofs.YtlopigkaibkblaaDoor
