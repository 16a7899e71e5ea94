/- Chapter 18: small letters, by the document. -/
import Derived.Test.YtpkbmgpbagdalaaTagLow
namespace Go.Proofs.Ytpkbmgpbagdalaa
open Go.RowKit
open Go.Lib (hid)
set_option linter.unusedVariables false

/-- One byte. -/
def one (c : Int) : ByteArray := ⟨#[UInt8.ofNat c.toNat]⟩
theorem take_snoc (s : ByteArray) (k : Nat) (h : k < s.size) : (lowerB s).extract 0 k ++ one (lowI (byt s k)) = (lowerB s).extract 0 (k + 1) := by
  have hb := byt_nonneg s k
  have hl := byt_lowerB s k h
  have hb2 := byt_nonneg (lowerB s) k
  apply ByteArray.ext
  have hs : (lowerB s).data.size = s.size := lowerB_size s
  have hs2 : (lowerB s).size = s.size := lowerB_size s
  rw [ByteArray.data_append]
  simp only [ByteArray.data_extract, one]
  apply Array.ext
  · simp; omega
  · intro i h1 h2
    simp only [Array.getElem_append, Array.getElem_extract, Nat.zero_add]
    split
    · rfl
    · rename_i hn
      have hik : i = k := by simp at h1 h2 hn; omega
      subst hik
      simp only [List.getElem_toArray]
      simp only [Array.size_extract]
      have : i - (min i (lowerB s).data.size - 0) = 0 := by omega
      simp only [this, List.getElem_cons_zero]
      rw [← hl]
      unfold byt
      rw [Array.getD_eq_getD_getElem?, Array.getElem?_eq_getElem (by omega)]
      simp

theorem conv_one (w : World) (c : Int) (h0 : 0 ≤ c) (h1 : c ≤ 255) : (convert 22 9 (.slice (some ⟨w.heap.size, 0, none⟩) 1 1)).run Try.prog (w.alloc (.cells #[.int .u8 c] 5)) = .ok (.string (one c)) (w.alloc (.cells #[.int .u8 c] 5)) := by
  have hb : Lib.Bytes (w.alloc (.cells #[.int .u8 c] 5)) w.heap.size 0 (one c) := by
    apply bytes_of_byt
    intro i hi
    have hi0 : i = 0 := by have : (one c).size = 1 := rfl; omega
    subst hi0
    rw [(Blk.new w 5 #[.int .u8 c]).cell 0]
    have : byt (one c) 0 = c := by
      show (((UInt8.ofNat c.toNat).toNat : Nat) : Int) = c
      rw [UInt8.toNat_ofNat']
      omega
    rw [this]
    rfl
  have := Lib.run_convert_window (P := Try.prog) (w.alloc (.cells #[.int .u8 c] 5)) 22 5 9 Try.underlying22 Try.underlying5 Try.underlying9 w.heap.size 0 (one c) hb 0 1 1 (by have : (one c).size = 1 := rfl; omega)
  have he : (one c).extract 0 (0 + 1) = one c := ByteArray.extract_zero_size (b := one c)
  rw [he] at this
  exact this

set_option maxRecDepth 100000 in
set_option maxHeartbeats 4000000 in
theorem rlower_any (s : ByteArray) (hs : s.size ≤ 9223372036854775807) (w : World) : Calls Try.prog 14 #[.string s] w fun e w' => e = .returned (.string (lowerB s)) ∧ Below w.heap.size w w' := by
  go_enter Try.func14, Try.ntmps14
  go_wp2_with fail
  go_loopg [3, 4] s.size (fun kx s3 s4 wr => ∃ (k : Nat), s3 = .string ((lowerB s).extract 0 k) ∧ s4 = .int .i64 k ∧ k ≤ s.size ∧ s.size - k ≤ kx ∧ Hid (Below w.heap.size w wr))
  case atStart => exact ⟨0, by rw [show (lowerB s).extract 0 0 = ByteArray.empty by apply ByteArray.ext; simp]; rfl, rfl, Nat.zero_le _, by omega, Below.refl _ _⟩
  case round =>
    obtain ⟨k, rfl, rfl, hk, hg, HB⟩ := hrel
    by_cases hlt : k < s.size
    · have hlt' : (k : Int) < (s.size : Int) := by omega
      have hT := take_snoc s k hlt
      have HT := hid hT
      have hr := byt_nonneg s k
      have hk1 : (k : Int) + 1 ≤ 9223372036854775807 := by omega
      have hidx : ((s[k].toNat : Nat) : Int) = byt s k := by
        have := getB s k hlt
        have h0 := byt_nonneg s k
        omega
      clear hT
      have hl0 : ((lowerB s).extract 0 k).size ≤ k := by rw [ByteArray.size_extract]; omega
      generalize (lowerB s).extract 0 k = t0 at *
      generalize byt s k = c at *
      by_cases h65 : (65 : Int) ≤ c
      · by_cases h90 : c ≤ (90 : Int)
        · have w1 : IntKind.u8.wrap (c + 32) = c + 32 := wraps_u8 _ (by omega) (by omega)
          have hcv := fun W => conv_one W (c + 32) (by omega) (by omega)
          have HT2 := hid (show t0 ++ one (c + 32) = (lowerB s).extract 0 (k + 1) by rw [← HT.out]; unfold lowI; rw [if_pos ⟨h65, h90⟩])
          have hl1 : (one (c + 32)).size = 1 := rfl
          generalize one (c + 32) = t1 at hcv HT2 hl1
          have hlen : ¬ (t0.size + t1.size > 9223372036854775807) := by omega
          clear hl0 hl1
          go_wp2_with fail
          rw [HT2.out]
          go_roundg (s.size - (k + 1))
          case measure => omega
          case rel => exact ⟨k + 1, rfl, rfl, by omega, Nat.le_refl _, HB.out.alloc HB.out.size _⟩
        · have hcv := fun W => conv_one W c (by omega) (by omega)
          have HT2 := hid (show t0 ++ one c = (lowerB s).extract 0 (k + 1) by rw [← HT.out]; unfold lowI; rw [if_neg (fun h => h90 h.2)])
          have hl1 : (one c).size = 1 := rfl
          generalize one c = t1 at hcv HT2 hl1
          have hlen : ¬ (t0.size + t1.size > 9223372036854775807) := by omega
          clear hl0 hl1
          go_wp2_with fail
          rw [HT2.out]
          go_roundg (s.size - (k + 1))
          case measure => omega
          case rel => exact ⟨k + 1, rfl, rfl, by omega, Nat.le_refl _, HB.out.alloc HB.out.size _⟩
      · have hcv := fun W => conv_one W c (by omega) (by omega)
        have HT2 := hid (show t0 ++ one c = (lowerB s).extract 0 (k + 1) by rw [← HT.out]; unfold lowI; rw [if_neg (fun h => h65 h.1)])
        have hl1 : (one c).size = 1 := rfl
        generalize one c = t1 at hcv HT2 hl1
        have hlen : ¬ (t0.size + t1.size > 9223372036854775807) := by omega
        clear hl0 hl1
        go_wp2_with fail
        rw [HT2.out]
        go_roundg (s.size - (k + 1))
        case measure => omega
        case rel => exact ⟨k + 1, rfl, rfl, by omega, Nat.le_refl _, HB.out.alloc HB.out.size _⟩
    · have hlt' : ¬ (k : Int) < (s.size : Int) := by omega
      have hall : (lowerB s).extract 0 k = lowerB s := by
        obtain rfl : k = s.size := by omega
        rw [← lowerB_size s]; exact ByteArray.extract_zero_size
      rw [hall]
      clear hall
      go_wp2_with fail
      go_ret
      exact ⟨rfl, HB.out⟩
end Go.Proofs.Ytpkbmgpbagdalaa
