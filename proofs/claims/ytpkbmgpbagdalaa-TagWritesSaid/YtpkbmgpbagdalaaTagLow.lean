/- Chapter 18: small letters. -/
import Derived.WalkKit
import Derived.BigQuiet
import Derived.Test.YtpkbmgpbagdalaaTagV
import Derived.Lib.ConvBytes
namespace Go.Proofs.Ytpkbmgpbagdalaa
open Go.RowKit
open Go.Lib (hid)
set_option linter.unusedVariables false

/-- A byte, as a small letter if it is a great one. -/
def lowU (c : UInt8) : UInt8 := if 65 ≤ c.toNat ∧ c.toNat ≤ 90 then UInt8.ofNat (c.toNat + 32) else c
/-- A text with small letters. -/
def lowerB (s : ByteArray) : ByteArray := ⟨s.data.map lowU⟩
/-- Only its first bytes so. -/
def lowPart (s : ByteArray) (k : Nat) : ByteArray := ⟨s.data.mapIdx fun i c => if i < k then lowU c else c⟩

theorem lowPart_size (s : ByteArray) (k : Nat) : (lowPart s k).size = s.size := by
  show (s.data.mapIdx _).size = s.data.size
  simp
theorem lowerB_size (s : ByteArray) : (lowerB s).size = s.size := by
  show (s.data.map _).size = s.data.size
  simp
theorem lowPart_zero (s : ByteArray) : lowPart s 0 = s := by
  apply ByteArray.ext
  apply Array.ext <;> simp [lowPart]
theorem lowPart_all (s : ByteArray) {k : Nat} (h : s.size ≤ k) : lowPart s k = lowerB s := by
  apply ByteArray.ext
  apply Array.ext
  · simp [lowPart, lowerB]
  · intro i h1 h2
    have : i < k := by have : s.data.size = s.size := rfl; simp [lowPart] at h1; omega
    simp [lowPart, lowerB, this]
theorem lowU_lt (c : UInt8) : (lowU c).toNat = if 65 ≤ c.toNat ∧ c.toNat ≤ 90 then c.toNat + 32 else c.toNat := by
  unfold lowU
  split
  · rename_i h
    rw [UInt8.toNat_ofNat']
    omega
  · rfl
theorem byt_lowPart (s : ByteArray) (k i : Nat) (h : i < s.size) : byt (lowPart s k) i = if i < k then ((lowU (s.data.getD i 0)).toNat : Int) else byt s i := by
  have hd : i < s.data.size := h
  unfold byt lowPart
  simp only [Array.getD_eq_getD_getElem?, Array.getElem?_mapIdx, Array.getElem?_eq_getElem hd, Option.map_some, Option.getD_some]
  split <;> rfl

theorem getB (s : ByteArray) (i : Nat) (h : i < s.size) : s[i].toNat = (byt s i).toNat := by
  have hd : i < s.data.size := h
  unfold byt
  simp only [Array.getD_eq_getD_getElem?, Array.getElem?_eq_getElem hd, Option.getD_some]
  rfl
theorem bytes_of_byt {w : World} {b o : Nat} {s : ByteArray} (h : ∀ i, i < s.size → w.cell? ⟨b, o + i, none⟩ = some (.int .u8 (byt s i))) : Lib.Bytes w b o s := by
  intro i hi
  rw [h i hi]
  have : byt s i = (s[i].toNat : Int) := by
    have := getB s i hi
    have h0 : 0 ≤ byt s i := by unfold byt; omega
    omega
  rw [this]

theorem byt_nonneg (s : ByteArray) (i : Nat) : 0 ≤ byt s i ∧ byt s i ≤ 255 := by
  unfold byt
  have := (s.data.getD i 0).toNat_lt
  omega
/-- A byte's small letter, as a number. -/
def lowI (c : Int) : Int := if 65 ≤ c ∧ c ≤ 90 then c + 32 else c
theorem byt_low (s : ByteArray) (i : Nat) : ((lowU (s.data.getD i 0)).toNat : Int) = lowI (byt s i) := by
  rw [lowU_lt]
  unfold lowI byt
  split
  · rw [if_pos (by omega)]; omega
  · rw [if_neg (by omega)]
theorem byt_part (s : ByteArray) (k i : Nat) (h : i < s.size) : byt (lowPart s k) i = if i < k then lowI (byt s i) else byt s i := by
  rw [byt_lowPart s k i h]
  split
  · exact byt_low s i
  · rfl
theorem byt_lowerB (s : ByteArray) (i : Nat) (h : i < s.size) : byt (lowerB s) i = lowI (byt s i) := by
  rw [← lowPart_all s (Nat.le_refl _), byt_part s _ i h, if_pos h]
theorem bytes_part {w : World} {b k : Nat} {s : ByteArray} (hk : k < s.size) (h : Lib.Bytes w b 0 (lowPart s k)) (hl : ¬ (65 ≤ byt s k ∧ byt s k ≤ 90)) : Lib.Bytes w b 0 (lowPart s (k + 1)) := by
  apply bytes_of_byt
  intro i hi
  rw [lowPart_size] at hi
  have := bytes_cell h (i := i) (by rw [lowPart_size]; exact hi)
  rw [this]
  have e : byt (lowPart s k) i = byt (lowPart s (k + 1)) i := by
    rw [byt_part s k i hi, byt_part s (k + 1) i hi]
    by_cases h1 : i < k
    · rw [if_pos h1, if_pos (by omega)]
    · by_cases h2 : i = k
      · subst h2
        rw [if_neg h1, if_pos (by omega)]
        unfold lowI
        rw [if_neg hl]
      · rw [if_neg h1, if_neg (by omega)]
  rw [e]
theorem bytes_part_set {w : World} {b k : Nat} {s : ByteArray} (hk : k < s.size) (h : Lib.Bytes w b 0 (lowPart s k)) (hl : 65 ≤ byt s k ∧ byt s k ≤ 90) : Lib.Bytes (w.setCell ⟨b, k, none⟩ (.int .u8 (byt s k + 32))) b 0 (lowPart s (k + 1)) := by
  apply bytes_of_byt
  intro i hi
  rw [lowPart_size] at hi
  have hc := bytes_cell h (i := i) (by rw [lowPart_size]; exact hi)
  rw [byt_part s (k + 1) i hi, Nat.zero_add]
  rw [Nat.zero_add] at hc
  by_cases h2 : i = k
  · subst h2
    rw [World.cell?_setCell_same _ _ _ hc, if_pos (by omega)]
    unfold lowI
    rw [if_pos hl]
  · rw [World.cell?_setCell_other _ _ _ _ (fun e => h2 (by injection e with _ e2 _; exact e2.symm)), hc, byt_part s k i hi]
    by_cases h1 : i < k
    · rw [if_pos h1, if_pos (by omega)]
    · rw [if_neg h1, if_neg (by omega)]

theorem bytesWorld_new (w : World) (e : TypeId) (s : ByteArray) : Lib.Bytes (Lib.bytesWorld w e s) w.heap.size 0 s := by
  apply bytes_of_byt
  intro i hi
  rw [Nat.zero_add, Lib.bytesWorld_cell w e s i hi]
  have hd : i < s.data.size := hi
  unfold byt
  simp [Array.getD_eq_getD_getElem?, List.getD]
theorem bytesWorld_free (w : World) (e : TypeId) (s : ByteArray) (i : Nat) (hi : i < s.size) : (Lib.bytesWorld w e s).frozen? ⟨w.heap.size, i, none⟩ = false := by
  have hs : s.size ≤ (Lib.bytesCells w e s).size := by
    simp [Lib.bytesCells]
  simp [World.frozen?, Lib.bytesWorld_at_new]
  omega
theorem bytesWorld_below (w : World) (e : TypeId) (s : ByteArray) : Below w.heap.size w (Lib.bytesWorld w e s) :=
  ⟨rfl, rfl, rfl, by rw [Lib.bytesWorld_size]; omega, fun k hk => Lib.bytesWorld_at_old w e s k hk⟩

set_option maxRecDepth 100000 in
set_option maxHeartbeats 4000000 in
theorem lower_any (s : ByteArray) (hs : s.size ≤ 9223372036854775807) (w : World) : Calls Try.prog 12 #[.string s] w fun e w' => e = .returned (.string (lowerB s)) ∧ Below w.heap.size w w' := by
  have hk := Lib.run_convert_string_bytes (P := Try.prog) w 9 22 5 s Try.underlying9 Try.underlying22 Try.underlying5
  have hback := fun (W : World) (z : ByteArray) (hz : Lib.Bytes W w.heap.size 0 z) (n cap : Nat) (hn : n = z.size) =>
    Lib.run_convert_window (P := Try.prog) W 22 5 9 Try.underlying22 Try.underlying5 Try.underlying9 w.heap.size 0 z hz 0 n cap (by omega)
  generalize hG : grownCap w s.size 0 5 = cap at hk
  have HBK := hid hback
  clear hback hG
  go_enter Try.func12, Try.ntmps12
  have hb0 := bytesWorld_below w 5 s
  have hz0 := bytesWorld_new w 5 s
  have hf0 := bytesWorld_free w 5 s
  have hl0 := Lib.bytesWorld_size w 5 s
  generalize Lib.bytesWorld w 5 s = w1 at *
  have HB0 := hid hb0
  have HZ0 := hid hz0
  have HF0 := hid hf0
  clear hb0 hz0 hf0
  go_wp2_with fail
  go_loopg [10] s.size (fun kx s10 wr => ∃ (k : Nat), s10 = .int .i64 k ∧ k ≤ s.size ∧ s.size - k ≤ kx ∧ Hid (Below w.heap.size w wr) ∧ Hid (Lib.Bytes wr w.heap.size 0 (lowPart s k)) ∧ Hid (∀ i, i < s.size → wr.frozen? ⟨w.heap.size, i, none⟩ = false) ∧ Hid (w.heap.size < wr.heap.size))
  case atStart => exact ⟨0, rfl, Nat.zero_le _, by omega, HB0.out, by rw [lowPart_zero]; exact HZ0.out, HF0.out, by show _ < _; omega⟩
  case round =>
    obtain ⟨k, rfl, hk, hg, HB, HZ, HF, HL⟩ := hrel
    by_cases hlt : k < s.size
    · have hlt' : (k : Int) < (s.size : Int) := by omega
      have hcell := bytes_cell HZ.out (i := k) (by rw [lowPart_size]; exact hlt)
      rw [byt_lowPart s k k hlt, if_neg (by omega), Nat.zero_add] at hcell
      have hfr := HF.out k hlt
      have hr := byt_nonneg s k
      generalize hcb : byt s k = c at hcell hr
      have HCB := hid hcb
      have hk1 : (k : Int) + 1 ≤ 9223372036854775807 := by omega
      clear hcb
      by_cases h65 : (65 : Int) ≤ c
      · by_cases h90 : c ≤ (90 : Int)
        · have w1 : IntKind.u8.wrap (c + 97) = c + 97 := wraps_u8 _ (by omega) (by omega)
          have w2 : IntKind.u8.wrap (c + 97 - 65) = c + 32 := by rw [show c + 97 - 65 = c + 32 by omega]; exact wraps_u8 _ (by omega) (by omega)
          go_wp2_with fail
          go_roundg (s.size - (k + 1))
          case measure => omega
          case rel =>
            refine ⟨k + 1, rfl, by omega, Nat.le_refl _, Below.setCell (p := ⟨w.heap.size, k, none⟩) HB.out (Nat.le_refl _) _, ?_, ?_, ?_⟩
            · show Lib.Bytes _ _ _ _
              have := bytes_part_set hlt HZ.out (by rw [HCB.out]; omega)
              rwa [HCB.out] at this
            · intro i hi
              rw [World.frozen?_setCell]
              exact HF.out i hi
            · show _ < _
              rw [size_set]
              exact HL.out
        · go_wp2_with fail
          go_roundg (s.size - (k + 1))
          case measure => omega
          case rel => exact ⟨k + 1, rfl, by omega, Nat.le_refl _, HB, bytes_part hlt HZ.out (by rw [HCB.out]; omega), HF, HL⟩
      · go_wp2_with fail
        go_roundg (s.size - (k + 1))
        case measure => omega
        case rel => exact ⟨k + 1, rfl, by omega, Nat.le_refl _, HB, bytes_part hlt HZ.out (by rw [HCB.out]; omega), HF, HL⟩
    · have hlt' : ¬ (k : Int) < (s.size : Int) := by omega
      have hcv := HBK.out wr (lowPart s k) HZ.out s.size cap (by rw [lowPart_size])
      rw [Nat.zero_add, Nat.zero_add, lowPart_all s (by omega), show (lowerB s).extract 0 s.size = lowerB s by rw [← lowerB_size s]; exact ByteArray.extract_zero_size] at hcv
      go_wp2_with fail
      go_ret
      exact ⟨rfl, HB.out⟩
end Go.Proofs.Ytpkbmgpbagdalaa
