/- Chapter 18: plain words: the law's and the program's walks; whether a text has a quotation mark; a slash, once or not at all. -/
import Derived.Test.YtpkbmgpbagdalaaTagRL
import Derived.Test.YtpkbmgpbagdalaaTagC
import Derived.Test.YtpkbmgpbagdalaaTagPl
import Derived.Lib.Bytealg
import Derived.Laws.Externs
import Derived.Deep.LoopGhost
namespace Go.Proofs.Ytpkbmgpbagdalaa
open Go.RowKit
open Go.Lib (hid)
set_option linter.unusedVariables false

/-- A byte at which a plain word may have what it has. -/
def OkAt (s : ByteArray) (i : Nat) : Prop := (97 ≤ byt s i ∧ byt s i ≤ 122) ∨ (i ≠ 0 ∧ 48 ≤ byt s i ∧ byt s i ≤ 57)
/-- A plain word: small letters and digits, a letter first. -/
def PlainP (s : ByteArray) : Prop := 0 < s.size ∧ ∀ i, i < s.size → OkAt s i
open Classical in
noncomputable def plainB (s : ByteArray) : Bool := decide (PlainP s)
theorem plainB_yes {s : ByteArray} (h : PlainP s) : plainB s = true := by unfold plainB; exact @decide_eq_true _ (Classical.propDecidable _) h
theorem plainB_no {s : ByteArray} (h : ¬ PlainP s) : plainB s = false := by unfold plainB; exact @decide_eq_false _ (Classical.propDecidable _) h
theorem plainB_iff {s : ByteArray} : plainB s = true ↔ PlainP s := by unfold plainB; exact @decide_eq_true_iff _ (Classical.propDecidable _)

set_option maxRecDepth 100000 in
set_option maxHeartbeats 4000000 in
theorem lawplain_any (s : ByteArray) (hs : s.size ≤ 1048576) (w : World) :
    Calls Try.prog 15 #[.string s] w fun e w' => e = .returned (.bool (plainB s)) ∧ w' = w := by
  go_enter Try.func15, Try.ntmps15
  go_wp2_with fail
  go_loopg [3] s.size (fun kx s3 wr => ∃ (i : Nat), s3 = .int .i64 i ∧ i ≤ s.size ∧ s.size - i ≤ kx ∧ wr = w ∧ Hid (∀ j, j < i → OkAt s j))
  case atStart => exact ⟨0, rfl, Nat.zero_le _, by omega, rfl, fun j h => absurd h (Nat.not_lt_zero _)⟩
  case round =>
    obtain ⟨i, rfl, hi, hk, hw, HA⟩ := hrel
    obtain rfl : w = wr := hw.symm
    by_cases hlt : i < s.size
    · have hlt' : (i : Int) < (s.size : Int) := by omega
      have hidx : ((s[i].toNat : Nat) : Int) = byt s i := by
        have := getB s i hlt
        have h0 := byt_nonneg s i
        omega
      have hi1 : (i : Int) + 1 ≤ 9223372036854775807 := by omega
      have HOK : Hid (OkAt s i ↔ ((97 ≤ byt s i ∧ byt s i ≤ 122) ∨ (i ≠ 0 ∧ 48 ≤ byt s i ∧ byt s i ≤ 57))) := Iff.rfl
      have hno : ¬ OkAt s i → ¬ PlainP s := fun h hp => h (hp.2 i hlt)
      have hyes : OkAt s i → ∀ j, j < i + 1 → OkAt s j := fun h j hj => by
        by_cases e : j = i
        · rw [e]; exact h
        · exact HA.out j (by omega)
      have HNO := hid hno
      have HYES := hid hyes
      clear hno hyes
      generalize byt s i = c at *
      by_cases h1 : (97 : Int) ≤ c
      · by_cases h2 : c ≤ (122 : Int)
        · have HN := hid (HYES.out (HOK.out.2 (.inl ⟨h1, h2⟩)))
          go_wp2_with fail
          go_roundg (s.size - (i + 1))
          case measure => omega
          case rel => exact ⟨i + 1, rfl, by omega, Nat.le_refl _, rfl, HN⟩
        · have HN := hid (HNO.out fun h => by rcases HOK.out.1 h with h | h <;> omega)
          have h3 : ¬ c < (48 : Int) := by omega
          have h4 : (57 : Int) < c := by omega
          by_cases hi0 : i = 0
          · subst hi0
            go_wp2_with fail
            go_ret
            rw [plainB_no HN.out]
            exact ⟨rfl, rfl⟩
          · have hi0' : ¬ (i : Int) = 0 := by omega
            have hi0b : ((i : Int) == 0) = false := by simpa using hi0'
            go_wp2_with fail
            go_ret
            rw [plainB_no HN.out]
            exact ⟨rfl, rfl⟩
      · by_cases hi0 : i = 0
        · have HN := hid (HNO.out fun h => by rcases HOK.out.1 h with h | h <;> omega)
          subst hi0
          go_wp2_with fail
          go_ret
          rw [plainB_no HN.out]
          exact ⟨rfl, rfl⟩
        · have hi0' : ¬ (i : Int) = 0 := by omega
          have hi0b : ((i : Int) == 0) = false := by simpa using hi0'
          by_cases h3 : c < (48 : Int)
          · have HN := hid (HNO.out fun h => by rcases HOK.out.1 h with h | h <;> omega)
            go_wp2_with fail
            go_ret
            rw [plainB_no HN.out]
            exact ⟨rfl, rfl⟩
          · by_cases h4 : (57 : Int) < c
            · have HN := hid (HNO.out fun h => by rcases HOK.out.1 h with h | h <;> omega)
              go_wp2_with fail
              go_ret
              rw [plainB_no HN.out]
              exact ⟨rfl, rfl⟩
            · have HN := hid (HYES.out (HOK.out.2 (.inr ⟨hi0, by omega, by omega⟩)))
              go_wp2_with fail
              go_roundg (s.size - (i + 1))
              case measure => omega
              case rel => exact ⟨i + 1, rfl, by omega, Nat.le_refl _, rfl, HN⟩
    · have hlt' : ¬ (i : Int) < (s.size : Int) := by omega
      have hall : ∀ j, j < s.size → OkAt s j := fun j hj => HA.out j (by omega)
      have HALL := hid hall
      clear hall
      by_cases h0 : (0 : Int) < (s.size : Int)
      · have h0' : 0 < s.size := by omega
        go_wp2_with fail
        go_ret
        rw [plainB_yes ⟨by omega, HALL.out⟩]
        exact ⟨rfl, rfl⟩
      · have h0' : ¬ 0 < s.size := by omega
        go_wp2_with fail
        go_ret
        rw [plainB_no fun h => absurd h.1 (by omega)]
        exact ⟨rfl, rfl⟩

theorem byteString_any (s : ByteArray) (c : Int) (w : World) :
    Calls Try.prog 66 #[.string s, .int .u8 c] w fun e w' => e = .returned (.int .i64 (Lib.indexByte s.data.toList c.toNat.toUInt8)) ∧ w' = w := by
  go_enter Try.func66, Try.ntmps66
  go_wp2
  rw [run_callFunc_extern Try.func71 (by kernel_rfl) (by kernel_rfl) (by kernel_rfl) (e := Extern.BytealgIndexByte.indexByte) (by kernel_rfl), Lib.run_indexByteString]
  simp only [Result.andThen]
  rw [Oper.upon_value]
  go_wp2
  go_ret
  exact ⟨rfl, rfl⟩

theorem index1_any (s : ByteArray) (c : UInt8) (w : World) :
    Calls Try.prog 58 #[.string s, .string ⟨#[c]⟩] w fun e w' => e = .returned (.int .i64 (Lib.indexByte s.data.toList c)) ∧ w' = w := by
  go_enter Try.func58, Try.ntmps58
  go_wp2_with (go_at_call 66; refine (byteString_any _ _ _).mono ?_; rintro e w' ⟨rfl, rfl⟩)
  · have h : ([c] == s.toList) = true := by assumption
    go_ret
    refine ⟨?_, rfl⟩
    have e : s.data.toList = [c] := by rw [← Lib.toList_data]; exact (beq_iff_eq.1 h).symm
    rw [e]
    simp [Lib.indexByte]
  · go_ret
    exact ⟨rfl, rfl⟩
theorem sindex1_any (s : ByteArray) (c : UInt8) (w : World) :
    Calls Try.prog 43 #[.string s, .string ⟨#[c]⟩] w fun e w' => e = .returned (.int .i64 (Lib.indexByte s.data.toList c)) ∧ w' = w := by
  go_enter Try.func43, Try.ntmps43
  go_wp2_with (go_at_call 58; refine (index1_any _ _ _).mono ?_; rintro e w' ⟨rfl, rfl⟩)
  go_ret
  exact ⟨rfl, rfl⟩
theorem contains1_any (s : ByteArray) (c : UInt8) (w : World) :
    Calls Try.prog 28 #[.string s, .string ⟨#[c]⟩] w fun e w' => e = .returned (.bool (decide (0 ≤ Lib.indexByte s.data.toList c))) ∧ w' = w := by
  go_enter Try.func28, Try.ntmps28
  go_wp2_with (go_at_call 43; refine (sindex1_any _ _ _).mono ?_; rintro e w' ⟨rfl, rfl⟩)
  go_ret
  exact ⟨rfl, rfl⟩
set_option maxRecDepth 1000000 in
theorem repeat0_any (s : ByteArray) (w : World) : Calls Try.prog 27 #[.string s, .int .i64 0] w fun e w' => e = .returned (.string ⟨#[]⟩) ∧ w' = w := by
  go_enter Try.func27, Try.ntmps27
  go_wp2
  go_ret
  exact ⟨rfl, rfl⟩
set_option maxRecDepth 1000000 in
theorem repeat1_any (s : ByteArray) (w : World) : Calls Try.prog 27 #[.string s, .int .i64 1] w fun e w' => e = .returned (.string s) ∧ w' = w := by
  go_enter Try.func27, Try.ntmps27
  go_wp2
  go_ret
  exact ⟨rfl, rfl⟩

theorem indexByte_iff (l : List UInt8) (c : UInt8) : 0 ≤ Lib.indexByte l c ↔ c ∈ l := by
  induction l with
  | nil => simp [Lib.indexByte]
  | cons b l ih =>
    have hge := Lib.indexByte_ge l c
    unfold Lib.indexByte
    by_cases h : b = c
    · subst h
      simp
    · have h' : (b == c) = false := by simpa using h
      rw [h']
      by_cases h1 : Lib.indexByte l c = -1
      · have : (Lib.indexByte l c == -1) = true := by simpa using h1
        rw [this]
        have hn : c ∉ l := fun hm => by have := ih.2 hm; omega
        simp [hn, Ne.symm h]
      · have : (Lib.indexByte l c == -1) = false := by simpa using h1
        rw [this]
        have hm : c ∈ l := ih.1 (by omega)
        simp [hm]
        omega
/-- Has it a quotation mark? -/
def quoteB (s : ByteArray) : Bool := decide (0 ≤ Lib.indexByte s.data.toList 34)
theorem quoteB_iff (s : ByteArray) : quoteB s = true ↔ ∃ i, i < s.size ∧ byt s i = 34 := by
  unfold quoteB
  rw [decide_eq_true_iff, indexByte_iff]
  constructor
  · intro h
    obtain ⟨i, hi, he⟩ := List.getElem_of_mem h
    have hi' : i < s.data.size := by simpa using hi
    refine ⟨i, hi', ?_⟩
    unfold byt
    rw [Array.getD_eq_getD_getElem?, Array.getElem?_eq_getElem hi']
    have : s.data[i] = 34 := by simpa using he
    simp [this]
  · rintro ⟨i, hi, he⟩
    have hi' : i < s.data.size := hi
    unfold byt at he
    rw [Array.getD_eq_getD_getElem?, Array.getElem?_eq_getElem hi'] at he
    have h34 : s.data[i] = 34 := by
      apply UInt8.toNat_inj.1
      simp at he
      have : (34 : UInt8).toNat = 34 := rfl
      omega
    rw [← h34]
    simp

theorem plain_low {s : ByteArray} (h : ∀ i, i < s.size → ¬ (65 ≤ byt s i ∧ byt s i ≤ 90)) : lowerB s = s := by
  apply ext_byt (lowerB_size s)
  intro i hi
  rw [lowerB_size] at hi
  rw [byt_lowerB s i hi]
  unfold lowI
  rw [if_neg (h i hi)]
theorem low_plain {s : ByteArray} (h : lowerB s = s) (i : Nat) (hi : i < s.size) : ¬ (65 ≤ byt s i ∧ byt s i ≤ 90) := by
  intro hc
  have := byt_lowerB s i hi
  rw [h] at this
  unfold lowI at this
  rw [if_pos hc] at this
  omega
end Go.Proofs.Ytpkbmgpbagdalaa
