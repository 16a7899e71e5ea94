/- Chapter 24: the plain place of a raw one; parts of the bytes: the plain law. -/
import Derived.Test.YtlfbgaknljdanaaGreatDoorFlP
import Derived.Test.YtlfbgaknljdanaaGreatDoorFlM1
namespace Go.Proofs.YtlfbgaknljdanaaGreatDoor
set_option linter.unusedVariables false
set_option maxRecDepth 100000

theorem ext_join (s : ByteArray) {a b : Nat} (h : a ≤ b) (hb : b ≤ s.size) : s.extract 0 a ++ s.extract a b = s.extract 0 b := by
  apply ByteArray.ext
  rw [ByteArray.data_append, ByteArray.data_extract, ByteArray.data_extract, ByteArray.data_extract, Array.extract_append_extract]
  congr 1 <;> omega
/-- The plain place of a raw one that is the raw one of a place. -/
theorem plainR_back {s : ByteArray} {i : Nat} (hi : i ≤ (exAll s).length) {e : Ending} (h : PlainR s (exAll s) ((rawF s (exAll s) i : Nat) : Int) e) : e = .returned (.tuple #[.int .i64 (i : Int), .bool true]) := by
  have hbd := rawF_bd s hi
  have h00 : rawF s (exAll s) 0 = 0 := by unfold rawF; rw [if_pos rfl]
  unfold PlainR at h
  rw [if_neg (by omega)] at h
  by_cases hz : ((rawF s (exAll s) i : Nat) : Int) = 0 ∨ (exAll s).length = 0
  · rw [if_pos hz] at h
    have hi0 : i = 0 := by
      rcases hz with hz | hz
      · apply Classical.byContradiction
        intro hn
        have := rawF_lt s (i := 0) (j := i) (by omega) hi
        omega
      · omega
    subst hi0
    exact h
  · rw [if_neg hz] at h
    obtain ⟨k, hf, rfl⟩ := h
    have hi0 : 0 < i := by
      apply Classical.byContradiction
      intro hn
      have : i = 0 := by omega
      subst this
      rw [h00] at hz
      exact hz (.inl rfl)
    have hl0 : (exAll s).length ≠ 0 := fun h => hz (.inr h)
    have hle : LeastP s (exAll s) ((rawF s (exAll s) i : Nat) : Int) 0 i := .inr ⟨hi0, hi, Int.le_refl _, fun j h1 h2 => by
      have := rawF_lt s h2 hi
      omega⟩
    have := least_found (k := k) hl0 (by omega) (by omega) hle hf.le (by
      rcases hf.at_ with h | h
      · exact .inl h
      · exact .inr (of_decide_eq_true h)) (by
      rcases hf.ahead with h | h
      · exact .inl h
      · right
        have := of_decide_eq_false h
        omega)
    rw [this]
end Go.Proofs.YtlfbgaknljdanaaGreatDoor
