/- Chapter 17: bytes without escapes: the plain law. -/
import Derived.Test.YtlopigkaibkblaaDoorAnG
namespace Go.Proofs.YtlopigkaibkblaaDoor
set_option linter.unusedVariables false

theorem seqE_le (t : ByteArray) (h2 : 2 ≤ t.size) : (seqE t).size ≤ t.size := by
  have hk := passTo_le (amongB 48 63) t (i := 2) h2
  have hnl : seqN t ≤ t.size := passTo_le (amongB 32 47) t hk
  unfold seqE
  split
  · rename_i h; exact h.1
  · exact hnl
theorem headE_le (t : ByteArray) (h1 : 1 ≤ t.size) : (headE t).size ≤ t.size := by
  unfold headE
  split
  · rename_i h; show 1 ≤ _; omega
  · rename_i h
    split
    · exact seqE_le t (by omega)
    · split
      · show 2 ≤ _; omega
      · exact h1
theorem readE_le (s : ByteArray) (i : Nat) : (readE s i).size = 0 ∨ i + (readE s i).size ≤ s.size := by
  unfold readE
  split
  · rename_i h
    right
    have hsz : (s.extract ((i : Int)).toNat s.size).size = s.size - i := by rw [ByteArray.size_extract]; simp
    have := headE_le (s.extract ((i : Int)).toNat s.size) (by rw [hsz]; omega)
    rw [hsz] at this
    omega
  · exact .inl rfl
theorem readE_esc (s : ByteArray) (i : Nat) (h : i < s.size) : (readE s i).size = 0 ↔ byt s i ≠ 27 := by
  unfold readE
  constructor
  · intro h0 h27
    rw [if_pos ⟨by omega, by omega, h27⟩] at h0
    have := headE_pos (s.extract ((i : Int)).toNat s.size)
    omega
  · intro hn
    rw [if_neg fun h2 => hn h2.2.2]
    rfl

def oneB (c : Int) : ByteArray := ⟨#[UInt8.ofNat c.toNat]⟩
def stripGo (s : ByteArray) : Nat → Nat → ByteArray
  | 0, _ => ⟨#[]⟩
  | f + 1, i => if i < s.size then (if (readE s i).size = 0 then s.extract i (i + 1) ++ stripGo s f (i + 1) else stripGo s f (i + (readE s i).size)) else ⟨#[]⟩
theorem stripGo_fuel (s : ByteArray) : ∀ (f f' i : Nat), s.size + 1 - i ≤ f → s.size + 1 - i ≤ f' → stripGo s f i = stripGo s f' i := by
  intro f
  induction f with
  | zero =>
    intro f' i h1 h2
    cases f' with
    | zero => rfl
    | succ f' => simp only [stripGo]; rw [if_neg (by omega)]
  | succ f ih =>
    intro f' i h1 h2
    cases f' with
    | zero => simp only [stripGo]; rw [if_neg (by omega)]
    | succ f' =>
      rw [stripGo, stripGo]
      by_cases hi : i < s.size
      · rw [if_pos hi, if_pos hi]
        by_cases hz : (readE s i).size = 0
        · rw [if_pos hz, if_pos hz, ih f' (i + 1) (by omega) (by omega)]
        · rw [if_neg hz, if_neg hz, ih f' (i + (readE s i).size) (by omega) (by omega)]
      · rw [if_neg hi, if_neg hi]
/-- What is left of the bytes from i on. -/
def stripAt (s : ByteArray) (i : Nat) : ByteArray := stripGo s (s.size + 1 - i) i
theorem stripAt_keep {s : ByteArray} {i : Nat} (h : i < s.size) (hz : (readE s i).size = 0) : stripAt s i = s.extract i (i + 1) ++ stripAt s (i + 1) := by
  unfold stripAt
  rw [show s.size + 1 - i = (s.size - i) + 1 by omega, stripGo, if_pos h, if_pos hz, stripGo_fuel s (s.size - i) (s.size + 1 - (i + 1)) (i + 1) (by omega) (by omega)]
theorem stripAt_skip {s : ByteArray} {i : Nat} (h : i < s.size) (hz : ¬ (readE s i).size = 0) : stripAt s i = stripAt s (i + (readE s i).size) := by
  unfold stripAt
  rw [show s.size + 1 - i = (s.size - i) + 1 by omega, stripGo, if_pos h, if_neg hz, stripGo_fuel s (s.size - i) (s.size + 1 - (i + (readE s i).size)) (i + (readE s i).size) (by omega) (Nat.le_refl _)]
theorem stripAt_end {s : ByteArray} {i : Nat} (h : s.size ≤ i) : stripAt s i = ⟨#[]⟩ := by
  unfold stripAt
  cases hf : s.size + 1 - i with
  | zero => rfl
  | succ f => rw [stripGo, if_neg (by omega)]
theorem stripAt_size (s : ByteArray) : ∀ (f i : Nat), s.size - i ≤ f → (stripAt s i).size ≤ s.size - i := by
  intro f
  induction f with
  | zero => intro i h; rw [stripAt_end (by omega)]; exact Nat.zero_le _
  | succ f ih =>
    intro i h
    by_cases hi : i < s.size
    · by_cases hz : (readE s i).size = 0
      · rw [stripAt_keep hi hz, ByteArray.size_append, ByteArray.size_extract]
        have := ih (i + 1) (by omega)
        omega
      · rw [stripAt_skip hi hz]
        have := ih (i + (readE s i).size) (by omega)
        omega
    · rw [stripAt_end (by omega)]; exact Nat.zero_le _
/-- Not one byte 1b is left. -/
theorem stripAt_clean (s : ByteArray) : ∀ (f i : Nat), s.size - i ≤ f → ∀ j, j < (stripAt s i).size → byt (stripAt s i) j ≠ 27 := by
  intro f
  induction f with
  | zero => intro i h j hj; rw [stripAt_end (by omega)] at hj; exact absurd hj (Nat.not_lt_zero _)
  | succ f ih =>
    intro i h j hj
    by_cases hi : i < s.size
    · by_cases hz : (readE s i).size = 0
      · rw [stripAt_keep hi hz] at hj ⊢
        have h1 : (s.extract i (i + 1)).size = 1 := by rw [ByteArray.size_extract]; omega
        by_cases hj0 : j = 0
        · subst hj0
          rw [byt_left _ _ 0 (by omega), byt_extract s i (i + 1) 0 (by omega) (by omega)]
          exact (readE_esc s i hi).1 hz
        · have := ih (i + 1) (by omega) (j - 1) (by rw [ByteArray.size_append] at hj; omega)
          have hr := byt_right (s.extract i (i + 1)) (stripAt s (i + 1)) (j - 1)
          rw [h1, show 1 + (j - 1) = j by omega] at hr
          rw [hr]
          exact this
      · rw [stripAt_skip hi hz] at hj ⊢
        exact ih (i + (readE s i).size) (by omega) j hj
    · rw [stripAt_end (by omega)] at hj; exact absurd hj (Nat.not_lt_zero _)
theorem stripAt_same (t : ByteArray) (hc : ∀ j, j < t.size → byt t j ≠ 27) : ∀ (f i : Nat), t.size - i ≤ f → i ≤ t.size → stripAt t i = t.extract i t.size := by
  intro f
  induction f with
  | zero => intro i h hi; rw [stripAt_end (by omega), show i = t.size by omega, ext_self]
  | succ f ih =>
    intro i h hi
    by_cases hl : i < t.size
    · rw [stripAt_keep hl ((readE_esc t i hl).2 (hc i hl)), ih (i + 1) (by omega) (by omega), ext_append t i (i + 1) t.size (by omega) (by omega) (Nat.le_refl _)]
    · rw [stripAt_end (by omega), show i = t.size by omega, ext_self]
theorem strip_again (s : ByteArray) : stripAt (stripAt s 0) 0 = stripAt s 0 := by
  rw [stripAt_same _ (stripAt_clean s _ 0 (Nat.le_refl _)) _ 0 (Nat.le_refl _) (Nat.zero_le _)]
  exact ext_whole _
end Go.Proofs.YtlopigkaibkblaaDoor
