/- The table of the replacements, as it is read; how long the escaped text is: the plain law. -/
import Derived.Test.YtpnbkecchfhimaaGreatDoorRpD
import Derived.Test.YtpnbkecchfhimaaGreatDoorLpM1
import Derived.Test.YtpnbkecchfhimaaGreatDoorRpSh
namespace Go.Proofs.YtpnbkecchfhimaaGreatDoor
open Go.RowKit
open Go.Lib (hid)
set_option linter.unusedVariables false
set_option maxRecDepth 100000

/-- What stands for a byte, if anything. -/
def repO (c : Int) : Option ByteArray := if c = 38 then some ampR else if c = 60 then some ltR else if c = 62 then some gtR else none
theorem repO_esc (c : Int) : escC c = match repO c with | some q => intsOf q | none => [c] := by
  unfold escC repO
  split
  · kernel_rfl
  · split
    · kernel_rfl
    · split
      · kernel_rfl
      · rfl
/-- The table, read. -/
structure RpR (W : World) (g : Nat) : Prop where
  gl : g < W.heap.size
  none_ : ∀ j : Nat, j < 256 → repO (j : Int) = none → W.cell? ⟨g, j, none⟩ = some (.slice none 0 0)
  some_ : ∀ (j : Nat) (q : ByteArray), j < 256 → repO (j : Int) = some q → ∃ b c, W.cell? ⟨g, j, none⟩ = some (.slice (some ⟨b, 0, none⟩) q.size c) ∧ BA W (some ⟨b, 0, none⟩) q.size c q ∧ b < W.heap.size
  row : ∃ t c, W.cell? ⟨g, 256, none⟩ = some (.slice (some ⟨t, 0, none⟩) 3 c) ∧ t < W.heap.size ∧ W.cell? ⟨t, 0, none⟩ = some (.string ⟨#[62]⟩) ∧ W.cell? ⟨t, 1, none⟩ = some (.string ⟨#[60]⟩) ∧ W.cell? ⟨t, 2, none⟩ = some (.string ⟨#[38]⟩)
theorem RpR.below {W W' : World} {g : Nat} (h : RpR W g) (hb : Below W.heap.size W W') : RpR W' g := by
  refine ⟨Nat.lt_of_lt_of_le h.gl hb.size, fun j hj hn => (hb.cell (p := ⟨g, j, none⟩) h.gl).trans (h.none_ j hj hn), fun j q hj hq => ?_, ?_⟩
  · obtain ⟨b, c, h1, h2, h3⟩ := h.some_ j q hj hq
    exact ⟨b, c, (hb.cell (p := ⟨g, j, none⟩) h.gl).trans h1, h2.below hb (Nat.le_refl _), Nat.lt_of_lt_of_le h3 hb.size⟩
  · obtain ⟨t, c, h1, h2, h3, h4, h5⟩ := h.row
    exact ⟨t, c, (hb.cell (p := ⟨g, 256, none⟩) h.gl).trans h1, Nat.lt_of_lt_of_le h2 hb.size, (hb.cell (p := ⟨t, 0, none⟩) h2).trans h3, (hb.cell (p := ⟨t, 1, none⟩) h2).trans h4, (hb.cell (p := ⟨t, 2, none⟩) h2).trans h5⟩
theorem repO_some {j : Nat} {q : ByteArray} (h : repO (j : Int) = some q) : (j = 38 ∧ q = ampR) ∨ (j = 60 ∧ q = ltR) ∨ (j = 62 ∧ q = gtR) := by
  unfold repO at h
  split at h
  · rename_i e
    injection h with h
    exact .inl ⟨by omega, h.symm⟩
  · split at h
    · rename_i e
      injection h with h
      exact .inr (.inl ⟨by omega, h.symm⟩)
    · split at h
      · rename_i e
        injection h with h
        exact .inr (.inr ⟨by omega, h.symm⟩)
      · cases h
theorem RpR.of {W0 W : World} {B g : Nat} (h : RpAt W0 W B g) : RpR W g := by
  obtain ⟨vT, v62, v60, v38, hs, h1, h2, h3⟩ := h
  refine ⟨hs.gl, fun j hj hn => ?_, fun j q hj hq => ?_, ?_⟩
  · rw [hs.c j hj]
    unfold repO at hn
    have n1 : j ≠ 38 := fun e => by rw [if_pos (by omega)] at hn; cases hn
    have n2 : j ≠ 60 := fun e => by rw [if_neg (by omega), if_pos (by omega)] at hn; cases hn
    have n3 : j ≠ 62 := fun e => by rw [if_neg (by omega), if_neg (by omega), if_pos (by omega)] at hn; cases hn
    simp only [updR, nilR, if_neg n1, if_neg n2, if_neg n3]
  · rcases repO_some hq with ⟨rfl, rfl⟩ | ⟨rfl, rfl⟩ | ⟨rfl, rfl⟩
    · obtain ⟨b, c, e, hba, _, hbl, _, _⟩ := h3.at_
      exact ⟨b, c, by rw [hs.c 38 (by decide), ← e]; rfl, hba, hbl⟩
    · obtain ⟨b, c, e, hba, _, hbl, _, _⟩ := h2.at_
      exact ⟨b, c, by rw [hs.c 60 (by decide), ← e]; rfl, hba, hbl⟩
    · obtain ⟨b, c, e, hba, _, hbl, _, _⟩ := h1.at_
      exact ⟨b, c, by rw [hs.c 62 (by decide), ← e]; rfl, hba, hbl⟩
  · obtain ⟨t, c, e⟩ := ownsRow_succ (k := 2) hs.row
    have hr := hs.row
    rw [e] at hr
    refine ⟨t, c, by rw [hs.cT, e], (hr.lt t rfl).2, ?_, ?_, ?_⟩
    · exact hr.cellAt 0 (by decide)
    · exact hr.cellAt 1 (by decide)
    · exact hr.cellAt 2 (by decide)

def escB (s : ByteArray) : ByteArray := ofInts (escL (intsOf s))
theorem escL_append (a b : List Int) : escL (a ++ b) = escL a ++ escL b := by unfold escL; rw [List.flatMap_append]
/-- How often a byte stands among others. -/
def cntL (c : Int) (l : List Int) : Nat := (l.filter (· == c)).length
theorem esc_len : ∀ l : List Int, (escL l).length = l.length + 4 * cntL 38 l + 3 * cntL 60 l + 3 * cntL 62 l
  | [] => rfl
  | c :: l => by
    have ih := esc_len l
    have hc : ∀ d, cntL d (c :: l) = (if c = d then 1 else 0) + cntL d l := fun d => by
      unfold cntL
      rw [List.filter_cons]
      by_cases e : c = d
      · subst e; simp; omega
      · simp [e]
    show (escC c ++ escL l).length = _
    rw [List.length_append, ih, List.length_cons, hc, hc, hc]
    unfold escC
    by_cases h1 : c = 38
    · subst h1
      simp
      omega
    · by_cases h2 : c = 60
      · subst h2
        simp
        omega
      · by_cases h3 : c = 62
        · subst h3
          simp
          omega
        · rw [if_neg h1, if_neg h2, if_neg h3, if_neg h1, if_neg h2, if_neg h3]
          simp
          omega
theorem esc_same : ∀ l : List Int, cntL 38 l = 0 → cntL 60 l = 0 → cntL 62 l = 0 → escL l = l
  | [], _, _, _ => rfl
  | c :: l, h1, h2, h3 => by
    have hc : ∀ d, cntL d (c :: l) = 0 → c ≠ d ∧ cntL d l = 0 := fun d h => by
      unfold cntL at h ⊢
      rw [List.filter_cons] at h
      by_cases e : c = d
      · subst e; simp at h
      · simp [e] at h; exact ⟨e, by simpa using h⟩
    obtain ⟨a1, b1⟩ := hc _ h1
    obtain ⟨a2, b2⟩ := hc _ h2
    obtain ⟨a3, b3⟩ := hc _ h3
    show escC c ++ escL l = _
    rw [esc_same l b1 b2 b3]
    unfold escC
    rw [if_neg a1, if_neg a2, if_neg a3]
    rfl
end Go.Proofs.YtpnbkecchfhimaaGreatDoor
