/- Chapter 24: places rise: the plain law. -/
import Derived.Test.YtlfbgaknljdanaaGreatDoorFlM1
namespace Go.Proofs.YtlfbgaknljdanaaGreatDoor
set_option linter.unusedVariables false
set_option maxRecDepth 100000

theorem chainI_get {s : ByteArray} : ∀ (l : List It) (a e : Nat), chainI s a l e → ∀ (i : Nat) (h : i < l.length), a ≤ l[i].at_ ∧ l[i].at_ + 1 ≤ e
  | x :: l, a, e, hc, 0, h => by
    have h2 : x.at_ + x.sz ≤ e := by
      have : ∀ (l : List It) (a e : Nat), chainI s a l e → a ≤ e := by
        intro l
        induction l with
        | nil => intro a e h; exact h
        | cons y l ih => intro a e h; have := ih _ _ h.2.2.2; have := h.1; omega
      exact this l _ _ hc.2.2.2
    have := hc.2.1
    exact ⟨hc.1, by show x.at_ + 1 ≤ e; omega⟩
  | x :: l, a, e, hc, i + 1, h => by
    have hil : i < l.length := by simpa using h
    have := chainI_get l _ e hc.2.2.2 i hil
    have h1 := hc.1
    exact ⟨by show a ≤ l[i].at_; omega, this.2⟩
theorem chainI_lt {s : ByteArray} : ∀ (l : List It) (a e : Nat), chainI s a l e → ∀ (i j : Nat) (hij : i < j) (h : j < l.length), l[i].at_ < l[j].at_
  | x :: l, a, e, hc, 0, j + 1, hij, h => by
    have hjl : j < l.length := by simpa using h
    have h1 := chainI_get l _ e hc.2.2.2 j hjl
    have h2 := hc.2.1
    show x.at_ < l[j].at_
    omega
  | x :: l, a, e, hc, i + 1, j + 1, hij, h => chainI_lt l _ e hc.2.2.2 i j (by omega) (by simpa using h)
theorem getD_at {l : List It} {i : Nat} (h : i < l.length) (d : It) : l.getD i d = l[i] := by rw [List.getD_eq_getElem?_getD, List.getElem?_eq_getElem h]; rfl
/-- Raw places rise. -/
theorem rawF_lt (s : ByteArray) {i j : Nat} (hij : i < j) (hj : j ≤ (exAll s).length) : rawF s (exAll s) i < rawF s (exAll s) j := by
  have hc := exAll_chain s
  generalize exAll s = l at *
  have hj0 : j ≠ 0 := by omega
  have hjv : (j = l.length ∧ rawF s l j = s.size) ∨ ∃ h : j < l.length, rawF s l j = l[j].at_ := by
    by_cases h : j = l.length
    · exact .inl ⟨h, by unfold rawF; rw [if_neg hj0, if_pos h]⟩
    · exact .inr ⟨by omega, by unfold rawF; rw [if_neg hj0, if_neg h, getD_at (by omega)]⟩
  by_cases hi : i = 0
  · have hiv : rawF s l i = 0 := by unfold rawF; rw [if_pos hi]
    rw [hiv]
    rcases hjv with ⟨h, e⟩ | ⟨h, e⟩
    · rw [e]
      have := chainI_get l 0 s.size hc 0 (by omega)
      omega
    · rw [e]
      have := chainI_lt l 0 s.size hc 0 j (by omega) h
      omega
  · have hiv : rawF s l i = l[i].at_ := by unfold rawF; rw [if_neg hi, if_neg (by omega), getD_at (by omega)]
    rw [hiv]
    rcases hjv with ⟨h, e⟩ | ⟨h, e⟩
    · rw [e]
      have := chainI_get l 0 s.size hc i (by omega)
      omega
    · rw [e]
      exact chainI_lt l 0 s.size hc i j hij h
theorem rawF_le (s : ByteArray) {i j : Nat} (hij : i ≤ j) (hj : j ≤ (exAll s).length) : rawF s (exAll s) i ≤ rawF s (exAll s) j := by
  rcases Nat.lt_or_eq_of_le hij with h | h
  · exact Nat.le_of_lt (rawF_lt s h hj)
  · subst h
    exact Nat.le_refl _
theorem rawF_end (s : ByteArray) (h : (exAll s).length ≠ 0) : rawF s (exAll s) (exAll s).length = s.size := by
  unfold rawF
  rw [if_neg h, if_pos rfl]
theorem rawF_bd (s : ByteArray) {i : Nat} (h : i ≤ (exAll s).length) : rawF s (exAll s) i ≤ s.size := by
  by_cases h0 : (exAll s).length = 0
  · have : i = 0 := by omega
    subst this
    unfold rawF
    rw [if_pos rfl]
    exact Nat.zero_le _
  · have := rawF_le s h (Nat.le_refl _)
    rw [rawF_end s h0] at this
    exact this
/-- The least place of the text that is not ahead of a raw one. -/
def LeastP (s : ByteArray) (l : List It) (a : Int) (i w : Nat) : Prop :=
  (w = 0 ∧ ∀ j, i < j → j ≤ l.length → ((rawF s l j : Nat) : Int) < a) ∨ (i < w ∧ w ≤ l.length ∧ a ≤ ((rawF s l w : Nat) : Int) ∧ ∀ j, i < j → j < w → ((rawF s l j : Nat) : Int) < a)
theorem LeastP.hit {s : ByteArray} {l : List It} {a : Int} {i w : Nat} (h : LeastP s l a (i + 1) w) (hi : i + 1 ≤ l.length) (hp : a ≤ ((rawF s l (i + 1) : Nat) : Int)) : LeastP s l a i (i + 1) :=
  .inr ⟨by omega, hi, hp, fun j h1 h2 => by omega⟩
theorem LeastP.miss {s : ByteArray} {l : List It} {a : Int} {i w : Nat} (h : LeastP s l a (i + 1) w) (hp : ((rawF s l (i + 1) : Nat) : Int) < a) : LeastP s l a i w := by
  have hall : ∀ j, i < j → (i + 1 < j → ((rawF s l j : Nat) : Int) < a) → ((rawF s l j : Nat) : Int) < a := fun j h1 h2 => by
    by_cases e : j = i + 1
    · subst e; exact hp
    · exact h2 (by omega)
  rcases h with ⟨h1, h2⟩ | ⟨h1, h2, h3, h4⟩
  · exact .inl ⟨h1, fun j hj hl => hall j hj (fun h => h2 j h hl)⟩
  · exact .inr ⟨by omega, h2, h3, fun j hj hl => hall j hj (fun h => h4 j h hl)⟩
theorem least_found {s : ByteArray} {a : Int} {k w : Nat} (h0 : (exAll s).length ≠ 0) (ha : a ≤ s.size) (ha0 : 0 < a) (hl : LeastP s (exAll s) a 0 w) (hle : k ≤ (exAll s).length - 1)
    (hat : k = (exAll s).length - 1 ∨ a ≤ ((rawF s (exAll s) (k + 1) : Nat) : Int)) (had : k = 0 ∨ ((rawF s (exAll s) (k - 1 + 1) : Nat) : Int) < a) : w = 1 + k := by
  have hre := rawF_end s h0
  have hk : a ≤ ((rawF s (exAll s) (k + 1) : Nat) : Int) := by
    rcases hat with h | h
    · have : k + 1 = (exAll s).length := by omega
      rw [this, hre]
      exact ha
    · exact h
  rcases hl with ⟨h1, h2⟩ | ⟨h1, h2, h3, h4⟩
  · have := h2 (exAll s).length (by omega) (Nat.le_refl _)
    rw [hre] at this
    omega
  · rcases Nat.lt_trichotomy w (1 + k) with h | h | h
    · rcases had with hz | hz
      · omega
      · have hm := rawF_le s (i := w) (j := k) (by omega) (by omega)
        have e : k - 1 + 1 = k := by omega
        rw [e] at hz
        omega
    · exact h
    · have := h4 (k + 1) (by omega) (by omega)
      omega
end Go.Proofs.YtlfbgaknljdanaaGreatDoor
