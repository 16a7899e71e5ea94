/- Chapter 19: tokens from a place on are those of the bytes from there; the token of a byte: plain laws. -/
import Derived.Test.YtpnbkecchfhimaaGreatDoorTkP2
namespace Go.Proofs.YtpnbkecchfhimaaGreatDoor
set_option linter.unusedVariables false
set_option maxRecDepth 100000

theorem scanTo_shiftB {p q : Nat → Bool} {n k : Nat} (h : ∀ j, j < n → p (k + j) = q j) (i : Nat) : scanTo p (k + n) (k + i) = k + scanTo q n i := by
  have : ∀ f i, i + f ≤ n → scanG p f (k + i) = k + scanG q f i := by
    intro f
    induction f with
    | zero => intro i _; rfl
    | succ f ih =>
      intro i hf
      unfold scanG
      rw [h i (by omega)]
      split
      · rfl
      · exact ih (i + 1) (by omega)
  unfold scanTo
  rw [show k + n - (k + i) = n - i by omega]
  by_cases hn : i ≤ n
  · exact this _ _ (by omega)
  · rw [show n - i = 0 by omega]
    rfl
theorem ext_twoT (s : ByteArray) (k a b : Nat) (h : k + b ≤ s.size) : (s.extract k s.size).extract a b = s.extract (k + a) (k + b) := by
  apply ByteArray.ext
  rw [ByteArray.data_extract, ByteArray.data_extract, ByteArray.data_extract, Array.extract_extract]
  congr 1
  have : s.data.size = s.size := rfl
  omega
theorem closesB_ext (s nm : ByteArray) (k j : Nat) (h : k ≤ s.size) : closesB (s.extract k s.size) nm j = closesB s nm (k + j) := by
  unfold closesB
  have hz := ext_size s k
  by_cases h1 : k + j + 2 + nm.size ≤ s.size
  · rw [hz, decide_eq_true (show j + 2 + nm.size ≤ s.size - k by omega), decide_eq_true h1, byt_ext s k j (by omega), byt_ext s k (j + 1) (by omega), show k + (j + 1) = k + j + 1 by omega,
      ext_twoT s k _ _ (by omega), show k + (j + 2) = k + j + 2 by omega, show k + (j + 2 + nm.size) = k + j + 2 + nm.size by omega]
    by_cases h2 : k + j + 2 + nm.size = s.size
    · rw [decide_eq_true h2, decide_eq_true (show j + 2 + nm.size = s.size - k by omega)]
      simp only [Bool.true_or]
    · rw [decide_eq_false h2, decide_eq_false (show ¬ j + 2 + nm.size = s.size - k by omega), byt_ext s k _ (by omega), show k + (j + 2 + nm.size) = k + j + 2 + nm.size by omega]
  · rw [hz, decide_eq_false (show ¬ j + 2 + nm.size ≤ s.size - k by omega), decide_eq_false h1]
    simp only [Bool.false_and]
theorem textE_ext (s : ByteArray) (k i : Nat) (h : k ≤ s.size) : textE s (k + i) = k + textE (s.extract k s.size) i := by
  unfold textE
  have hz := ext_size s k
  have := scanTo_shiftB (p := specB s) (q := specB (s.extract k s.size)) (n := s.size - k) (k := k) (fun j hj => by unfold specB; rw [specA_ext s k j (by omega)]) (i + 1)
  rw [show k + (s.size - k) = s.size by omega] at this
  rw [hz, ← this]
  rfl
theorem rawE_ext (s nm : ByteArray) (k i : Nat) (h : k ≤ s.size) : rawE s nm (k + i) = k + rawE (s.extract k s.size) nm i := by
  unfold rawE
  have hz := ext_size s k
  have := scanTo_shiftB (p := closesB s nm) (q := closesB (s.extract k s.size) nm) (n := s.size - k) (k := k) (fun j hj => (closesB_ext s nm k j h).symm) i
  rw [show k + (s.size - k) = s.size by omega] at this
  rw [hz, ← this]
def Tk.up (k : Nat) (t : Tk) : Tk := ⟨t.kind, t.fr + k, t.til + k, t.name, t.r, t.single⟩
theorem toksAt_ext (s : ByteArray) (k : Nat) (hk : k ≤ s.size) : ∀ (d i : Nat), s.size - k - i ≤ d → toksAt s (k + i) = (toksAt (s.extract k s.size) i).map (Tk.up k) := by
  have hz := ext_size s k
  intro d
  induction d with
  | zero =>
    intro i hd
    rw [toksAt_end (by omega), toksAt_end (by omega)]
    rfl
  | succ d ih =>
    intro i hd
    by_cases hi : k + i < s.size
    · have hi2 : i < (s.extract k s.size).size := by omega
      have he := specA_ext s k i hi
      cases hs : specA s (k + i) with
      | none =>
        have hs2 : specA (s.extract k s.size) i = none := he.trans hs
        have h1 := scanTo_ge (specB (s.extract k s.size)) (s.extract k s.size).size (i + 1)
        rw [toksAt_text hi hs, toksAt_text hi2 hs2, textE_ext s k i hk, ih _ (by unfold textE; omega), List.map_cons]
        congr 1
        unfold Tk.up textTk
        simp only
        rw [Nat.add_comm i k, Nat.add_comm _ k]
      | some sp =>
        have hs2 : specA (s.extract k s.size) i = some sp := he.trans hs
        have hb := specA_bd hs
        have hre := rawE_ext s sp.name k (i + sp.size) hk
        rw [← Nat.add_assoc] at hre
        have hu : Tk.up k (spTk i sp) = spTk (k + i) sp := by
          unfold Tk.up spTk
          simp only
          rw [Nat.add_comm i k, show i + sp.size + k = k + i + sp.size by omega]
        by_cases hr : sp.raw = true ∧ k + i + sp.size < rawE s sp.name (k + i + sp.size)
        · have hr2 : sp.raw = true ∧ i + sp.size < rawE (s.extract k s.size) sp.name (i + sp.size) := ⟨hr.1, by have := hr.2; omega⟩
          rw [toksAt_raw hi hs hr, toksAt_raw hi2 hs2 hr2, hre, ih _ (by omega), List.map_cons, List.map_cons, hu]
          congr 2
          unfold Tk.up rawTk
          simp only
          rw [show i + sp.size + k = k + i + sp.size by omega, Nat.add_comm _ k]
        · have hr2 : ¬ (sp.raw = true ∧ i + sp.size < rawE (s.extract k s.size) sp.name (i + sp.size)) := fun h => hr ⟨h.1, by have := h.2; omega⟩
          rw [toksAt_spec hi hs hr, toksAt_spec hi2 hs2 hr2, List.map_cons, hu, Nat.add_assoc, ih _ (by omega)]
    · rw [toksAt_end (by omega), toksAt_end (by omega)]
      rfl
/-- From a token on that is not raw bytes. -/
theorem toksAt_drop (s : ByteArray) : ∀ (d i : Nat), s.size - i ≤ d → ∀ (j : Nat) (t : Tk), (toksAt s i)[j]? = some t → t.kind ≠ 7 → (toksAt s i).drop j = toksAt s t.fr := by
  intro d
  induction d with
  | zero =>
    intro i hd j t h
    rw [toksAt_end (by omega)] at h
    simp at h
  | succ d ih =>
    intro i hd j t h hk
    by_cases hi : i < s.size
    · cases hs : specA s i with
      | none =>
        have h1 := scanTo_ge (specB s) s.size (i + 1)
        cases j with
        | zero =>
          have h2 := h
          rw [toksAt_text hi hs] at h2
          simp at h2
          subst h2
          rfl
        | succ j =>
          rw [toksAt_text hi hs] at h ⊢
          exact ih _ (by unfold textE; omega) j t (by simpa using h) hk
      | some sp =>
        have hb := specA_bd hs
        cases j with
        | zero =>
          have h2 := h
          by_cases hr : sp.raw = true ∧ i + sp.size < rawE s sp.name (i + sp.size)
          · rw [toksAt_raw hi hs hr] at h2
            simp at h2
            subst h2
            rfl
          · rw [toksAt_spec hi hs hr] at h2
            simp at h2
            subst h2
            rfl
        | succ j =>
          by_cases hr : sp.raw = true ∧ i + sp.size < rawE s sp.name (i + sp.size)
          · rw [toksAt_raw hi hs hr] at h ⊢
            cases j with
            | zero =>
              simp at h
              subst h
              exact absurd rfl hk
            | succ j => exact ih _ (by omega) j t (by simpa using h) hk
          · rw [toksAt_spec hi hs hr] at h ⊢
            exact ih _ (by omega) j t (by simpa using h) hk
    · rw [toksAt_end (by omega)] at h
      simp at h
/-- The rest of all tokens, from one that is not raw bytes on, are those of the bytes from where it begins. -/
theorem toks_drop {s : ByteArray} {j : Nat} {t : Tk} (h : (toks s)[j]? = some t) (hk : t.kind ≠ 7) : (toks s).drop j = (toks (s.extract t.fr s.size)).map (Tk.up t.fr) := by
  have hm := toks_mem (List.mem_of_getElem? h)
  have h1 := toksAt_drop s _ 0 (Nat.le_refl _) j t h hk
  have h2 := toksAt_ext s t.fr (by omega) _ 0 (Nat.le_refl _)
  unfold toks at h ⊢
  rw [h1, ← h2]
  rfl
/-- The document's test of an end tag. -/
def ltsB : ByteArray := ⟨#[60, 47]⟩
theorem lowI_lt {c : Int} (h : lowI c = 60 ∨ lowI c = 47) : lowI c = c := by
  unfold lowI at h ⊢
  split
  · rename_i hc
    rw [if_pos hc] at h
    omega
  · rfl
theorem byt_lts : byt ltsB 0 = 60 ∧ byt ltsB 1 = 47 := by decide
theorem lower_ends (s nm : ByteArray) (j : Nat) (h : j + 2 + nm.size ≤ s.size) :
    lowerB (s.extract j (j + 2 + nm.size)) = ltsB ++ nm ↔ byt s j = 60 ∧ byt s (j + 1) = 47 ∧ lowerB (s.extract (j + 2) (j + 2 + nm.size)) = nm := by
  have hz : (s.extract j (j + 2 + nm.size)).size = 2 + nm.size := by rw [ByteArray.size_extract]; omega
  have hz2 : (s.extract (j + 2) (j + 2 + nm.size)).size = nm.size := by rw [ByteArray.size_extract]; omega
  have hl2 : ltsB.size = 2 := rfl
  have b0 : byt (lowerB (s.extract j (j + 2 + nm.size))) 0 = lowI (byt s j) := by rw [byt_lowerB _ _ (by omega), byt_extract _ _ _ _ (by omega) h]; rfl
  have b1 : byt (lowerB (s.extract j (j + 2 + nm.size))) 1 = lowI (byt s (j + 1)) := by rw [byt_lowerB _ _ (by omega), byt_extract _ _ _ _ (by omega) h]
  have b2 : ∀ k, k < nm.size → byt (lowerB (s.extract j (j + 2 + nm.size))) (2 + k) = byt (lowerB (s.extract (j + 2) (j + 2 + nm.size))) k := by
    intro k hk
    rw [byt_lowerB _ _ (by omega), byt_lowerB _ _ (by omega), byt_extract _ _ _ _ (by omega) h, byt_extract _ _ _ _ (by omega) h]
    congr 2
    omega
  constructor
  · intro e
    rw [e] at b0 b1 b2
    rw [byt_left _ _ _ (by rw [hl2]; omega), byt_lts.1] at b0
    rw [byt_left _ _ _ (by rw [hl2]; omega), byt_lts.2] at b1
    refine ⟨(lowI_lt (.inl b0.symm)).symm.trans b0.symm, (lowI_lt (.inr b1.symm)).symm.trans b1.symm, ?_⟩
    apply ext_byt
    · rw [lowerB_size, hz2]
    · intro k hk
      rw [lowerB_size, hz2] at hk
      rw [← b2 k hk]
      exact byt_right ltsB nm k
  · rintro ⟨h0, h1, h2⟩
    rw [h0] at b0
    rw [h1] at b1
    rw [h2] at b2
    apply ext_byt
    · rw [lowerB_size, hz, ByteArray.size_append, hl2]
    · intro k hk
      rw [lowerB_size, hz] at hk
      rcases (by omega : k = 0 ∨ k = 1 ∨ 2 ≤ k) with rfl | rfl | hk2
      · rw [b0, byt_left _ _ _ (by rw [hl2]; omega), byt_lts.1]
        rfl
      · rw [b1, byt_left _ _ _ (by rw [hl2]; omega), byt_lts.2]
        rfl
      · obtain ⟨d, rfl⟩ : ∃ d, k = 2 + d := ⟨k - 2, by omega⟩
        rw [b2 d (by omega)]
        exact (byt_right ltsB nm d).symm
theorem closesB_ref (s nm : ByteArray) (j : Nat) : closesB s nm j = (decide (j + 2 + nm.size ≤ s.size) && decide (lowerB (s.extract j (j + 2 + nm.size)) = ltsB ++ nm) &&
    (decide (j + 2 + nm.size = s.size) || (blankB (byt s (j + 2 + nm.size)) || decide (byt s (j + 2 + nm.size) = 47) || decide (byt s (j + 2 + nm.size) = 62)))) := by
  unfold closesB
  by_cases h : j + 2 + nm.size ≤ s.size
  · have := lower_ends s nm j h
    rw [decide_eq_true h]
    by_cases h1 : lowerB (s.extract j (j + 2 + nm.size)) = ltsB ++ nm
    · obtain ⟨a, b, c⟩ := this.1 h1
      rw [decide_eq_true h1, decide_eq_true a, decide_eq_true b, decide_eq_true c]
      rfl
    · rw [decide_eq_false h1]
      by_cases a : byt s j = 60
      · by_cases b : byt s (j + 1) = 47
        · rw [decide_eq_false (fun c => h1 (this.2 ⟨a, b, c⟩))]
          simp
        · rw [decide_eq_false b]
          simp
      · rw [decide_eq_false a]
        simp
  · rw [decide_eq_false h]
    rfl
/-- The token of a byte: the first that has it. -/
def atT (l : List Tk) (i : Int) : Option Tk := l.find? fun t => decide ((t.fr : Int) ≤ i) && decide (i < (t.til : Int))
end Go.Proofs.YtpnbkecchfhimaaGreatDoor
