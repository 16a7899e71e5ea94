/- Texts of FdP, FdP2, TkN, merged by a program of mine. -/
import Derived.Test.YtpnbkecchfhimaaGreatDoorTkM0

/- out of FdP -/
namespace Go.Proofs.YtpnbkecchfhimaaGreatDoor
set_option linter.unusedVariables false
set_option maxRecDepth 100000

theorem Pre.ext {s s' : ByteArray} (h : Pre s s') {k : Nat} (hk : k ≤ s.size) : Pre (s.extract k s.size) (s'.extract k s'.size) := by
  have h0 := h.1
  refine ⟨by rw [ext_size, ext_size]; omega, fun i hi => ?_⟩
  rw [ext_size] at hi
  rw [byt_ext s' k i (by omega), byt_ext s k i (by omega)]
  exact h.2 (k + i) (by omega)
theorem runTo_grow {p : Int → Bool} {t t' : ByteArray} (h : Pre t t') {q : Nat} (hq : q < t.size) (hp : p (byt t q) = false) : ∀ f i, i ≤ q → runTo p t' f i = runTo p t f i ∧ runTo p t f i ≤ q
  | 0, i, hi => ⟨rfl, hi⟩
  | f + 1, i, hi => by
    have h0 := h.1
    have hb := h.2 i (by omega)
    unfold runTo
    rw [hb]
    by_cases hc : i < t.size ∧ p (byt t i) = true
    · have hne : i ≠ q := fun e => by subst e; rw [hp] at hc; exact absurd hc.2 (by decide)
      rw [if_pos hc, if_pos ⟨by omega, hc.2⟩]
      exact runTo_grow h hq hp f (i + 1) (by omega)
    · rw [if_neg hc, if_neg (fun hh => hc ⟨by omega, hh.2⟩)]
      exact ⟨rfl, hi⟩
/-- Bytes with which something else than a text begins. -/
def spcB (c : Int) : Prop := c = 60 ∨ c = 38 ∨ c = 27
theorem spcB_p {c : Int} (h : spcB c) (f : Fm) : f.p c = false := by
  unfold Fm.p
  by_cases h0 : f.base = 0
  · rw [if_pos h0]
    rcases h with rfl | rfl | rfl <;> decide
  · rw [if_neg h0]
    by_cases h1 : f.base = 10
    · rw [if_pos h1]
      rcases h with rfl | rfl | rfl <;> decide
    · rw [if_neg h1]
      rcases h with rfl | rfl | rfl <;> decide
theorem specA_byt {s : ByteArray} {i : Nat} {sp : Sp} (h : specA s i = some sp) : spcB (byt s i) := by
  unfold specA at h
  split at h
  · rename_i hc; exact .inl hc
  · split at h
    · rename_i hc; exact .inr (.inl hc)
    · split at h
      · rename_i hs
        refine .inr (.inr ?_)
        apply Classical.byContradiction
        intro hne
        have e : readE s (i : Int) = es0 := by
          unfold readE
          exact if_neg (fun hh => hne (by have := hh.2.2; rwa [Int.toNat_natCast] at this))
        rw [e] at hs
        exact absurd hs (by decide)
      · cases h
theorem entH_none_grow {t t' : ByteArray} (h : Pre t t') {q : Nat} (h1 : 1 ≤ q) (hq : q < t.size) (hc : spcB (byt t q)) : entH t' = entH t := by
  have h0 := h.1
  have hfm : fmOf t' = fmOf t := by
    unfold fmOf
    by_cases h3 : 3 ≤ t.size
    · have e1 : (3 ≤ t'.size ∧ byt t' 1 = 35 ∧ isX (byt t' 2)) = (3 ≤ t.size ∧ byt t 1 = 35 ∧ isX (byt t 2)) := by
        rw [h.2 1 (by omega), h.2 2 (by omega)]
        exact propext ⟨fun hh => ⟨h3, hh.2⟩, fun hh => ⟨by omega, hh.2⟩⟩
      have e2 : (2 ≤ t'.size ∧ byt t' 1 = 35) = (2 ≤ t.size ∧ byt t 1 = 35) := by
        rw [h.2 1 (by omega)]
        exact propext ⟨fun hh => ⟨by omega, hh.2⟩, fun hh => ⟨by omega, hh.2⟩⟩
      simp only [e1, e2]
    · have hq1 : q = 1 := by omega
      subst hq1
      have hy : ¬ byt t 1 = 35 := by unfold spcB at hc; omega
      have e1 : (3 ≤ t'.size ∧ byt t' 1 = 35 ∧ isX (byt t' 2)) = (3 ≤ t.size ∧ byt t 1 = 35 ∧ isX (byt t 2)) := by
        rw [h.2 1 hq]
        exact propext ⟨fun hh => absurd hh.2.1 hy, fun hh => absurd hh.2.1 hy⟩
      have e2 : (2 ≤ t'.size ∧ byt t' 1 = 35) = (2 ≤ t.size ∧ byt t 1 = 35) := by
        rw [h.2 1 hq]
        exact propext ⟨fun hh => absurd hh.2 hy, fun hh => absurd hh.2 hy⟩
      simp only [e1, e2]
  have hsk : (fmOf t).skip ≤ q := by
    rcases fm_cases t with ⟨e, h3, h35, hx⟩ | ⟨e, h2, h35, hx⟩ | ⟨e, hx⟩
    · rw [e]
      show 3 ≤ q
      have n1 : q ≠ 1 := fun e => by subst e; unfold spcB at hc; omega
      have n2 : q ≠ 2 := fun e => by subst e; unfold spcB at hc; unfold isX at hx; omega
      omega
    · rw [e]
      show 2 ≤ q
      have n1 : q ≠ 1 := fun e => by subst e; unfold spcB at hc; omega
      omega
    · rw [e]
      exact h1
  have hr := runTo_grow h hq (spcB_p hc (fmOf t)) (fmOf t).most (fmOf t).skip hsk
  have hre : runE t' = runE t := by
    unfold runE
    rw [hfm]
    exact hr.1
  have hlt : runE t < t.size := Nat.lt_of_le_of_lt hr.2 hq
  unfold entH
  rw [hre, hfm, h.2 _ hlt, h.extract (i := (fmOf t).skip) (j := runE t) (by omega)]
  by_cases hcc : runE t = (fmOf t).skip ∨ t.size ≤ runE t ∨ byt t (runE t) ≠ 59
  · rw [if_pos hcc, if_pos (by
      rcases hcc with h | h | h
      · exact .inl h
      · omega
      · exact .inr (.inr h))]
  · rw [if_neg hcc, if_neg (by
      rintro (h | h | h)
      · exact hcc (.inl h)
      · omega
      · exact hcc (.inr (.inr h)))]
theorem entH_some_grow {t t' : ByteArray} (h : Pre t t') (h0 : 0 < t.size) (h38 : byt t 0 = 38) {r : Int} {n : Nat} (he : entH t = some (r, n)) : entH t' = some (r, n) := by
  obtain ⟨h3, h10, hn, hw, hr⟩ := head_whole h38 he
  have hs := h.1
  have hx := h.extract (i := 0) (j := n) hn
  have := whole_head (t := t') h3 h10 (by omega) (by rw [hx, hw]; exact hr)
  rw [this.2, hx, hw]
theorem readV_head {s : ByteArray} {i : Nat} (h1 : i + 1 < s.size) (h : byt s i = 60) : readV s (i : Int) = headV (s.extract i s.size) := by
  unfold readV
  rw [Int.toNat_natCast]
  exact if_neg (fun hh => hh.elim (fun a => by omega) (fun b => b.elim (fun a => by omega) (fun a => a h)))
theorem readV_short {s : ByteArray} {i : Nat} (h1 : ¬ i + 1 < s.size) : readV s (i : Int) = (mk0, false) := by
  unfold readV
  exact if_pos (.inr (.inl (by omega)))
theorem readE_headF {s : ByteArray} {i : Nat} (hi : i < s.size) (h : byt s i = 27) : readE s (i : Int) = headE (s.extract i s.size) := by
  unfold readE
  rw [Int.toNat_natCast]
  exact if_pos ⟨by omega, by omega, h⟩
theorem specF_tag {s : ByteArray} {i : Nat} (hi : i < s.size) (h : byt s i = 60) : specA s i = if i + 1 < s.size ∧ (headV (s.extract i s.size)).2 = true then some (tagSp (headV (s.extract i s.size)).1) else none := by
  unfold specA
  rw [if_pos h]
  by_cases h1 : i + 1 < s.size
  · rw [readV_head h1 h]
    by_cases h2 : (headV (s.extract i s.size)).2 = true
    · rw [if_pos h2, if_pos ⟨h1, h2⟩]
    · rw [if_neg h2, if_neg (fun hh => h2 hh.2)]
  · rw [readV_short h1, if_neg (show ¬ (mk0, false).2 = true by decide), if_neg (show ¬ (i + 1 < s.size ∧ (headV (s.extract i s.size)).2 = true) from fun hh => h1 hh.1)]
theorem specF_ent {s : ByteArray} {i : Nat} (hi : i < s.size) (h : byt s i = 38) : specA s i = (entH (s.extract i s.size)).map fun p => ⟨1, p.2, noB, p.1, false, false⟩ := by
  have h6 : ¬ byt s i = 60 := by omega
  have he : entR s (i : Int) = entH (s.extract i s.size) := by
    unfold entR
    rw [Int.toNat_natCast]
    exact if_pos ⟨by omega, by omega, h⟩
  unfold specA
  rw [if_neg h6, if_pos h, he]
theorem specF_esc {s : ByteArray} {i : Nat} (hi : i < s.size) (h : byt s i = 27) : specA s i = some ⟨6, (headE (s.extract i s.size)).size, noB, 0, false, false⟩ := by
  have h6 : ¬ byt s i = 60 := by omega
  have h3 : ¬ byt s i = 38 := by omega
  unfold specA
  rw [if_neg h6, if_neg h3, readE_headF hi h, if_pos (show 0 < (headE (s.extract i s.size)).size from headE_pos _)]
theorem specA_no {s : ByteArray} {i : Nat} (h : ¬ spcB (byt s i)) : specA s i = none := by
  cases hs : specA s i with
  | none => rfl
  | some sp => exact absurd (specA_byt hs) h
/-- What begins at a place begins there, with more behind. -/
theorem specA_some_grow {s s' : ByteArray} (h : Pre s s') {i : Nat} (hi : i < s.size) {sp : Sp} (hs : specA s i = some sp) : ∃ sp', specA s' i = some sp' := by
  have h0 := h.1
  have hb := h.2 i hi
  have hp := h.ext (Nat.le_of_lt hi)
  have hz := ext_size s i
  rcases specA_byt hs with hc | hc | hc
  · rw [specF_tag hi hc] at hs
    split at hs
    · rename_i hh
      have := ((hp.head (by omega)).2 hh.2).1
      rw [specF_tag (by omega) (hb.trans hc), if_pos ⟨by omega, this⟩]
      exact ⟨_, rfl⟩
    · cases hs
  · rw [specF_ent hi hc, Option.map_eq_some_iff] at hs
    obtain ⟨⟨r, n⟩, he, _⟩ := hs
    have := entH_some_grow hp (by omega) (by have := byt_ext s i 0 (by omega); rw [this]; exact hc) he
    rw [specF_ent (by omega) (hb.trans hc), this]
    exact ⟨_, rfl⟩
  · rw [specF_esc (by omega) (hb.trans hc)]
    exact ⟨_, rfl⟩
/-- What begins at no place ahead of something else begins there at none, with more behind. -/
theorem specA_none_grow {s s' : ByteArray} (h : Pre s s') {i q : Nat} (hiq : i < q) (hq : q < s.size) (hc : spcB (byt s q)) (hs : specA s i = none) : specA s' i = none := by
  have h0 := h.1
  have hi : i < s.size := by omega
  have hb := h.2 i hi
  have hp := h.ext (Nat.le_of_lt hi)
  have hz := ext_size s i
  by_cases hsp : spcB (byt s i)
  · rcases hsp with h60 | h38 | h27
    · rw [specF_tag hi h60] at hs
      split at hs
      · cases hs
      · rename_i hh
        have h2 : ¬ (headV (s.extract i s.size)).2 = true := fun h2 => hh ⟨by omega, h2⟩
        have := ((hp.head (by omega)).1 (by simpa using h2)).2
        rw [specF_tag (by omega) (hb.trans h60), if_neg (fun hh => by rw [this] at hh; exact absurd hh.2 (by decide))]
    · have hq2 := byt_ext s i (q - i) (by omega)
      rw [show i + (q - i) = q by omega] at hq2
      have := entH_none_grow hp (q := q - i) (by omega) (by omega) (by rw [hq2]; exact hc)
      rw [specF_ent hi h38] at hs
      rw [specF_ent (by omega) (hb.trans h38), this, hs]
    · rw [specF_esc hi h27] at hs
      cases hs
  · exact specA_no (by rw [hb]; exact hsp)
/-- Is a token settled, of those of some bytes? -/
def setB (s : ByteArray) (l : List Tk) (i : Nat) : Bool :=
  match l[i]? with
  | none => false
  | some t =>
    if t.kind = 0 then decide (i + 1 < l.length)
    else if t.kind = 1 then true
    else if t.kind = 6 then !(readE s t.fr).open_
    else if t.kind = 7 then (match l[i + 1]? with
      | none => false
      | some u => decide (2 + u.name.size < u.til - u.fr))
    else (readV s t.fr).1.closed
theorem setB_cons (s : ByteArray) (t : Tk) (l : List Tk) (i : Nat) : setB s (t :: l) (i + 1) = setB s l i := by
  unfold setB
  simp only [List.getElem?_cons_succ, List.length_cons]
  cases l[i]? with
  | none => rfl
  | some u =>
    simp only
    split
    · simp
    · rfl
theorem setB_lt {s : ByteArray} {l : List Tk} {i : Nat} (h : setB s l i = true) : i < l.length := by
  apply Classical.byContradiction
  intro hn
  unfold setB at h
  rw [List.getElem?_eq_none (by omega)] at h
  cases h
theorem scanTo_same {p q : Nat → Bool} {n n' i e : Nat} (hie : i ≤ e) (hen : e < n) (hen' : e < n') (hpe : p e = true) (hp : ∀ j, i ≤ j → j < e → p j = false) (h : ∀ j, i ≤ j → j < e → q j = false) (hqe : q e = true) : scanTo p n i = e ∧ scanTo q n' i = e := by
  have : ∀ (p : Nat → Bool) (n : Nat), e < n → p e = true → ∀ d i, e - i = d → i ≤ e → (∀ j, i ≤ j → j < e → p j = false) → scanTo p n i = e := by
    intro p n hen hpe d
    induction d with
    | zero =>
      intro i hd hie hp
      obtain rfl : i = e := by omega
      exact scanTo_stop hen hpe
    | succ d ih =>
      intro i hd hie hp
      rw [scanTo_step (by omega) (hp i (Nat.le_refl _) (by omega))]
      exact ih (i + 1) (by omega) (by omega) (fun j h1 h2 => hp j (by omega) h2)
  exact ⟨this p n hen hpe _ i rfl hie hp, this q n' hen' hqe _ i rfl hie h⟩
theorem scanTo_below {p : Nat → Bool} {n : Nat} : ∀ d i, scanTo p n i - i = d → ∀ j, i ≤ j → j < scanTo p n i → p j = false := by
  intro d
  induction d with
  | zero =>
    intro i hd j h1 h2
    omega
  | succ d ih =>
    intro i hd j h1 h2
    by_cases hin : i < n
    · by_cases hp : p i = true
      · rw [scanTo_stop hin hp] at hd
        omega
      · have hp : p i = false := by simpa using hp
        rw [scanTo_step hin hp] at hd h2
        by_cases hj : j = i
        · subst hj; exact hp
        · exact ih (i + 1) (by omega) j (by omega) h2
    · rw [scanTo_end (by omega)] at hd
      omega
theorem textE_grow {s s' : ByteArray} (h : Pre s s') {i : Nat} (hi : i < s.size) (he : textE s i < s.size) : textE s' i = textE s i := by
  have h0 := h.1
  have hge := scanTo_ge (specB s) s.size (i + 1)
  have hat : specB s (textE s i) = true := scanTo_at he
  have hbl : ∀ j, i + 1 ≤ j → j < textE s i → specB s j = false := scanTo_below _ (i + 1) rfl
  have hso : ∃ sp, specA s (textE s i) = some sp := by
    unfold specB at hat
    exact Option.isSome_iff_exists.1 hat
  obtain ⟨sp, hsp⟩ := hso
  have hc := specA_byt hsp
  obtain ⟨sp', hsp'⟩ := specA_some_grow h he hsp
  have he' : specB s' (textE s i) = true := by unfold specB; rw [hsp']; rfl
  refine (scanTo_same (p := specB s) (q := specB s') (n := s.size) (n' := s'.size) (i := i + 1) (e := textE s i) hge he (by omega) hat hbl (fun j h1 h2 => ?_) he').2
  have hn : specA s j = none := by
    have := hbl j h1 h2
    unfold specB at this
    cases hh : specA s j with
    | none => rfl
    | some x => rw [hh] at this; cases this
  unfold specB
  rw [specA_none_grow h h2 he hc hn]
  rfl
theorem closesB_grow {s s' : ByteArray} (h : Pre s s') {nm : ByteArray} {j : Nat} (hj : j + 2 + nm.size < s.size) : closesB s' nm j = closesB s nm j := by
  have h0 := h.1
  unfold closesB
  rw [h.2 j (by omega), h.2 (j + 1) (by omega), h.2 _ hj, h.extract (i := j + 2) (j := j + 2 + nm.size) (by omega), decide_eq_true (show j + 2 + nm.size ≤ s.size by omega), decide_eq_true (show j + 2 + nm.size ≤ s'.size by omega),
    decide_eq_false (show ¬ j + 2 + nm.size = s.size by omega), decide_eq_false (show ¬ j + 2 + nm.size = s'.size by omega)]
theorem rawE_grow {s s' : ByteArray} (h : Pre s s') {nm : ByteArray} {i : Nat} (he : rawE s nm i + 2 + nm.size < s.size) : rawE s' nm i = rawE s nm i := by
  have h0 := h.1
  have hge := scanTo_ge (closesB s nm) s.size i
  have hat : closesB s nm (rawE s nm i) = true := scanTo_at (show rawE s nm i < s.size by omega)
  have hbl : ∀ j, i ≤ j → j < rawE s nm i → closesB s nm j = false := scanTo_below _ i rfl
  exact (scanTo_same (p := closesB s nm) (q := closesB s' nm) (n := s.size) (n' := s'.size) (i := i) (e := rawE s nm i) hge (by omega) (by omega) hat hbl (fun j h1 h2 => by rw [closesB_grow h (by omega)]; exact hbl j h1 h2) (by rw [closesB_grow h he]; exact hat)).2
theorem passTo_over {p : Int → Bool} {s : ByteArray} {e : Nat} (he : e ≤ s.size) (h2 : e = s.size ∨ p (byt s e) = false) : ∀ d i, e - i = d → i ≤ e → (∀ j, i ≤ j → j < e → p (byt s j) = true) → passTo p s i = e := by
  intro d
  induction d with
  | zero =>
    intro i hd hi h
    obtain rfl : i = e := by omega
    by_cases hn : i < s.size
    · exact passTo_stop hn (h2.resolve_left (by omega))
    · exact passTo_end (by omega)
  | succ d ih =>
    intro i hd hi h
    rw [passTo_step (by omega) (h i (Nat.le_refl _) (by omega))]
    exact ih (i + 1) (by omega) (by omega) (fun j h1 h3 => h j (by omega) h3)
theorem raw_letters {nm : ByteArray} (h : nm = scriptB ∨ nm = styleB) : 0 < nm.size ∧ ∀ i, i < nm.size → letterB (byt nm i) = true := by
  have dec : ∀ (n : ByteArray) (k : Nat), n.size = k → (∀ i : Fin k, letterB (byt n i.1) = true) → ∀ i, i < n.size → letterB (byt n i) = true := fun n k hk hf i hi => hf ⟨i, by omega⟩
  rcases h with rfl | rfl
  · exact ⟨by decide, dec _ 6 rfl (by decide)⟩
  · exact ⟨by decide, dec _ 5 rfl (by decide)⟩
theorem letter_low {c : Int} (h : letterB (lowI c) = true) : letterB c = true := by
  unfold letterB lowI at *
  rw [Bool.or_eq_true, decide_eq_true_iff, decide_eq_true_iff] at *
  split at h <;> omega
theorem letter_nameC {c : Int} (h : letterB c = true) : nameC c = true := by
  unfold letterB at h
  unfold nameC blankB
  rw [Bool.or_eq_true, decide_eq_true_iff, decide_eq_true_iff] at h
  simp only [Bool.and_eq_true, Bool.not_eq_true', Bool.or_eq_false_iff, beq_eq_false_iff_ne, bne_iff_ne]
  omega
/-- The end tag at which raw bytes end. -/
theorem closes_tag {s nm : ByteArray} {j : Nat} (hn : nm = scriptB ∨ nm = styleB) (hc : closesB s nm j = true) :
    ∃ M, specA s j = some (tagSp M) ∧ readV s j = (M, true) ∧ M.kind = 1 ∧ M.name.size = nm.size ∧ 2 + nm.size ≤ M.size ∧ (j + 2 + nm.size = s.size → M.closed = false ∧ M.size = 2 + nm.size) ∧ (j + 2 + nm.size < s.size → 2 + nm.size < M.size) := by
  obtain ⟨hn0, hnl⟩ := raw_letters hn
  unfold closesB at hc
  simp only [Bool.and_eq_true, decide_eq_true_eq] at hc
  obtain ⟨⟨⟨⟨h1, h60⟩, h47⟩, hlow⟩, hend⟩ := hc
  have hz := ext_size s j
  have b0 := byt_ext s j 0 (by omega)
  have b1 := byt_ext s j 1 (by omega)
  have b2 := byt_ext s j 2 (by omega)
  rw [Nat.add_zero, h60] at b0
  rw [h47] at b1
  have hl : ∀ k, k < nm.size → letterB (byt s (j + 2 + k)) = true := fun k hk => by
    refine letter_low ?_
    have e1 := byt_lowerB (s.extract (j + 2) (j + 2 + nm.size)) k (by rw [ByteArray.size_extract]; omega)
    rw [hlow, byt_extract s (j + 2) (j + 2 + nm.size) k (by omega) h1] at e1
    rw [← e1]
    exact hnl k hk
  have hx2 : letterB (byt (s.extract j s.size) 2) = true := by rw [b2]; exact hl 0 hn0
  have hpass : passTo nameC (s.extract j s.size) 2 = 2 + nm.size := by
    refine passTo_over (by omega) ?_ _ 2 rfl (by omega) (fun k h2 h3 => ?_)
    · by_cases he : j + 2 + nm.size = s.size
      · left; omega
      · right
        rw [byt_ext s j (2 + nm.size) (by omega), show j + (2 + nm.size) = j + 2 + nm.size by omega]
        rw [decide_eq_false he, Bool.false_or, Bool.or_eq_true, Bool.or_eq_true, decide_eq_true_iff, decide_eq_true_iff] at hend
        unfold nameC
        rcases hend with (hh | hh) | hh
        · rw [hh]; rfl
        · rw [hh]; decide
        · rw [hh]; decide
    · rw [byt_ext s j k (by omega)]
      have := hl (k - 2) (by omega)
      rw [show j + 2 + (k - 2) = j + k by omega] at this
      exact letter_nameC this
  have hhead : headV (s.extract j s.size) = (namedV (s.extract j s.size) 2 1, true) := by
    unfold headV
    rw [if_neg (fun h => by have := ((isCom_iff _).1 h).2.2.1; omega), if_pos ⟨b1, by omega, hx2⟩]
  have hread : readV s j = (namedV (s.extract j s.size) 2 1, true) := by
    rw [readV_head (by omega) h60, hhead]
  refine ⟨_, ?_, hread, rfl, ?_, ?_, ?_, ?_⟩
  · rw [specF_tag (by omega) h60, hhead, if_pos ⟨by omega, rfl⟩]
  · show (lowerB ((s.extract j s.size).extract 2 (passTo nameC (s.extract j s.size) 2))).size = _
    rw [lowerB_size, hpass, ByteArray.size_extract]
    omega
  · show 2 + nm.size ≤ (restAt (s.extract j s.size) (passTo nameC (s.extract j s.size) 2) []).at_
    rw [hpass]
    exact restAt_ge _ _ _ (by omega)
  · intro he
    have hr := restAt_end (s.extract j s.size) (2 + nm.size) [] (by omega) (by have := passTo_ge skipC (s.extract j s.size) (2 + nm.size); omega)
    have hr2 : namedV (s.extract j s.size) 2 1 = ⟨1, passTo skipC (s.extract j s.size) (2 + nm.size), lowerB ((s.extract j s.size).extract 2 (2 + nm.size)), [], false, false⟩ := by
      unfold namedV
      rw [hpass, hr]
    rw [hr2]
    exact ⟨rfl, passTo_end (by omega)⟩
  · intro he
    show 2 + nm.size < (restAt (s.extract j s.size) (passTo nameC (s.extract j s.size) 2) []).at_
    rw [hpass]
    have hk : 2 + nm.size < (s.extract j s.size).size := by omega
    have hle := passTo_le skipC (s.extract j s.size) (i := 2 + nm.size) (by omega)
    have hge := passTo_ge skipC (s.extract j s.size) (2 + nm.size)
    by_cases hsk : s.size - j ≤ passTo skipC (s.extract j s.size) (2 + nm.size)
    · rw [restAt_end _ _ _ (by omega) (by omega)]
      show 2 + nm.size < passTo skipC _ _
      omega
    · by_cases h62 : byt (s.extract j s.size) (passTo skipC (s.extract j s.size) (2 + nm.size)) = 62
      · rw [restAt_close _ _ _ (by omega) (by omega) h62]
        show 2 + nm.size < passTo skipC _ _ + 1
        omega
      · rw [restAt_more _ _ _ (by omega) (by omega) h62]
        have ha := attrV_bd (s.extract j s.size) (passTo skipC (s.extract j s.size) (2 + nm.size)) (by omega)
        have := restAt_ge (s.extract j s.size) (attrV (s.extract j s.size) (passTo skipC (s.extract j s.size) (2 + nm.size))).2 ([] ++ [(attrV (s.extract j s.size) (passTo skipC (s.extract j s.size) (2 + nm.size))).1]) ha.2
        omega
end Go.Proofs.YtpnbkecchfhimaaGreatDoor

/- out of FdP2 -/
namespace Go.Proofs.YtpnbkecchfhimaaGreatDoor
set_option linter.unusedVariables false
set_option maxRecDepth 100000

theorem readV_extF (s : ByteArray) (k i : Nat) (h : k + i < s.size) : readV (s.extract k s.size) (i : Int) = readV s ((k + i : Nat) : Int) := by
  have hb := byt_ext s k i h
  have hz := ext_size s k
  have hx := ext_extT s k i
  unfold readV
  rw [Int.toNat_natCast, Int.toNat_natCast, hb, hx, hz]
  by_cases hc : ((k + i : Nat) : Int) < 0 ∨ (s.size : Int) - 1 ≤ ((k + i : Nat) : Int) ∨ byt s (k + i) ≠ 60
  · rw [if_pos hc, if_pos (by
      rcases hc with h | h | h
      · omega
      · exact .inr (.inl (by omega))
      · exact .inr (.inr h))]
  · rw [if_neg hc, if_neg (by
      rintro (h | h | h)
      · omega
      · exact hc (.inr (.inl (by omega)))
      · exact hc (.inr (.inr h)))]
theorem readE_extF (s : ByteArray) (k i : Nat) (h : k + i < s.size) : readE (s.extract k s.size) (i : Int) = readE s ((k + i : Nat) : Int) := by
  have hb := byt_ext s k i h
  have hz := ext_size s k
  have hx := ext_extT s k i
  unfold readE
  rw [Int.toNat_natCast, Int.toNat_natCast, hb, hx, hz]
  by_cases hc : 0 ≤ ((k + i : Nat) : Int) ∧ ((k + i : Nat) : Int) < s.size ∧ byt s (k + i) = 27
  · rw [if_pos hc, if_pos ⟨by omega, by omega, hc.2.2⟩]
  · rw [if_neg hc, if_neg (fun hh => hc ⟨by omega, by omega, hh.2.2⟩)]
theorem toksAt_head {s : ByteArray} {i : Nat} {sp : Sp} (h : i < s.size) (hs : specA s i = some sp) : ∃ L, toksAt s i = spTk i sp :: L := by
  by_cases hr : sp.raw = true ∧ i + sp.size < rawE s sp.name (i + sp.size)
  · exact ⟨_, toksAt_raw h hs hr⟩
  · exact ⟨_, toksAt_spec h hs hr⟩
theorem toksAt_pos {s : ByteArray} {i : Nat} (h : i < s.size) : 0 < (toksAt s i).length := by
  cases hs : specA s i with
  | none => rw [toksAt_text h hs]; exact Nat.succ_pos _
  | some sp =>
    obtain ⟨L, hL⟩ := toksAt_head h hs
    rw [hL]
    exact Nat.succ_pos _
/-- A settled token but a text, or raw bytes, begins so with more behind. -/
theorem specA_set_grow {s s' : ByteArray} (h : Pre s s') {i : Nat} (hi : i < s.size) {sp : Sp} (hs : specA s i = some sp) {L : List Tk} (hb : setB s (spTk i sp :: L) 0 = true) :
    specA s' i = some sp ∧ ∀ L', setB s' (spTk i sp :: L') 0 = true := by
  have h0 := h.1
  have hby := h.2 i hi
  have hp := h.ext (Nat.le_of_lt hi)
  have hz := ext_size s i
  have hse : setB s (spTk i sp :: L) 0 = if sp.kind = 0 then decide (0 + 1 < (spTk i sp :: L).length) else if sp.kind = 1 then true else if sp.kind = 6 then !(readE s i).open_ else if sp.kind = 7 then (match L[0]? with
      | none => false
      | some u => decide (2 + u.name.size < u.til - u.fr)) else (readV s i).1.closed := rfl
  have hse' : ∀ L' : List Tk, setB s' (spTk i sp :: L') 0 = if sp.kind = 0 then decide (0 + 1 < (spTk i sp :: L').length) else if sp.kind = 1 then true else if sp.kind = 6 then !(readE s' i).open_ else if sp.kind = 7 then (match L'[0]? with
      | none => false
      | some u => decide (2 + u.name.size < u.til - u.fr)) else (readV s' i).1.closed := fun L' => rfl
  rcases specA_byt hs with hc | hc | hc
  · have hsp := hs
    rw [specF_tag hi hc] at hs
    split at hs
    · rename_i hh
      injection hs with hs
      have hg := (hp.head (by omega)).2 hh.2
      have hk := headV_bd (s.extract i s.size) (by omega) hh.2
      have hkd : sp.kind = 2 + (headV (s.extract i s.size)).1.kind := by rw [← hs]; rfl
      have e1 : readV s i = headV (s.extract i s.size) := readV_head hh.1 hc
      have e2 : readV s' i = headV (s'.extract i s'.size) := readV_head (by omega) (hby.trans hc)
      rw [hse, if_neg (by omega), if_neg (by omega), if_neg (by omega), if_neg (by omega), e1] at hb
      have hm := hg.2.2.same hb
      refine ⟨?_, fun L' => ?_⟩
      · rw [specF_tag (by omega) (hby.trans hc), if_pos ⟨by omega, hg.1⟩, hm, hs]
      · rw [hse', if_neg (by omega), if_neg (by omega), if_neg (by omega), if_neg (by omega), e2, hm]
        exact hb
    · cases hs
  · rw [specF_ent hi hc, Option.map_eq_some_iff] at hs
    obtain ⟨⟨r, n⟩, he, hsp⟩ := hs
    have := entH_some_grow hp (by omega) (by have := byt_ext s i 0 (by omega); rw [this]; exact hc) he
    refine ⟨by rw [specF_ent (by omega) (hby.trans hc), this, ← hsp]; rfl, fun L' => ?_⟩
    have hkd : sp.kind = 1 := by rw [← hsp]
    rw [hse', if_neg (by omega), if_pos hkd]
  · rw [specF_esc hi hc] at hs
    injection hs with hs
    have hkd : sp.kind = 6 := by rw [← hs]
    have e1 : readE s i = headE (s.extract i s.size) := readE_headF hi hc
    have e2 : readE s' i = headE (s'.extract i s'.size) := readE_headF (by omega) (hby.trans hc)
    rw [hse, if_neg (by omega), if_neg (by omega), if_pos hkd, e1] at hb
    have hm := (head_grows hp (by omega)).1 (by simpa using hb)
    refine ⟨by rw [specF_esc (by omega) (hby.trans hc), hm, hs], fun L' => ?_⟩
    rw [hse', if_neg (by omega), if_neg (by omega), if_pos hkd, e2, hm]
    exact hb
/-- WHAT IS SETTLED STAYS. -/
theorem toks_grow {s s' : ByteArray} (h : Pre s s') : ∀ (d i : Nat), s.size - i ≤ d → ∀ j, (∀ k, k < j → setB s (toksAt s i) k = true) → (toksAt s' i).take j = (toksAt s i).take j ∧ ∀ k, k < j → setB s' (toksAt s' i) k = true := by
  have h0 := h.1
  intro d
  induction d with
  | zero =>
    intro i hd j hj
    cases j with
    | zero => exact ⟨rfl, fun k hk => absurd hk (Nat.not_lt_zero _)⟩
    | succ j =>
      have := setB_lt (hj 0 (Nat.succ_pos _))
      rw [toksAt_end (by omega)] at this
      exact absurd this (Nat.not_lt_zero _)
  | succ d ih =>
    intro i hd j hj
    cases j with
    | zero => exact ⟨rfl, fun k hk => absurd hk (Nat.not_lt_zero _)⟩
    | succ j =>
      have hb0 := hj 0 (Nat.succ_pos _)
      have hi : i < s.size := by
        apply Classical.byContradiction
        intro hn
        have := setB_lt hb0
        rw [toksAt_end (by omega)] at this
        exact absurd this (Nat.not_lt_zero _)
      cases hs : specA s i with
      | none =>
        have hge := scanTo_ge (specB s) s.size (i + 1)
        have he1 := toksAt_text hi hs
        rw [he1] at hj hb0 ⊢
        have hbe : setB s (textTk i (textE s i) :: toksAt s (textE s i)) 0 = decide (0 + 1 < (textTk i (textE s i) :: toksAt s (textE s i)).length) := rfl
        rw [hbe, decide_eq_true_iff, List.length_cons] at hb0
        have hel : textE s i < s.size := by
          apply Classical.byContradiction
          intro hn
          rw [toksAt_end (by omega)] at hb0
          exact absurd hb0 (by decide)
        obtain ⟨sp, hsp⟩ : ∃ sp, specA s (textE s i) = some sp := by
          have hat : specB s (textE s i) = true := scanTo_at hel
          exact Option.isSome_iff_exists.1 hat
        have hn' := specA_none_grow h (show i < textE s i by unfold textE; omega) hel (specA_byt hsp) hs
        have he2 := toksAt_text (s := s') (by omega) hn'
        rw [textE_grow h hi hel] at he2
        have hih := ih (textE s i) (by unfold textE; omega) j (fun k hk => by have := hj (k + 1) (by omega); rwa [setB_cons] at this)
        rw [he2]
        refine ⟨by rw [List.take_succ_cons, List.take_succ_cons, hih.1], fun k hk => ?_⟩
        cases k with
        | zero =>
          have hbe' : setB s' (textTk i (textE s i) :: toksAt s' (textE s i)) 0 = decide (0 + 1 < (textTk i (textE s i) :: toksAt s' (textE s i)).length) := rfl
          rw [hbe', decide_eq_true_iff, List.length_cons]
          have := toksAt_pos (s := s') (i := textE s i) (by omega)
          omega
        | succ k => rw [setB_cons]; exact hih.2 k (by omega)
      | some sp =>
        have hb := specA_bd hs
        by_cases hr : sp.raw = true ∧ i + sp.size < rawE s sp.name (i + sp.size)
        · have he1 := toksAt_raw hi hs hr
          rw [he1] at hj hb0 ⊢
          obtain ⟨hs', hset'⟩ := specA_set_grow h hi hs hb0
          cases j with
          | zero =>
            obtain ⟨L', hL'⟩ := toksAt_head (s := s') (by omega) hs'
            rw [hL']
            refine ⟨rfl, fun k hk => ?_⟩
            obtain rfl : k = 0 := by omega
            exact hset' L'
          | succ j =>
            have hb1 := hj 1 (by omega)
            rw [setB_cons] at hb1
            have hbe : setB s (rawTk (i + sp.size) (rawE s sp.name (i + sp.size)) :: toksAt s (rawE s sp.name (i + sp.size))) 0 = (match (toksAt s (rawE s sp.name (i + sp.size)))[0]? with
              | none => false
              | some u => decide (2 + u.name.size < u.til - u.fr)) := rfl
            rw [hbe] at hb1
            have hel : rawE s sp.name (i + sp.size) < s.size := by
              apply Classical.byContradiction
              intro hn
              rw [toksAt_end (by omega)] at hb1
              cases hb1
            have hcl : closesB s sp.name (rawE s sp.name (i + sp.size)) = true := scanTo_at hel
            obtain ⟨M, m1, m2, m3, m4, m5, m6, m7⟩ := closes_tag (specA_raw hs hr.1).2 hcl
            obtain ⟨L, hL⟩ := toksAt_head hel m1
            rw [hL] at hb1
            have hb1 : decide (2 + M.name.size < rawE s sp.name (i + sp.size) + M.size - rawE s sp.name (i + sp.size)) = true := hb1
            rw [decide_eq_true_iff] at hb1
            have hle : rawE s sp.name (i + sp.size) + 2 + sp.name.size ≤ s.size := by
              unfold closesB at hcl
              simp only [Bool.and_eq_true, decide_eq_true_eq] at hcl
              exact hcl.1.1.1.1
            have hlt : rawE s sp.name (i + sp.size) + 2 + sp.name.size < s.size := by
              apply Classical.byContradiction
              intro hn
              have := m6 (by omega)
              omega
            have hre := rawE_grow h hlt
            have he2 := toksAt_raw (s := s') (by omega) hs' (by rw [hre]; exact hr)
            rw [hre] at he2
            have hih := ih (rawE s sp.name (i + sp.size)) (by omega) j (fun k hk => by have := hj (k + 2) (by omega); rwa [setB_cons, setB_cons] at this)
            rw [he2]
            refine ⟨by rw [List.take_succ_cons, List.take_succ_cons, List.take_succ_cons, List.take_succ_cons, hih.1], fun k hk => ?_⟩
            cases k with
            | zero => exact hset' _
            | succ k =>
              rw [setB_cons]
              cases k with
              | zero =>
                have hbe' : setB s' (rawTk (i + sp.size) (rawE s sp.name (i + sp.size)) :: toksAt s' (rawE s sp.name (i + sp.size))) 0 = (match (toksAt s' (rawE s sp.name (i + sp.size)))[0]? with
                  | none => false
                  | some u => decide (2 + u.name.size < u.til - u.fr)) := rfl
                rw [hbe']
                have hcl' : closesB s' sp.name (rawE s sp.name (i + sp.size)) = true := by rw [closesB_grow h hlt]; exact hcl
                obtain ⟨M', n1, n2, n3, n4, n5, n6, n7⟩ := closes_tag (specA_raw hs hr.1).2 hcl'
                obtain ⟨L', hL'⟩ := toksAt_head (s := s') (by omega) n1
                rw [hL']
                show decide (2 + M'.name.size < rawE s sp.name (i + sp.size) + M'.size - rawE s sp.name (i + sp.size)) = true
                rw [decide_eq_true_iff]
                have := n7 (by omega)
                omega
              | succ k => rw [setB_cons]; exact hih.2 k (by omega)
        · have he1 := toksAt_spec hi hs hr
          rw [he1] at hj hb0 ⊢
          obtain ⟨hs', hset'⟩ := specA_set_grow h hi hs hb0
          cases j with
          | zero =>
            obtain ⟨L', hL'⟩ := toksAt_head (s := s') (by omega) hs'
            rw [hL']
            refine ⟨rfl, fun k hk => ?_⟩
            obtain rfl : k = 0 := by omega
            exact hset' L'
          | succ j =>
            have hb1 := hj 1 (by omega)
            rw [setB_cons] at hb1
            have hel : i + sp.size < s.size := by
              apply Classical.byContradiction
              intro hn
              have := setB_lt hb1
              rw [toksAt_end (by omega)] at this
              exact absurd this (Nat.not_lt_zero _)
            have hr' : ¬ (sp.raw = true ∧ i + sp.size < rawE s' sp.name (i + sp.size)) := by
              intro hh
              have hge := scanTo_ge (closesB s sp.name) s.size (i + sp.size)
              have hre0 : rawE s sp.name (i + sp.size) = i + sp.size := by
                have : ¬ i + sp.size < rawE s sp.name (i + sp.size) := fun h2 => hr ⟨hh.1, h2⟩
                unfold rawE at *
                omega
              have hcl : closesB s sp.name (i + sp.size) = true := by
                have := scanTo_at (p := closesB s sp.name) (n := s.size) (i := i + sp.size) (by show rawE s sp.name (i + sp.size) < s.size; omega)
                have e : scanTo (closesB s sp.name) s.size (i + sp.size) = i + sp.size := hre0
                rwa [e] at this
              obtain ⟨M, m1, m2, m3, m4, m5, m6, m7⟩ := closes_tag (specA_raw hs hh.1).2 hcl
              obtain ⟨L, hL⟩ := toksAt_head hel m1
              rw [hL] at hb1
              have hbe : setB s (spTk (i + sp.size) (tagSp M) :: L) 0 = if 2 + M.kind = 0 then decide (0 + 1 < (spTk (i + sp.size) (tagSp M) :: L).length) else if 2 + M.kind = 1 then true else if 2 + M.kind = 6 then !(readE s (i + sp.size : Nat)).open_ else if 2 + M.kind = 7 then (match L[0]? with
                | none => false
                | some u => decide (2 + u.name.size < u.til - u.fr)) else (readV s (i + sp.size : Nat)).1.closed := rfl
              rw [hbe, if_neg (by omega), if_neg (by omega), if_neg (by omega), if_neg (by omega), m2] at hb1
              have hle : i + sp.size + 2 + sp.name.size ≤ s.size := by
                unfold closesB at hcl
                simp only [Bool.and_eq_true, decide_eq_true_eq] at hcl
                exact hcl.1.1.1.1
              have hlt : i + sp.size + 2 + sp.name.size < s.size := by
                apply Classical.byContradiction
                intro hn
                have := (m6 (by omega)).1
                have hb1 : M.closed = true := hb1
                rw [this] at hb1
                cases hb1
              have := rawE_grow h (nm := sp.name) (i := i + sp.size) (by rw [hre0]; exact hlt)
              rw [this, hre0] at hh
              omega
            have he2 := toksAt_spec (s := s') (by omega) hs' hr'
            have hih := ih (i + sp.size) (by omega) (j + 1) (fun k hk => by have := hj (k + 1) (by omega); rwa [setB_cons] at this)
            rw [he2]
            refine ⟨by rw [List.take_succ_cons, List.take_succ_cons, hih.1], fun k hk => ?_⟩
            cases k with
            | zero => exact hset' _
            | succ k => rw [setB_cons]; exact hih.2 k (by omega)
/-- The place at which token m begins; or the end of all. -/
def begT (l : List Tk) (m : Nat) : Nat := match m with
  | 0 => 0
  | m + 1 => match l[m]? with
    | none => 0
    | some t => t.til
theorem begT_take {l l' : List Tk} {m n : Nat} (h : l'.take n = l.take n) (hm : m ≤ n) : begT l' m = begT l m := by
  cases m with
  | zero => rfl
  | succ m =>
    have : l'[m]? = l[m]? := by
      have h1 := congrArg (·[m]?) h
      simp only [List.getElem?_take] at h1
      rwa [if_pos (by omega), if_pos (by omega)] at h1
    unfold begT
    simp only
    rw [this]
theorem tile_beg {n : Nat} : ∀ (l : List Tk) (i : Nat) (pk : Int), tileP n i pk l → ∀ m, (∀ t, l[m]? = some t → t.fr = if m = 0 then i else begT l m) ∧ (m = l.length → n = if m = 0 then i else begT l m)
  | [], i, pk, h, m => ⟨fun t ht => by simp at ht, fun hm => by
      simp at hm
      subst hm
      exact h.symm⟩
  | x :: l, i, pk, h, m => by
    cases m with
    | zero =>
      refine ⟨fun t ht => ?_, fun hm => by simp at hm⟩
      simp at ht
      subst ht
      exact h.1
    | succ m =>
      have ih := tile_beg l x.til x.kind h.2.2.2.2.2 m
      have hbe : begT (x :: l) (m + 1) = if m = 0 then x.til else begT l m := by
        cases m with
        | zero => rfl
        | succ m => rfl
      rw [if_neg (Nat.succ_ne_zero _), hbe]
      exact ⟨fun t ht => ih.1 t (by simpa using ht), fun hm => ih.2 (by simpa using hm)⟩
theorem toks_beg {s : ByteArray} {m : Nat} {t : Tk} (h : (toks s)[m]? = some t) : t.fr = begT (toks s) m := by
  have := (tile_beg _ 0 (-1) (toks_tiles s) m).1 t h
  cases m with
  | zero => exact this
  | succ m => exact this
theorem toks_begEnd (s : ByteArray) : begT (toks s) (toks s).length = s.size := by
  have := (tile_beg _ 0 (-1) (toks_tiles s) (toks s).length).2 rfl
  cases h : (toks s).length with
  | zero => rw [h] at this; exact this.symm
  | succ m => rw [h] at this; exact this.symm
theorem begT_le {s : ByteArray} {m : Nat} (h : m ≤ (toks s).length) : begT (toks s) m ≤ s.size := by
  cases m with
  | zero => exact Nat.zero_le _
  | succ m =>
    have hm : m < (toks s).length := by omega
    unfold begT
    simp only
    rw [List.getElem?_eq_getElem hm]
    exact (toks_mem (List.getElem_mem hm)).2.1
/-- Must a token be kept? -/
def keepB (t : Tk) : Bool := decide (t.kind = 2) && !t.single && rawsB t.name
theorem specA_rawK {s : ByteArray} {i : Nat} {sp : Sp} (h : specA s i = some sp) (hr : sp.raw = true) : keepB (spTk i sp) = true := by
  have h2 := (specA_raw h hr).1
  rcases specA_byt h with hc | hc | hc
  · unfold specA at h
    rw [if_pos hc] at h
    split at h
    · injection h with h
      subst h
      have hr : (decide ((readV s i).1.kind = 0) && (readV s i).1.closed && !(readV s i).1.single && rawsB (readV s i).1.name) = true := hr
      show (decide (2 + (readV s i).1.kind = 2) && !(readV s i).1.single && rawsB (readV s i).1.name) = true
      simp only [Bool.and_eq_true, decide_eq_true_eq] at hr ⊢
      exact ⟨⟨by omega, hr.1.2⟩, hr.2⟩
    · cases h
  · unfold specA at h
    rw [if_neg (by omega), if_pos hc, Option.map_eq_some_iff] at h
    obtain ⟨p, _, rfl⟩ := h
    cases hr
  · unfold specA at h
    rw [if_neg (by omega), if_neg (by omega)] at h
    split at h
    · injection h with h
      subst h
      cases hr
    · cases h
/-- Raw bytes stand behind a start tag that is kept. -/
theorem raw_behind (s : ByteArray) : ∀ (d i : Nat), s.size - i ≤ d → (∀ t, (toksAt s i)[0]? = some t → t.kind ≠ 7) ∧ ∀ m t, (toksAt s i)[m + 1]? = some t → t.kind = 7 → ∃ u, (toksAt s i)[m]? = some u ∧ keepB u = true := by
  intro d
  induction d with
  | zero =>
    intro i hd
    rw [toksAt_end (by omega)]
    exact ⟨fun t h => by simp at h, fun m t h => by simp at h⟩
  | succ d ih =>
    intro i hd
    by_cases hi : i < s.size
    · cases hs : specA s i with
      | none =>
        have h1 := scanTo_ge (specB s) s.size (i + 1)
        have hih := ih (textE s i) (by unfold textE; omega)
        rw [toksAt_text hi hs]
        refine ⟨fun t h => ?_, fun m t h hk => ?_⟩
        · simp at h
          subst h
          exact (show (0 : Int) ≠ 7 by decide)
        · cases m with
          | zero => exact absurd hk (hih.1 t (by simpa using h))
          | succ m => exact hih.2 m t (by simpa using h) hk
      | some sp =>
        have hb := specA_bd hs
        have hk7 : (spTk i sp).kind ≠ 7 := fun h => by
          have h : sp.kind = 7 := h
          omega
        by_cases hr : sp.raw = true ∧ i + sp.size < rawE s sp.name (i + sp.size)
        · have hih := ih (rawE s sp.name (i + sp.size)) (by omega)
          rw [toksAt_raw hi hs hr]
          refine ⟨fun t h => ?_, fun m t h hk => ?_⟩
          · simp at h
            subst h
            exact hk7
          · cases m with
            | zero => exact ⟨_, rfl, specA_rawK hs hr.1⟩
            | succ m =>
              cases m with
              | zero => exact absurd hk (hih.1 t (by simpa using h))
              | succ m => exact hih.2 m t (by simpa using h) hk
        · have hih := ih (i + sp.size) (by omega)
          rw [toksAt_spec hi hs hr]
          refine ⟨fun t h => ?_, fun m t h hk => ?_⟩
          · simp at h
            subst h
            exact hk7
          · cases m with
            | zero => exact absurd hk (hih.1 t (by simpa using h))
            | succ m => exact hih.2 m t (by simpa using h) hk
    · rw [toksAt_end (by omega)]
      exact ⟨fun t h => by simp at h, fun m t h => by simp at h⟩
/-- From a place on at which no raw bytes begin. -/
theorem toks_from {s : ByteArray} {m : Nat} (hm : m ≤ (toks s).length) (h7 : ∀ t, (toks s)[m]? = some t → t.kind ≠ 7) : toksAt s (begT (toks s) m) = (toks s).drop m := by
  by_cases hl : m < (toks s).length
  · have ht := List.getElem?_eq_getElem hl
    rw [← toks_beg ht]
    exact (toksAt_drop s _ 0 (Nat.le_refl _) m _ ht (h7 _ ht)).symm
  · obtain rfl : m = (toks s).length := by omega
    rw [toks_begEnd, toksAt_end (Nat.le_refl _), List.drop_length]
theorem setB_drop (s : ByteArray) (l : List Tk) : ∀ m i, setB s (l.drop m) i = setB s l (m + i) := by
  induction l with
  | nil =>
    intro m i
    rw [List.drop_nil]
    unfold setB
    rfl
  | cons x l ih =>
    intro m i
    cases m with
    | zero => rw [Nat.zero_add]; rfl
    | succ m => rw [List.drop_succ_cons, ih, show m + 1 + i = (m + i) + 1 by omega, setB_cons]
/-- The settled ones of the bytes from a place on. -/
theorem setB_ext (s : ByteArray) (p : Nat) (hp : p ≤ s.size) (i : Nat) : setB (s.extract p s.size) (toks (s.extract p s.size)) i = setB s (toksAt s p) i := by
  have he := toksAt_ext s p hp _ 0 (Nat.le_refl _)
  rw [Nat.add_zero] at he
  have he : toksAt s p = (toks (s.extract p s.size)).map (Tk.up p) := he
  rw [he]
  have hmem : ∀ t ∈ toks (s.extract p s.size), p + t.fr < s.size := fun t ht => by
    have := toks_mem ht
    have := ext_size s p
    omega
  generalize hl : toks (s.extract p s.size) = l at *
  unfold setB
  rw [List.getElem?_map, List.getElem?_map, List.length_map]
  cases ht : l[i]? with
  | none => rfl
  | some t =>
    have hin := hmem t (List.mem_of_getElem? ht)
    have h1 := readV_extF s p t.fr hin
    have h2 := readE_extF s p t.fr hin
    simp only [Option.map_some]
    have e1 : (Tk.up p t).kind = t.kind := rfl
    have e2 : (Tk.up p t).fr = p + t.fr := Nat.add_comm _ _
    rw [e1, e2, h1, h2]
    cases hu : l[i + 1]? with
    | none => rfl
    | some u =>
      simp only [Option.map_some]
      have e3 : (Tk.up p u).name = u.name := rfl
      have e4 : (Tk.up p u).til - (Tk.up p u).fr = u.til - u.fr := by show u.til + p - (u.fr + p) = _; omega
      rw [e3, e4]
/-- What a feeder holds: m tokens are behind its place, and k of those from there on are answered. -/
structure FdOk (s : ByteArray) (m k : Nat) : Prop where
  le : m + k ≤ (toks s).length
  set : ∀ i, i < m + k → setB s (toks s) i = true
  one : k ≤ 1
  not7 : ∀ t, (toks s)[m]? = some t → t.kind ≠ 7
  keep : k = 0 → ∀ m', m = m' + 1 → ∀ t, (toks s)[m']? = some t → keepB t = false
theorem FdOk.zero : FdOk noB 0 0 := by
  have : toks noB = [] := toksAt_end (Nat.le_refl _)
  refine ⟨Nat.zero_le _, fun i h => absurd h (Nat.not_lt_zero _), Nat.zero_le _, fun t h => ?_, fun _ m' h => absurd h.symm (Nat.succ_ne_zero _)⟩
  rw [this] at h
  cases h
theorem take_get {l l' : List Tk} {n : Nat} (h : l'.take n = l.take n) {i : Nat} (hi : i < n) : l'[i]? = l[i]? := by
  have h1 := congrArg (·[i]?) h
  simp only [List.getElem?_take] at h1
  rwa [if_pos hi, if_pos hi] at h1
theorem FdOk.grow {s s' : ByteArray} {m k : Nat} (h : FdOk s m k) (hp : Pre s s') : FdOk s' m k ∧ (toks s').take (m + k) = (toks s).take (m + k) ∧ begT (toks s') m = begT (toks s) m := by
  have hg := toks_grow hp _ 0 (Nat.le_refl _) (m + k) h.set
  have hg1 : (toks s').take (m + k) = (toks s).take (m + k) := hg.1
  refine ⟨⟨?_, hg.2, h.one, fun t ht h7 => ?_, fun hk m' hm' t ht => ?_⟩, hg1, begT_take hg1 (by omega)⟩
  · have := congrArg List.length hg1
    rw [List.length_take, List.length_take] at this
    have := h.le
    omega
  · by_cases hk : k = 0
    · cases hm : m with
      | zero =>
        subst hm
        exact (raw_behind s' _ 0 (Nat.le_refl _)).1 t ht h7
      | succ m' =>
        rw [hm] at ht
        obtain ⟨u, hu, hku⟩ := (raw_behind s' _ 0 (Nat.le_refl _)).2 m' t ht h7
        have hu2 : (toks s)[m']? = some u := by rw [← take_get hg1 (by omega)]; exact hu
        have := h.keep hk m' hm u hu2
        rw [hku] at this
        cases this
    · rw [take_get hg1 (by omega)] at ht
      exact h.not7 t ht h7
  · rw [take_get hg1 (by omega)] at ht
    exact h.keep hk m' hm' t ht
/-- How many are settled. -/
def setN (s : ByteArray) : Nat := scanTo (fun i => !setB s (toks s) i) (toks s).length 0
theorem setN_from {s : ByteArray} {T : Nat} (h : ∀ i, i < T → setB s (toks s) i = true) : ∀ d i, T - i = d → i ≤ T → T ≤ (toks s).length → scanTo (fun i => !setB s (toks s) i) (toks s).length i = scanTo (fun i => !setB s (toks s) i) (toks s).length T := by
  intro d
  induction d with
  | zero =>
    intro i hd hi hl
    obtain rfl : i = T := by omega
    rfl
  | succ d ih =>
    intro i hd hi hl
    rw [scanTo_step (by omega) (by rw [h i (by omega)]; rfl)]
    exact ih (i + 1) (by omega) (by omega) hl
theorem FdOk.setN_eq {s : ByteArray} {m k : Nat} (h : FdOk s m k) : scanTo (fun i => !setB s (toks s) i) (toks s).length (m + k) = setN s := (setN_from h.set _ 0 rfl (Nat.zero_le _) h.le).symm
theorem setN_set (s : ByteArray) : ∀ i, i < setN s → setB s (toks s) i = true := fun i hi => by
  have := scanTo_below (p := fun i => !setB s (toks s) i) (n := (toks s).length) _ 0 rfl i (Nat.zero_le _) hi
  simpa using this
theorem setN_le (s : ByteArray) : setN s ≤ (toks s).length := scanTo_le _ (Nat.zero_le _)
theorem FdOk.le_setN {s : ByteArray} {m k : Nat} (h : FdOk s m k) : m + k ≤ setN s := by
  rw [← h.setN_eq]
  exact scanTo_ge _ _ _
/-- Behind an answer. -/
theorem FdOk.next {s : ByteArray} {n : Nat} (hn : n ≤ setN s) (h0 : 0 < n) {t : Tk} (ht : (toks s)[n - 1]? = some t) : if keepB t = true then FdOk s (n - 1) 1 else FdOk s n 0 := by
  have hl := setN_le s
  have hset : ∀ i, i < n → setB s (toks s) i = true := fun i hi => setN_set s i (by omega)
  have hrb := raw_behind s _ 0 (Nat.le_refl _)
  by_cases hk : keepB t = true
  · rw [if_pos hk]
    refine ⟨by omega, fun i hi => hset i (by omega), Nat.le_refl _, fun u hu => ?_, fun h => by cases h⟩
    rw [hu] at ht
    injection ht with ht
    subst ht
    intro h7
    unfold keepB at hk
    rw [h7] at hk
    exact absurd hk (by simp)
  · rw [if_neg hk]
    refine ⟨by omega, fun i hi => hset i (by omega), Nat.zero_le _, fun u hu h7 => ?_, fun _ m' hm' u hu => ?_⟩
    · cases hn0 : n with
      | zero => omega
      | succ n' =>
        subst hn0
        obtain ⟨u', hu', hku⟩ := hrb.2 n' u hu h7
        have hu'' : (toks s)[n' + 1 - 1]? = some u' := hu'
        rw [ht] at hu''
        injection hu'' with hu''
        subst hu''
        exact hk hku
    · subst hm'
      have hu : (toks s)[m' + 1 - 1]? = some u := hu
      rw [ht] at hu
      injection hu with hu
      subst hu
      simpa using hk
end Go.Proofs.YtpnbkecchfhimaaGreatDoor

/- out of TkN -/
namespace Go.Proofs.YtpnbkecchfhimaaGreatDoor
set_option linter.unusedVariables false
set_option maxRecDepth 100000

theorem upToV_name (s : ByteArray) (i : Nat) (kd : Int) (e : ByteArray) : (upToV s i kd e).name.size ≤ s.size := by
  unfold upToV
  cases upAt s e i with
  | none => exact Nat.zero_le _
  | some z => exact Nat.zero_le _
theorem namedV_name (s : ByteArray) (i : Nat) (kd : Int) : (namedV s i kd).name.size ≤ s.size := by
  show (lowerB (s.extract i (passTo nameC s i))).size ≤ s.size
  rw [lowerB_size, ByteArray.size_extract]
  omega
theorem headV_name (t : ByteArray) : (headV t).1.name.size ≤ t.size := by
  unfold headV
  split
  · exact upToV_name _ _ _ _
  · split
    · exact namedV_name _ _ _
    · split
      · exact upToV_name _ _ _ _
      · split
        · exact namedV_name _ _ _
        · exact Nat.zero_le _
theorem readV_name (s : ByteArray) (i : Nat) : (readV s i).1.name.size ≤ s.size := by
  unfold readV
  split
  · exact Nat.zero_le _
  · have := headV_name (s.extract (i : Int).toNat s.size)
    rw [ext_size] at this
    omega
theorem specA_name {s : ByteArray} {i : Nat} {sp : Sp} (h : specA s i = some sp) : sp.name.size ≤ s.size := by
  unfold specA at h
  split at h
  · split at h
    · injection h with h
      subst h
      exact readV_name s i
    · cases h
  · split at h
    · rw [Option.map_eq_some_iff] at h
      obtain ⟨p, hp, rfl⟩ := h
      exact Nat.zero_le _
    · split at h
      · injection h with h
        subst h
        exact Nat.zero_le _
      · cases h
theorem toksAt_name (s : ByteArray) : ∀ (d i : Nat), s.size - i ≤ d → ∀ t ∈ toksAt s i, t.name.size ≤ s.size := by
  intro d
  induction d with
  | zero =>
    intro i h t ht
    rw [toksAt_end (by omega)] at ht
    cases ht
  | succ d ih =>
    intro i h t ht
    by_cases hi : i < s.size
    · cases hs : specA s i with
      | none =>
        have h1 := scanTo_ge (specB s) s.size (i + 1)
        rw [toksAt_text hi hs] at ht
        rcases List.mem_cons.1 ht with rfl | ht
        · exact Nat.zero_le _
        · exact ih (textE s i) (by unfold textE; omega) t ht
      | some sp =>
        have hb := specA_bd hs
        have hn := specA_name hs
        by_cases hr : sp.raw = true ∧ i + sp.size < rawE s sp.name (i + sp.size)
        · rw [toksAt_raw hi hs hr] at ht
          rcases List.mem_cons.1 ht with rfl | ht
          · exact hn
          · rcases List.mem_cons.1 ht with rfl | ht
            · exact Nat.zero_le _
            · exact ih _ (by have := hr.2; omega) t ht
        · rw [toksAt_spec hi hs hr] at ht
          rcases List.mem_cons.1 ht with rfl | ht
          · exact hn
          · exact ih (i + sp.size) (by omega) t ht
    · rw [toksAt_end (by omega)] at ht
      cases ht
theorem name_size {s : ByteArray} {t : Tk} (h : t ∈ toks s) : t.name.size ≤ s.size := toksAt_name s _ 0 (Nat.le_refl _) t h
end Go.Proofs.YtpnbkecchfhimaaGreatDoor
