/- Chapter 18: the document's states are the reader: plain, the rest. -/
import Derived.Test.YtpkbmgpbagdalaaTagSt
namespace Go.Proofs.Ytpkbmgpbagdalaa
set_option linter.unusedVariables false

theorem empty_append (x : ByteArray) : (⟨#[]⟩ : ByteArray) ++ x = x := by
  apply ByteArray.ext
  simp [ByteArray.data_append]

/-- In a value without quotes that begins at k. -/
theorem in5 (s : ByteArray) (kd : Int) (k : Nat) (hk : k < s.size) (hp : valC (byt s k) = true) (st : St) (h5 : st.state = 5) (hv : st.value = at1 s k) (hB : ∀ e, k < e → e ≤ s.size → Bet s kd e) :
    fromT s kd (k + 1) st = fin kd st.tname (restAt s (passTo valC s k) (st.attrs ++ [(st.name, s.extract k (passTo valC s k))])) := by
  have hr := runs s kd valC (fun x y => { x with value := x.value ++ y }) (fun x => by simp [append_empty]) (fun x y z => by simp [append_assoc3]) (fun x => x.state = 5) (fun x y h => h)
    (fun x c ch h hp => by
      unfold valC at hp
      simp only [Bool.and_eq_true, Bool.not_eq_true', bne_iff_ne] at hp
      unfold stepT
      rw [h]
      simp only
      rw [if_neg (by simp [hp.1, hp.2])]) _ (k + 1) st rfl (by omega) h5
  have h1 := passTo_ge valC s (k + 1)
  have h2 := passTo_le valC s (i := k + 1) (by omega)
  have hno := passTo_no valC s _ (k + 1) rfl
  rw [hr, hv, passTo_step hk hp]
  generalize passTo valC s (k + 1) = j at *
  have hes : at1 s k ++ s.extract (k + 1) j = s.extract k j := ext_append s k (k + 1) j (by omega) h1 h2
  rw [hes]
  by_cases hjs : j < s.size
  · have hc := hno hjs
    unfold valC at hc
    have hcc : blankB (byt s j) = true ∨ byt s j = 62 := by
      cases hbl : blankB (byt s j)
      · right; rw [hbl] at hc; simpa using hc
      · exact .inl rfl
    have hst : stepT { st with value := s.extract k j } (byt s j) (at1 s j) = ({ st with value := s.extract k j, attrs := st.attrs ++ [(st.name, s.extract k j)], state := 1, slash := false }, byt s j == 62) := by
      unfold stepT
      simp only [h5]
      rw [if_pos hcc]
    by_cases h62 : byt s j = 62
    · rw [h62] at hst
      rw [fromT_stop s kd j _ _ hjs (by rw [h62]; exact hst)]
      exact close_at s kd j hjs h62 _ _
    · have hbl : blankB (byt s j) = true := hcc.resolve_right h62
      have hf : (byt s j == 62) = false := by simpa using h62
      rw [hf] at hst
      rw [fromT_go s kd j _ _ hjs hst]
      refine bet_at s kd j (hB j (by omega) h2) hjs _ rfl (.inl hbl) _ rfl ?_
      have := (blank_not hbl).1
      show false = _
      simp [this]
  · obtain rfl : j = s.size := by omega
    rw [fromT_end s kd _ _ (Nat.le_refl _)]
    simp only [h5]
    rw [if_pos (by decide)]
    exact end_at s kd _ _

theorem blanks_run (s : ByteArray) (kd : Int) (st : St) (hst : ∀ c ch, blankB c = true → stepT st c ch = (st, false)) : ∀ (f i : Nat), s.size - i = f → i ≤ s.size → fromT s kd i st = fromT s kd (passTo blankB s i) st
  | 0, i, hf, hi => by rw [passTo_end (by omega)]
  | f + 1, i, hf, hi => by
    cases hp : blankB (byt s i)
    · rw [passTo_stop (by omega) hp]
    · rw [fromT_go s kd i st _ (by omega) (hst _ _ hp), passTo_step (by omega) hp]
      exact blanks_run s kd st hst f (i + 1) (by omega) (by omega)

/-- Behind a = that stands at j. -/
theorem in4 (s : ByteArray) (kd : Int) (j : Nat) (hj : j < s.size) (st : St) (h4 : st.state = 4) (hv : st.value = ⟨#[]⟩) (hB : ∀ e, j < e → e ≤ s.size → Bet s kd e) :
    fromT s kd (j + 1) st = fin kd st.tname (restAt s (valueV s j).2 (st.attrs ++ [(st.name, (valueV s j).1)])) := by
  rw [blanks_run s kd st (fun c ch h => by unfold stepT; rw [h4]; simp only; rw [if_pos h]) _ (j + 1) rfl (by omega)]
  have h1 := passTo_ge blankB s (j + 1)
  have h2 := passTo_le blankB s (i := j + 1) (by omega)
  have hno := passTo_no blankB s _ (j + 1) rfl
  unfold valueV
  simp only
  generalize passTo blankB s (j + 1) = k at *
  by_cases hks : k < s.size
  · have hnb := hno hks
    by_cases hq : byt s k = 34 ∨ byt s k = 39
    · rw [if_pos ⟨hks, hq⟩]
      rw [fromT_go s kd k _ { st with state := 6, quote := byt s k } hks (by unfold stepT; simp only [h4]; rw [if_neg (by rw [hnb]; decide), if_pos hq])]
      exact in6 s kd k hks _ rfl hv (fun e h h' => hB e (by omega) h')
    · rw [if_neg (fun h => hq h.2)]
      by_cases h62 : byt s k = 62
      · have hvk : passTo valC s k = k := passTo_stop hks (by rw [h62]; rfl)
        rw [fromT_stop s kd k _ { st with attrs := st.attrs ++ [(st.name, ⟨#[]⟩)], state := 1, slash := false } hks (by unfold stepT; simp only [h4]; rw [if_neg (by rw [hnb]; decide), if_neg hq, if_pos h62])]
        rw [hvk, ext_self]
        exact close_at s kd k hks h62 _ _
      · rw [fromT_go s kd k _ { st with state := 5, value := at1 s k } hks (by unfold stepT; simp only [h4]; rw [if_neg (by rw [hnb]; decide), if_neg hq, if_neg h62])]
        exact in5 s kd k hks (by unfold valC; rw [hnb]; simpa using h62) _ rfl rfl (fun e h h' => hB e (by omega) h')
  · obtain rfl : k = s.size := by omega
    rw [if_neg (fun h => hks h.1), passTo_end (Nat.le_refl _), ext_self, fromT_end s kd _ _ (Nat.le_refl _)]
    simp only [h4]
    rw [if_pos (by decide), hv]
    exact end_at s kd _ _

/-- In an attribute's name that begins at k. -/
theorem in2 (s : ByteArray) (kd : Int) : ∀ (f k : Nat), s.size - k = f → k < s.size → ∀ (st : St), st.state = 2 → st.name = lowerB (at1 s k) → st.value = ⟨#[]⟩ → (∀ e, k < e → e ≤ s.size → Bet s kd e) →
    fromT s kd (k + 1) st = fin kd st.tname (restAt s (attrV s k).2 (st.attrs ++ [(attrV s k).1])) := by
  intro f
  induction f using Nat.strongRecOn with
  | ind f ih =>
    intro k hf hk st h2s hname hv hB
    have hr := runs s kd attrC (fun x y => { x with name := x.name ++ lowerB y }) (fun x => by simp [low_empty, append_empty]) (fun x y z => by simp [append_assoc3, low_append]) (fun x => x.state = 2) (fun x y h => h)
      (fun x c ch h hp => by
        unfold attrC at hp
        simp only [Bool.and_eq_true, Bool.not_eq_true', bne_iff_ne] at hp
        unfold stepT
        rw [h]
        simp only
        rw [if_neg hp.2, if_neg (by rw [hp.1.1.1]; decide), if_neg (by simp [hp.1.1.2, hp.1.2])]) _ (k + 1) st rfl (by omega) h2s
    have h1 := passTo_ge attrC s (k + 1)
    have h2 := passTo_le attrC s (i := k + 1) (by omega)
    have hno := passTo_no attrC s _ (k + 1) rfl
    rw [hr]
    unfold attrV nameEnd
    simp only
    generalize passTo attrC s (k + 1) = j at *
    have hes : st.name ++ lowerB (s.extract (k + 1) j) = lowerB (s.extract k j) := by
      rw [hname, ← low_append]
      congr 1
      exact ext_append s k (k + 1) j (by omega) h1 h2
    rw [hes]
    -- behind the name, blanks passed, at k2
    have h3 : ∀ (k2 : Nat) (st3 : St), j ≤ k2 → k2 ≤ s.size → (k2 < s.size → blankB (byt s k2) = false) → st3.state = 3 → st3.name = lowerB (s.extract k j) → st3.value = ⟨#[]⟩ → st3.tname = st.tname → st3.attrs = st.attrs → (k2 < s.size → k < k2) →
        fromT s kd k2 st3 = fin kd st.tname (restAt s (valueAt s k2).2 (st.attrs ++ [(lowerB (s.extract k j), (valueAt s k2).1)])) := by
      intro k2 st3 hj2 hk2 hnb e1 e2 e3 e4 e5 hkk
      unfold valueAt
      by_cases hks : k2 < s.size
      · have hb := hnb hks
        by_cases h61 : byt s k2 = 61
        · rw [if_pos ⟨hks, h61⟩]
          rw [fromT_go s kd k2 _ { st3 with state := 4 } hks (by unfold stepT; simp only [e1]; rw [if_neg (by rw [hb]; decide), if_pos h61])]
          have := in4 s kd k2 hks { st3 with state := 4 } rfl e3 (fun e h h' => hB e (by have := hkk hks; omega) h')
          rw [this]
          simp only
          rw [e2, e4, e5]
        · rw [if_neg (fun h => h61 h.2)]
          simp only
          by_cases h47 : byt s k2 = 47 ∨ byt s k2 = 62
          · have hst : stepT st3 (byt s k2) (at1 s k2) = ({ st3 with attrs := st3.attrs ++ [(st3.name, ⟨#[]⟩)], state := 1, slash := byt s k2 == 47 }, byt s k2 == 62) := by
              unfold stepT; simp only [e1]; rw [if_neg (by rw [hb]; decide), if_neg h61, if_pos h47]
            by_cases h62 : byt s k2 = 62
            · rw [h62] at hst
              rw [fromT_stop s kd k2 _ _ hks (by rw [h62]; exact hst)]
              simp only
              rw [e2, e4, e5]
              exact close_at s kd k2 hks h62 _ _
            · have hf2 : (byt s k2 == 62) = false := by simpa using h62
              rw [hf2] at hst
              rw [fromT_go s kd k2 _ _ hks hst]
              rw [bet_at s kd k2 (hB k2 (hkk hks) hk2) hks _ rfl (.inr (h47.resolve_right h62)) _ rfl rfl]
              simp only
              rw [e2, e4, e5]
          · have n47 : byt s k2 ≠ 47 := fun h => h47 (.inl h)
            have n62 : byt s k2 ≠ 62 := fun h => h47 (.inr h)
            rw [fromT_go s kd k2 _ { st3 with attrs := st3.attrs ++ [(st3.name, ⟨#[]⟩)], state := 2, slash := false, name := lowerB (at1 s k2), value := ⟨#[]⟩ } hks (by unfold stepT; simp only [e1]; rw [if_neg (by rw [hb]; decide), if_neg h61, if_neg h47])]
            have hsk : passTo skipC s k2 = k2 := passTo_stop hks (by unfold skipC; rw [hb]; simpa using n47)
            rw [ih (s.size - k2) (by have := hkk hks; omega) k2 rfl hks _ rfl rfl rfl (fun e h h' => hB e (by have := hkk hks; omega) h')]
            simp only
            rw [restAt_more s k2 _ (by omega) (by rw [hsk]; exact hks) (by rw [hsk]; exact n62), hsk, e2, e4, e5]
      · obtain rfl : k2 = s.size := by omega
        rw [if_neg (fun h => hks h.1), fromT_end s kd _ _ (Nat.le_refl _)]
        simp only [e1]
        rw [if_pos (by decide), e2, e3, e4, e5]
        exact end_at s kd _ _
    by_cases hjs : j < s.size
    · have hc := hno hjs
      by_cases h61 : byt s j = 61
      · have hbl : blankB (byt s j) = false := by rw [h61]; rfl
        rw [passTo_stop hjs hbl]
        unfold valueAt
        rw [if_pos ⟨hjs, h61⟩]
        rw [fromT_go s kd j _ { st with name := lowerB (s.extract k j), state := 4 } hjs (by unfold stepT; simp only [h2s]; rw [if_pos h61])]
        exact in4 s kd j hjs _ rfl hv (fun e h h' => hB e (by omega) h')
      · cases hbl : blankB (byt s j)
        · have h47 : byt s j = 47 ∨ byt s j = 62 := by
            unfold attrC at hc
            rw [hbl] at hc
            by_cases a : byt s j = 47
            · exact .inl a
            · by_cases b : byt s j = 62
              · exact .inr b
              · exfalso
                simp [a, b, h61] at hc
          rw [passTo_stop hjs hbl]
          unfold valueAt
          rw [if_neg (fun h => h61 h.2)]
          simp only
          have hst : stepT { st with name := lowerB (s.extract k j) } (byt s j) (at1 s j) = ({ st with name := lowerB (s.extract k j), attrs := st.attrs ++ [(lowerB (s.extract k j), ⟨#[]⟩)], state := 1, slash := byt s j == 47 }, byt s j == 62) := by
            unfold stepT; simp only [h2s]; rw [if_neg h61, if_neg (by rw [hbl]; decide), if_pos h47]
          by_cases h62 : byt s j = 62
          · rw [h62] at hst
            rw [fromT_stop s kd j _ _ hjs (by rw [h62]; exact hst)]
            exact close_at s kd j hjs h62 _ _
          · have hf2 : (byt s j == 62) = false := by simpa using h62
            rw [hf2] at hst
            rw [fromT_go s kd j _ _ hjs hst]
            exact bet_at s kd j (hB j (by omega) h2) hjs _ rfl (.inr (h47.resolve_right h62)) _ rfl rfl
        · rw [passTo_step hjs hbl]
          rw [fromT_go s kd j _ { st with name := lowerB (s.extract k j), state := 3 } hjs (by unfold stepT; simp only [h2s]; rw [if_neg h61, if_pos hbl])]
          rw [blanks_run s kd _ (fun c ch h => by unfold stepT; simp only; rw [if_pos h]) _ (j + 1) rfl (by omega)]
          have g1 := passTo_ge blankB s (j + 1)
          have g2 := passTo_le blankB s (i := j + 1) (by omega)
          exact h3 _ _ (by omega) g2 (fun h => passTo_no blankB s _ (j + 1) rfl h) rfl rfl hv rfl rfl (fun _ => by omega)
    · obtain rfl : j = s.size := by omega
      have hend := passTo_end (p := blankB) (s := s) (i := s.size) (Nat.le_refl _)
      rw [hend]
      unfold valueAt
      rw [if_neg (fun h => absurd h.1 (Nat.lt_irrefl _)), fromT_end s kd _ _ (Nat.le_refl _)]
      simp only [h2s]
      rw [if_pos (by decide), hv]
      exact end_at s kd _ _

/-- Between attributes. -/
theorem between (s : ByteArray) (kd : Int) : ∀ (f i0 : Nat), s.size - i0 = f → i0 ≤ s.size → Bet s kd i0 := by
  intro f
  induction f using Nat.strongRecOn with
  | ind f ih =>
    intro i0 hf hi0
    -- by how many bytes are left of those that are passed
    have main : ∀ (d i : Nat) (st : St), s.size - i = d → i0 ≤ i → i ≤ s.size → st.state = 1 → st.slash = endSl (s.extract i0 i) → passTo skipC s i0 = passTo skipC s i → fromT s kd i st = fin kd st.tname (restAt s i0 st.attrs) := by
      intro d
      induction d with
      | zero =>
        intro i st hd h1 h2 hst hsl hps
        obtain rfl : i = s.size := by omega
        have hk := passTo_end (p := skipC) (s := s) (i := s.size) (Nat.le_refl _)
        rw [hk] at hps
        rw [fromT_end s kd _ _ (Nat.le_refl _), restAt_end s i0 _ hi0 (by rw [hps]; exact Nat.le_refl _), hps]
        simp only [hst]
        rw [if_neg (by decide)]
        rfl
      | succ d ihd =>
        intro i st hd h1 h2 hst hsl hps
        have hlt : i < s.size := by omega
        cases hp : skipC (byt s i)
        · have hpi : passTo skipC s i = i := passTo_stop hlt hp
          rw [hpi] at hps
          by_cases h62 : byt s i = 62
          · rw [fromT_stop s kd i st st hlt (by unfold stepT; rw [hst]; simp only; rw [if_pos h62]), restAt_close s i0 _ hi0 (by rw [hps]; exact hlt) (by rw [hps]; exact h62), hps, ← hsl]
            rfl
          · have hns : ¬ (blankB (byt s i) = true ∨ byt s i = 47) := by
              intro h
              unfold skipC at hp
              rcases h with h | h
              · rw [h] at hp; cases hp
              · rw [h] at hp; simp at hp
            rw [fromT_go s kd i st { st with state := 2, name := lowerB (at1 s i), value := ⟨#[]⟩ } hlt (by unfold stepT; rw [hst]; simp only; rw [if_neg h62, if_neg hns])]
            rw [in2 s kd _ i rfl hlt _ rfl rfl rfl (fun e h h' => ih (s.size - e) (by omega) e rfl h')]
            simp only
            rw [restAt_more s i0 _ hi0 (by rw [hps]; exact hlt) (by rw [hps]; exact h62), hps]
        · have hsk : blankB (byt s i) = true ∨ byt s i = 47 := by
            unfold skipC at hp
            simpa using hp
          have h62 : ¬ byt s i = 62 := by
            rcases hsk with h | h
            · exact (blank_not h).2.1
            · rw [h]; decide
          rw [fromT_go s kd i st { st with slash := byt s i == 47 } hlt (by unfold stepT; rw [hst]; simp only; rw [if_neg h62, if_pos hsk])]
          exact ihd (i + 1) _ (by omega) (by omega) (by omega) hst (by rw [endSl_snoc s i0 i h1 hlt]) (by rw [hps, passTo_step hlt hp])
    exact fun i st => main _ i st rfl

/-- The document's mark is the reader's. -/
theorem refNamed_eq (s : ByteArray) (i : Nat) (kd : Int) (hi : i ≤ s.size) : refNamed s i kd = namedV s i kd := by
  have hr := runs s kd nameC (fun x y => { x with tname := x.tname ++ lowerB y }) (fun x => by simp [low_empty, append_empty]) (fun x y z => by simp [append_assoc3, low_append]) (fun x => x.state = 0) (fun x y h => h)
    (fun x c ch h hp => by
      unfold nameC at hp
      simp only [Bool.and_eq_true, Bool.not_eq_true', bne_iff_ne] at hp
      unfold stepT
      rw [h]
      simp only
      rw [if_neg (by simp [hp.1.1, hp.1.2, hp.2])]) _ i st0 rfl hi rfl
  have h1 := passTo_ge nameC s i
  have h2 := passTo_le nameC s hi
  have hno := passTo_no nameC s _ i rfl
  unfold refNamed
  rw [hr]
  unfold namedV
  simp only
  generalize passTo nameC s i = j at *
  have hes : st0.tname ++ lowerB (s.extract i j) = lowerB (s.extract i j) := empty_append _
  rw [hes]
  by_cases hjs : j < s.size
  · have hc := hno hjs
    have hcc : blankB (byt s j) = true ∨ byt s j = 47 ∨ byt s j = 62 := by
      unfold nameC at hc
      cases hbl : blankB (byt s j)
      · rw [hbl] at hc
        by_cases a : byt s j = 47
        · exact .inr (.inl a)
        · by_cases b : byt s j = 62
          · exact .inr (.inr b)
          · simp [a, b] at hc
      · exact .inl rfl
    have hst : stepT { st0 with tname := lowerB (s.extract i j) } (byt s j) (at1 s j) = ({ st0 with tname := lowerB (s.extract i j), state := 1, slash := byt s j == 47 }, byt s j == 62) := by
      unfold stepT st0
      simp only
      rw [if_pos hcc]
    by_cases h62 : byt s j = 62
    · rw [h62] at hst
      rw [fromT_stop s kd j _ _ hjs (by rw [h62]; exact hst)]
      exact close_at s kd j hjs h62 [] _
    · have hf2 : (byt s j == 62) = false := by simpa using h62
      rw [hf2] at hst
      rw [fromT_go s kd j _ _ hjs hst]
      have hbk : blankB (byt s j) = true ∨ byt s j = 47 := hcc.elim .inl (fun h => h.elim .inr (fun h => absurd h h62))
      exact bet_at s kd j (between s kd _ j rfl h2) hjs _ rfl hbk _ rfl rfl
  · obtain rfl : j = s.size := by omega
    rw [fromT_end s kd _ _ (Nat.le_refl _)]
    exact end_at s kd [] _
end Go.Proofs.Ytpkbmgpbagdalaa
