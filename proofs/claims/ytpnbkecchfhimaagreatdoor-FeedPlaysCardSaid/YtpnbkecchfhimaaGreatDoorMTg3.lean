/- Texts of an earlier chapter (Tg), merged by a program of mine. -/
import Derived.Test.YtpnbkecchfhimaaGreatDoorBase
import Derived.Test.YtpnbkecchfhimaaGreatDoorMem
import Derived.Test.YtpnbkecchfhimaaGreatDoorWords
import Derived.Test.YtpnbkecchfhimaaGreatDoorOpen
import Derived.Test.YtpnbkecchfhimaaGreatDoorByt
import Derived.Test.YtpnbkecchfhimaaGreatDoorInv
import Derived.Test.YtpnbkecchfhimaaGreatDoorTkShelf
import Derived.Test.YtpnbkecchfhimaaGreatDoorMTg2
import Derived.BigQuiet
import Derived.BigRegion
import Derived.Deep.DeepCutAuto
import Derived.Deep.LoopGhost
import Derived.Deep.QuietTactic
import Derived.Deep.RegionWith
import Derived.Laws.CopyOwn
import Derived.Laws.Tables
import Derived.Lib.ConvBytes
import Derived.Lib.IndexMore
import Derived.Lib.SlBytesConst
import Derived.Lib.SlBytesRow
import Derived.Maps.AppendAt
import Derived.WalkKit
/- out of TagSt2 -/
namespace Go.Proofs.YtpnbkecchfhimaaGreatDoor
set_option maxRecDepth 100000
set_option linter.unusedVariables false

/-- In a value without quotes that begins at k. -/
theorem in5 (s : ByteArray) (kd : Int) (k : Nat) (hk : k < s.size) (hp : valC (byt s k) = true) (st : St) (h5 : st.state = 5) (hv : st.value = at1 s k) (hB : ∀ e, k < e → e ≤ s.size → Bet s kd e) :
    fromT s kd (k + 1) st = fin kd st.tname (restAt s (passTo valC s k) (st.attrs ++ [(st.name, s.extract k (passTo valC s k))])) := by
  have hr := runs s kd valC (fun x y => { x with value := x.value ++ y }) (fun x => by simp [append_empty]) (fun x y z => by simp [append_assoc3]) (fun x => x.state = 5) (fun x y h => h)
    (fun x c ch h hp => by
      unfold valC at hp
      simp only [Bool.and_eq_true, Bool.not_eq_true', bne_iff_ne] at hp
      unfold stepT
      rw [h]
      simp only
      rw [if_neg (by simp [hp.1, hp.2])]) _ (k + 1) st rfl (by omega) h5
  have h1 := passTo_ge valC s (k + 1)
  have h2 := passTo_le valC s (i := k + 1) (by omega)
  have hno := passTo_no valC s _ (k + 1) rfl
  rw [hr, hv, passTo_step hk hp]
  generalize passTo valC s (k + 1) = j at *
  have hes : at1 s k ++ s.extract (k + 1) j = s.extract k j := ext_append s k (k + 1) j (by omega) h1 h2
  rw [hes]
  by_cases hjs : j < s.size
  · have hc := hno hjs
    unfold valC at hc
    have hcc : blankB (byt s j) = true ∨ byt s j = 62 := by
      cases hbl : blankB (byt s j)
      · right; rw [hbl] at hc; simpa using hc
      · exact .inl rfl
    have hst : stepT { st with value := s.extract k j } (byt s j) (at1 s j) = ({ st with value := s.extract k j, attrs := st.attrs ++ [(st.name, s.extract k j)], state := 1, slash := false }, byt s j == 62) := by
      unfold stepT
      simp only [h5]
      rw [if_pos hcc]
    by_cases h62 : byt s j = 62
    · rw [h62] at hst
      rw [fromT_stop s kd j _ _ hjs (by rw [h62]; exact hst)]
      exact close_at s kd j hjs h62 _ _
    · have hbl : blankB (byt s j) = true := hcc.resolve_right h62
      have hf : (byt s j == 62) = false := by simpa using h62
      rw [hf] at hst
      rw [fromT_go s kd j _ _ hjs hst]
      refine bet_at s kd j (hB j (by omega) h2) hjs _ rfl (.inl hbl) _ rfl ?_
      have := (blank_not hbl).1
      show false = _
      simp [this]
  · obtain rfl : j = s.size := by omega
    rw [fromT_end s kd _ _ (Nat.le_refl _)]
    simp only [h5]
    rw [if_pos (by decide)]
    exact end_at s kd _ _

theorem blanks_run (s : ByteArray) (kd : Int) (st : St) (hst : ∀ c ch, blankB c = true → stepT st c ch = (st, false)) : ∀ (f i : Nat), s.size - i = f → i ≤ s.size → fromT s kd i st = fromT s kd (passTo blankB s i) st
  | 0, i, hf, hi => by rw [passTo_end (by omega)]
  | f + 1, i, hf, hi => by
    cases hp : blankB (byt s i)
    · rw [passTo_stop (by omega) hp]
    · rw [fromT_go s kd i st _ (by omega) (hst _ _ hp), passTo_step (by omega) hp]
      exact blanks_run s kd st hst f (i + 1) (by omega) (by omega)

/-- Behind a = that stands at j. -/
theorem in4 (s : ByteArray) (kd : Int) (j : Nat) (hj : j < s.size) (st : St) (h4 : st.state = 4) (hv : st.value = ⟨#[]⟩) (hB : ∀ e, j < e → e ≤ s.size → Bet s kd e) :
    fromT s kd (j + 1) st = fin kd st.tname (restAt s (valueV s j).2 (st.attrs ++ [(st.name, (valueV s j).1)])) := by
  rw [blanks_run s kd st (fun c ch h => by unfold stepT; rw [h4]; simp only; rw [if_pos h]) _ (j + 1) rfl (by omega)]
  have h1 := passTo_ge blankB s (j + 1)
  have h2 := passTo_le blankB s (i := j + 1) (by omega)
  have hno := passTo_no blankB s _ (j + 1) rfl
  unfold valueV
  simp only
  generalize passTo blankB s (j + 1) = k at *
  by_cases hks : k < s.size
  · have hnb := hno hks
    by_cases hq : byt s k = 34 ∨ byt s k = 39
    · rw [if_pos ⟨hks, hq⟩]
      rw [fromT_go s kd k _ { st with state := 6, quote := byt s k } hks (by unfold stepT; simp only [h4]; rw [if_neg (by rw [hnb]; decide), if_pos hq])]
      exact in6 s kd k hks _ rfl hv (fun e h h' => hB e (by omega) h')
    · rw [if_neg (fun h => hq h.2)]
      by_cases h62 : byt s k = 62
      · have hvk : passTo valC s k = k := passTo_stop hks (by rw [h62]; rfl)
        rw [fromT_stop s kd k _ { st with attrs := st.attrs ++ [(st.name, ⟨#[]⟩)], state := 1, slash := false } hks (by unfold stepT; simp only [h4]; rw [if_neg (by rw [hnb]; decide), if_neg hq, if_pos h62])]
        rw [hvk, ext_self]
        exact close_at s kd k hks h62 _ _
      · rw [fromT_go s kd k _ { st with state := 5, value := at1 s k } hks (by unfold stepT; simp only [h4]; rw [if_neg (by rw [hnb]; decide), if_neg hq, if_neg h62])]
        exact in5 s kd k hks (by unfold valC; rw [hnb]; simpa using h62) _ rfl rfl (fun e h h' => hB e (by omega) h')
  · obtain rfl : k = s.size := by omega
    rw [if_neg (fun h => hks h.1), passTo_end (Nat.le_refl _), ext_self, fromT_end s kd _ _ (Nat.le_refl _)]
    simp only [h4]
    rw [if_pos (by decide), hv]
    exact end_at s kd _ _

/-- In an attribute's name that begins at k. -/
theorem in2 (s : ByteArray) (kd : Int) : ∀ (f k : Nat), s.size - k = f → k < s.size → ∀ (st : St), st.state = 2 → st.name = lowerB (at1 s k) → st.value = ⟨#[]⟩ → (∀ e, k < e → e ≤ s.size → Bet s kd e) →
    fromT s kd (k + 1) st = fin kd st.tname (restAt s (attrV s k).2 (st.attrs ++ [(attrV s k).1])) := by
  intro f
  induction f using Nat.strongRecOn with
  | ind f ih =>
    intro k hf hk st h2s hname hv hB
    have hr := runs s kd attrC (fun x y => { x with name := x.name ++ lowerB y }) (fun x => by simp [low_empty, append_empty]) (fun x y z => by simp [append_assoc3, low_append]) (fun x => x.state = 2) (fun x y h => h)
      (fun x c ch h hp => by
        unfold attrC at hp
        simp only [Bool.and_eq_true, Bool.not_eq_true', bne_iff_ne] at hp
        unfold stepT
        rw [h]
        simp only
        rw [if_neg hp.2, if_neg (by rw [hp.1.1.1]; decide), if_neg (by simp [hp.1.1.2, hp.1.2])]) _ (k + 1) st rfl (by omega) h2s
    have h1 := passTo_ge attrC s (k + 1)
    have h2 := passTo_le attrC s (i := k + 1) (by omega)
    have hno := passTo_no attrC s _ (k + 1) rfl
    rw [hr]
    unfold attrV nameEnd
    simp only
    generalize passTo attrC s (k + 1) = j at *
    have hes : st.name ++ lowerB (s.extract (k + 1) j) = lowerB (s.extract k j) := by
      rw [hname, ← low_append]
      congr 1
      exact ext_append s k (k + 1) j (by omega) h1 h2
    rw [hes]
    -- behind the name, blanks passed, at k2
    have h3 : ∀ (k2 : Nat) (st3 : St), j ≤ k2 → k2 ≤ s.size → (k2 < s.size → blankB (byt s k2) = false) → st3.state = 3 → st3.name = lowerB (s.extract k j) → st3.value = ⟨#[]⟩ → st3.tname = st.tname → st3.attrs = st.attrs → (k2 < s.size → k < k2) →
        fromT s kd k2 st3 = fin kd st.tname (restAt s (valueAt s k2).2 (st.attrs ++ [(lowerB (s.extract k j), (valueAt s k2).1)])) := by
      intro k2 st3 hj2 hk2 hnb e1 e2 e3 e4 e5 hkk
      unfold valueAt
      by_cases hks : k2 < s.size
      · have hb := hnb hks
        by_cases h61 : byt s k2 = 61
        · rw [if_pos ⟨hks, h61⟩]
          rw [fromT_go s kd k2 _ { st3 with state := 4 } hks (by unfold stepT; simp only [e1]; rw [if_neg (by rw [hb]; decide), if_pos h61])]
          have := in4 s kd k2 hks { st3 with state := 4 } rfl e3 (fun e h h' => hB e (by have := hkk hks; omega) h')
          rw [this]
          simp only
          rw [e2, e4, e5]
        · rw [if_neg (fun h => h61 h.2)]
          simp only
          by_cases h47 : byt s k2 = 47 ∨ byt s k2 = 62
          · have hst : stepT st3 (byt s k2) (at1 s k2) = ({ st3 with attrs := st3.attrs ++ [(st3.name, ⟨#[]⟩)], state := 1, slash := byt s k2 == 47 }, byt s k2 == 62) := by
              unfold stepT; simp only [e1]; rw [if_neg (by rw [hb]; decide), if_neg h61, if_pos h47]
            by_cases h62 : byt s k2 = 62
            · rw [h62] at hst
              rw [fromT_stop s kd k2 _ _ hks (by rw [h62]; exact hst)]
              simp only
              rw [e2, e4, e5]
              exact close_at s kd k2 hks h62 _ _
            · have hf2 : (byt s k2 == 62) = false := by simpa using h62
              rw [hf2] at hst
              rw [fromT_go s kd k2 _ _ hks hst]
              rw [bet_at s kd k2 (hB k2 (hkk hks) hk2) hks _ rfl (.inr (h47.resolve_right h62)) _ rfl rfl]
              simp only
              rw [e2, e4, e5]
          · have n47 : byt s k2 ≠ 47 := fun h => h47 (.inl h)
            have n62 : byt s k2 ≠ 62 := fun h => h47 (.inr h)
            rw [fromT_go s kd k2 _ { st3 with attrs := st3.attrs ++ [(st3.name, ⟨#[]⟩)], state := 2, slash := false, name := lowerB (at1 s k2), value := ⟨#[]⟩ } hks (by unfold stepT; simp only [e1]; rw [if_neg (by rw [hb]; decide), if_neg h61, if_neg h47])]
            have hsk : passTo skipC s k2 = k2 := passTo_stop hks (by unfold skipC; rw [hb]; simpa using n47)
            rw [ih (s.size - k2) (by have := hkk hks; omega) k2 rfl hks _ rfl rfl rfl (fun e h h' => hB e (by have := hkk hks; omega) h')]
            simp only
            rw [restAt_more s k2 _ (by omega) (by rw [hsk]; exact hks) (by rw [hsk]; exact n62), hsk, e2, e4, e5]
      · obtain rfl : k2 = s.size := by omega
        rw [if_neg (fun h => hks h.1), fromT_end s kd _ _ (Nat.le_refl _)]
        simp only [e1]
        rw [if_pos (by decide), e2, e3, e4, e5]
        exact end_at s kd _ _
    by_cases hjs : j < s.size
    · have hc := hno hjs
      by_cases h61 : byt s j = 61
      · have hbl : blankB (byt s j) = false := by rw [h61]; rfl
        rw [passTo_stop hjs hbl]
        unfold valueAt
        rw [if_pos ⟨hjs, h61⟩]
        rw [fromT_go s kd j _ { st with name := lowerB (s.extract k j), state := 4 } hjs (by unfold stepT; simp only [h2s]; rw [if_pos h61])]
        exact in4 s kd j hjs _ rfl hv (fun e h h' => hB e (by omega) h')
      · cases hbl : blankB (byt s j)
        · have h47 : byt s j = 47 ∨ byt s j = 62 := by
            unfold attrC at hc
            rw [hbl] at hc
            by_cases a : byt s j = 47
            · exact .inl a
            · by_cases b : byt s j = 62
              · exact .inr b
              · exfalso
                simp [a, b, h61] at hc
          rw [passTo_stop hjs hbl]
          unfold valueAt
          rw [if_neg (fun h => h61 h.2)]
          simp only
          have hst : stepT { st with name := lowerB (s.extract k j) } (byt s j) (at1 s j) = ({ st with name := lowerB (s.extract k j), attrs := st.attrs ++ [(lowerB (s.extract k j), ⟨#[]⟩)], state := 1, slash := byt s j == 47 }, byt s j == 62) := by
            unfold stepT; simp only [h2s]; rw [if_neg h61, if_neg (by rw [hbl]; decide), if_pos h47]
          by_cases h62 : byt s j = 62
          · rw [h62] at hst
            rw [fromT_stop s kd j _ _ hjs (by rw [h62]; exact hst)]
            exact close_at s kd j hjs h62 _ _
          · have hf2 : (byt s j == 62) = false := by simpa using h62
            rw [hf2] at hst
            rw [fromT_go s kd j _ _ hjs hst]
            exact bet_at s kd j (hB j (by omega) h2) hjs _ rfl (.inr (h47.resolve_right h62)) _ rfl rfl
        · rw [passTo_step hjs hbl]
          rw [fromT_go s kd j _ { st with name := lowerB (s.extract k j), state := 3 } hjs (by unfold stepT; simp only [h2s]; rw [if_neg h61, if_pos hbl])]
          rw [blanks_run s kd _ (fun c ch h => by unfold stepT; simp only; rw [if_pos h]) _ (j + 1) rfl (by omega)]
          have g1 := passTo_ge blankB s (j + 1)
          have g2 := passTo_le blankB s (i := j + 1) (by omega)
          exact h3 _ _ (by omega) g2 (fun h => passTo_no blankB s _ (j + 1) rfl h) rfl rfl hv rfl rfl (fun _ => by omega)
    · obtain rfl : j = s.size := by omega
      have hend := passTo_end (p := blankB) (s := s) (i := s.size) (Nat.le_refl _)
      rw [hend]
      unfold valueAt
      rw [if_neg (fun h => absurd h.1 (Nat.lt_irrefl _)), fromT_end s kd _ _ (Nat.le_refl _)]
      simp only [h2s]
      rw [if_pos (by decide), hv]
      exact end_at s kd _ _

/-- Between attributes. -/
theorem between (s : ByteArray) (kd : Int) : ∀ (f i0 : Nat), s.size - i0 = f → i0 ≤ s.size → Bet s kd i0 := by
  intro f
  induction f using Nat.strongRecOn with
  | ind f ih =>
    intro i0 hf hi0
    -- by how many bytes are left of those that are passed
    have main : ∀ (d i : Nat) (st : St), s.size - i = d → i0 ≤ i → i ≤ s.size → st.state = 1 → st.slash = endSl (s.extract i0 i) → passTo skipC s i0 = passTo skipC s i → fromT s kd i st = fin kd st.tname (restAt s i0 st.attrs) := by
      intro d
      induction d with
      | zero =>
        intro i st hd h1 h2 hst hsl hps
        obtain rfl : i = s.size := by omega
        have hk := passTo_end (p := skipC) (s := s) (i := s.size) (Nat.le_refl _)
        rw [hk] at hps
        rw [fromT_end s kd _ _ (Nat.le_refl _), restAt_end s i0 _ hi0 (by rw [hps]; exact Nat.le_refl _), hps]
        simp only [hst]
        rw [if_neg (by decide)]
        rfl
      | succ d ihd =>
        intro i st hd h1 h2 hst hsl hps
        have hlt : i < s.size := by omega
        cases hp : skipC (byt s i)
        · have hpi : passTo skipC s i = i := passTo_stop hlt hp
          rw [hpi] at hps
          by_cases h62 : byt s i = 62
          · rw [fromT_stop s kd i st st hlt (by unfold stepT; rw [hst]; simp only; rw [if_pos h62]), restAt_close s i0 _ hi0 (by rw [hps]; exact hlt) (by rw [hps]; exact h62), hps, ← hsl]
            rfl
          · have hns : ¬ (blankB (byt s i) = true ∨ byt s i = 47) := by
              intro h
              unfold skipC at hp
              rcases h with h | h
              · rw [h] at hp; cases hp
              · rw [h] at hp; simp at hp
            rw [fromT_go s kd i st { st with state := 2, name := lowerB (at1 s i), value := ⟨#[]⟩ } hlt (by unfold stepT; rw [hst]; simp only; rw [if_neg h62, if_neg hns])]
            rw [in2 s kd _ i rfl hlt _ rfl rfl rfl (fun e h h' => ih (s.size - e) (by omega) e rfl h')]
            simp only
            rw [restAt_more s i0 _ hi0 (by rw [hps]; exact hlt) (by rw [hps]; exact h62), hps]
        · have hsk : blankB (byt s i) = true ∨ byt s i = 47 := by
            unfold skipC at hp
            simpa using hp
          have h62 : ¬ byt s i = 62 := by
            rcases hsk with h | h
            · exact (blank_not h).2.1
            · rw [h]; decide
          rw [fromT_go s kd i st { st with slash := byt s i == 47 } hlt (by unfold stepT; rw [hst]; simp only; rw [if_neg h62, if_pos hsk])]
          exact ihd (i + 1) _ (by omega) (by omega) (by omega) hst (by rw [endSl_snoc s i0 i h1 hlt]) (by rw [hps, passTo_step hlt hp])
    exact fun i st => main _ i st rfl

/-- The document's mark is the reader's. -/
theorem refNamed_eq (s : ByteArray) (i : Nat) (kd : Int) (hi : i ≤ s.size) : refNamed s i kd = namedV s i kd := by
  have hr := runs s kd nameC (fun x y => { x with tname := x.tname ++ lowerB y }) (fun x => by simp [low_empty, append_empty]) (fun x y z => by simp [append_assoc3, low_append]) (fun x => x.state = 0) (fun x y h => h)
    (fun x c ch h hp => by
      unfold nameC at hp
      simp only [Bool.and_eq_true, Bool.not_eq_true', bne_iff_ne] at hp
      unfold stepT
      rw [h]
      simp only
      rw [if_neg (by simp [hp.1.1, hp.1.2, hp.2])]) _ i st0 rfl hi rfl
  have h1 := passTo_ge nameC s i
  have h2 := passTo_le nameC s hi
  have hno := passTo_no nameC s _ i rfl
  unfold refNamed
  rw [hr]
  unfold namedV
  simp only
  generalize passTo nameC s i = j at *
  have hes : st0.tname ++ lowerB (s.extract i j) = lowerB (s.extract i j) := empty_append _
  rw [hes]
  by_cases hjs : j < s.size
  · have hc := hno hjs
    have hcc : blankB (byt s j) = true ∨ byt s j = 47 ∨ byt s j = 62 := by
      unfold nameC at hc
      cases hbl : blankB (byt s j)
      · rw [hbl] at hc
        by_cases a : byt s j = 47
        · exact .inr (.inl a)
        · by_cases b : byt s j = 62
          · exact .inr (.inr b)
          · simp [a, b] at hc
      · exact .inl rfl
    have hst : stepT { st0 with tname := lowerB (s.extract i j) } (byt s j) (at1 s j) = ({ st0 with tname := lowerB (s.extract i j), state := 1, slash := byt s j == 47 }, byt s j == 62) := by
      unfold stepT st0
      simp only
      rw [if_pos hcc]
    by_cases h62 : byt s j = 62
    · rw [h62] at hst
      rw [fromT_stop s kd j _ _ hjs (by rw [h62]; exact hst)]
      exact close_at s kd j hjs h62 [] _
    · have hf2 : (byt s j == 62) = false := by simpa using h62
      rw [hf2] at hst
      rw [fromT_go s kd j _ _ hjs hst]
      have hbk : blankB (byt s j) = true ∨ byt s j = 47 := hcc.elim .inl (fun h => h.elim .inr (fun h => absurd h h62))
      exact bet_at s kd j (between s kd _ j rfl h2) hjs _ rfl hbk _ rfl rfl
  · obtain rfl : j = s.size := by omega
    rw [fromT_end s kd _ _ (Nat.le_refl _)]
    exact end_at s kd [] _

end Go.Proofs.YtpnbkecchfhimaaGreatDoor

/- out of TagRL -/
namespace Go.Proofs.YtpnbkecchfhimaaGreatDoor
set_option maxRecDepth 100000
open Go.RowKit
open Go.Lib (hid)
set_option linter.unusedVariables false

/-- One byte. -/
def one (c : Int) : ByteArray := ⟨#[UInt8.ofNat c.toNat]⟩
theorem take_snoc (s : ByteArray) (k : Nat) (h : k < s.size) : (lowerB s).extract 0 k ++ one (lowI (byt s k)) = (lowerB s).extract 0 (k + 1) := by
  have hb := byt_nonneg s k
  have hl := byt_lowerB s k h
  have hb2 := byt_nonneg (lowerB s) k
  apply ByteArray.ext
  have hs : (lowerB s).data.size = s.size := lowerB_size s
  have hs2 : (lowerB s).size = s.size := lowerB_size s
  rw [ByteArray.data_append]
  simp only [ByteArray.data_extract, one]
  apply Array.ext
  · simp; omega
  · intro i h1 h2
    simp only [Array.getElem_append, Array.getElem_extract, Nat.zero_add]
    split
    · rfl
    · rename_i hn
      have hik : i = k := by simp at h1 h2 hn; omega
      subst hik
      simp only [List.getElem_toArray]
      simp only [Array.size_extract]
      have : i - (min i (lowerB s).data.size - 0) = 0 := by omega
      simp only [this, List.getElem_cons_zero]
      rw [← hl]
      unfold byt
      rw [Array.getD_eq_getD_getElem?, Array.getElem?_eq_getElem (by omega)]
      simp

theorem conv_one (w : World) (c : Int) (h0 : 0 ≤ c) (h1 : c ≤ 255) : (convert 22 9 (.slice (some ⟨w.heap.size, 0, none⟩) 1 1)).run Tryz.prog (w.alloc (.cells #[.int .u8 c] 5)) = .ok (.string (one c)) (w.alloc (.cells #[.int .u8 c] 5)) := by
  have hb : Lib.Bytes (w.alloc (.cells #[.int .u8 c] 5)) w.heap.size 0 (one c) := by
    apply bytes_of_byt
    intro i hi
    have hi0 : i = 0 := by have : (one c).size = 1 := rfl; omega
    subst hi0
    rw [(Blk.new w 5 #[.int .u8 c]).cell 0]
    have : byt (one c) 0 = c := by
      show (((UInt8.ofNat c.toNat).toNat : Nat) : Int) = c
      rw [UInt8.toNat_ofNat']
      omega
    rw [this]
    rfl
  have := Lib.run_convert_window (P := Tryz.prog) (w.alloc (.cells #[.int .u8 c] 5)) 22 5 9 Tryz.underlying22 Tryz.underlying5 Tryz.underlying9 w.heap.size 0 (one c) hb 0 1 1 (by have : (one c).size = 1 := rfl; omega)
  have he : (one c).extract 0 (0 + 1) = one c := ByteArray.extract_zero_size (b := one c)
  rw [he] at this
  exact this

set_option maxRecDepth 100000 in
set_option maxHeartbeats 4000000 in
theorem rlower_any (s : ByteArray) (hs : s.size ≤ 9223372036854775807) (w : World) : Calls Tryz.prog 68 #[.string s] w fun e w' => e = .returned (.string (lowerB s)) ∧ Below w.heap.size w w' := by
  go_enter Tryz.func68, Tryz.ntmps68
  go_wp2_with fail
  go_loopg [3, 4] s.size (fun kx s3 s4 wr => ∃ (k : Nat), s3 = .string ((lowerB s).extract 0 k) ∧ s4 = .int .i64 k ∧ k ≤ s.size ∧ s.size - k ≤ kx ∧ Hid (Below w.heap.size w wr))
  case atStart => exact ⟨0, by rw [show (lowerB s).extract 0 0 = ByteArray.empty by apply ByteArray.ext; simp]; rfl, rfl, Nat.zero_le _, by omega, Below.refl _ _⟩
  case round =>
    obtain ⟨k, rfl, rfl, hk, hg, HB⟩ := hrel
    by_cases hlt : k < s.size
    · have hlt' : (k : Int) < (s.size : Int) := by omega
      have hT := take_snoc s k hlt
      have HT := hid hT
      have hr := byt_nonneg s k
      have hk1 : (k : Int) + 1 ≤ 9223372036854775807 := by omega
      have hidx : ((s[k].toNat : Nat) : Int) = byt s k := by
        have := getB s k hlt
        have h0 := byt_nonneg s k
        omega
      clear hT
      have hl0 : ((lowerB s).extract 0 k).size ≤ k := by rw [ByteArray.size_extract]; omega
      generalize (lowerB s).extract 0 k = t0 at *
      generalize byt s k = c at *
      by_cases h65 : (65 : Int) ≤ c
      · by_cases h90 : c ≤ (90 : Int)
        · have w1 : IntKind.u8.wrap (c + 32) = c + 32 := wraps_u8 _ (by omega) (by omega)
          have hcv := fun W => conv_one W (c + 32) (by omega) (by omega)
          have HT2 := hid (show t0 ++ one (c + 32) = (lowerB s).extract 0 (k + 1) by rw [← HT.out]; unfold lowI; rw [if_pos ⟨h65, h90⟩])
          have hl1 : (one (c + 32)).size = 1 := rfl
          generalize one (c + 32) = t1 at hcv HT2 hl1
          have hlen : ¬ (t0.size + t1.size > 9223372036854775807) := by omega
          clear hl0 hl1
          go_wp2_with fail
          rw [HT2.out]
          go_roundg (s.size - (k + 1))
          case measure => omega
          case rel => exact ⟨k + 1, rfl, rfl, by omega, Nat.le_refl _, HB.out.alloc HB.out.size _⟩
        · have hcv := fun W => conv_one W c (by omega) (by omega)
          have HT2 := hid (show t0 ++ one c = (lowerB s).extract 0 (k + 1) by rw [← HT.out]; unfold lowI; rw [if_neg (fun h => h90 h.2)])
          have hl1 : (one c).size = 1 := rfl
          generalize one c = t1 at hcv HT2 hl1
          have hlen : ¬ (t0.size + t1.size > 9223372036854775807) := by omega
          clear hl0 hl1
          go_wp2_with fail
          rw [HT2.out]
          go_roundg (s.size - (k + 1))
          case measure => omega
          case rel => exact ⟨k + 1, rfl, rfl, by omega, Nat.le_refl _, HB.out.alloc HB.out.size _⟩
      · have hcv := fun W => conv_one W c (by omega) (by omega)
        have HT2 := hid (show t0 ++ one c = (lowerB s).extract 0 (k + 1) by rw [← HT.out]; unfold lowI; rw [if_neg (fun h => h65 h.1)])
        have hl1 : (one c).size = 1 := rfl
        generalize one c = t1 at hcv HT2 hl1
        have hlen : ¬ (t0.size + t1.size > 9223372036854775807) := by omega
        clear hl0 hl1
        go_wp2_with fail
        rw [HT2.out]
        go_roundg (s.size - (k + 1))
        case measure => omega
        case rel => exact ⟨k + 1, rfl, rfl, by omega, Nat.le_refl _, HB.out.alloc HB.out.size _⟩
    · have hlt' : ¬ (k : Int) < (s.size : Int) := by omega
      have hall : (lowerB s).extract 0 k = lowerB s := by
        obtain rfl : k = s.size := by omega
        rw [← lowerB_size s]; exact ByteArray.extract_zero_size
      rw [hall]
      clear hall
      go_wp2_with fail
      go_ret
      exact ⟨rfl, HB.out⟩

end Go.Proofs.YtpnbkecchfhimaaGreatDoor

/- out of TagArg -/
namespace Go.Proofs.YtpnbkecchfhimaaGreatDoor
set_option maxRecDepth 100000
open Go.RowKit
set_option linter.unusedVariables false

end Go.Proofs.YtpnbkecchfhimaaGreatDoor

/- out of TagAlike -/
namespace Go.Proofs.YtpnbkecchfhimaaGreatDoor
set_option maxRecDepth 100000
open Go.RowKit
open Go.Lib (hid)
set_option linter.unusedVariables false

/-- A slice whose elements are these attributes. -/
def AtRow (w : World) (v : Value) (l : List (ByteArray × ByteArray)) : Prop :=
  ∃ A c, v = .slice A l.length c ∧ l.length ≤ c ∧ (0 < l.length → ∃ b off, A = some ⟨b, off, none⟩ ∧ b < w.heap.size ∧ ∀ i a, l[i]? = some a → w.cell? ⟨b, off + i * 2, none⟩ = some (.string a.1) ∧ w.cell? ⟨b, off + i * 2 + 1, none⟩ = some (.string a.2))
theorem AtRow.below {w w' : World} {v : Value} {l : List (ByteArray × ByteArray)} (h : AtRow w v l) (hb : Below w.heap.size w w') : AtRow w' v l := by
  obtain ⟨A, c, rfl, hc, hr⟩ := h
  refine ⟨A, c, rfl, hc, fun hl => ?_⟩
  obtain ⟨b, off, rfl, hbl, hcell⟩ := hr hl
  refine ⟨b, off, rfl, Nat.lt_of_lt_of_le hbl hb.size, fun i a ha => ?_⟩
  obtain ⟨h1, h2⟩ := hcell i a ha
  exact ⟨(hb.cell (p := ⟨b, _, none⟩) hbl).trans h1, (hb.cell (p := ⟨b, _, none⟩) hbl).trans h2⟩
theorem atCells_get (l : List (ByteArray × ByteArray)) (i : Nat) (a : ByteArray × ByteArray) (h : l[i]? = some a) : (atCells l)[i * 2]? = some (.string a.1) ∧ (atCells l)[i * 2 + 1]? = some (.string a.2) := by
  induction l generalizing i with
  | nil => cases h
  | cons x l ih =>
    cases i with
    | zero =>
      simp only [List.getElem?_cons_zero, Option.some.injEq] at h
      subst h
      exact ⟨rfl, rfl⟩
    | succ i =>
      have := ih i (by simpa using h)
      rw [show (i + 1) * 2 = i * 2 + 1 + 1 by omega]
      exact this
theorem atCells_len (l : List (ByteArray × ByteArray)) : (atCells l).length = l.length * 2 := by
  induction l with
  | nil => rfl
  | cons x l ih => show (atCells l).length + 2 = _; rw [ih, List.length_cons]; omega
theorem AtRow.of_own {w : World} {B : Nat} {e : TypeId} {v : Value} {l : List (ByteArray × ByteArray)} (h : w.ownsRow B e 2 v l.length (atCells l)) : AtRow w v l := by
  obtain ⟨A, c, hv, hc, _, hr⟩ := owns_form h
  refine ⟨A, c, hv, hc, fun hl => ?_⟩
  obtain ⟨g, hA, _, hg, hcell⟩ := hr hl
  refine ⟨g, 0, hA, hg, fun i a ha => ?_⟩
  have hi := (List.getElem?_eq_some_iff.1 ha).1
  obtain ⟨h1, h2⟩ := atCells_get l i a ha
  rw [Nat.zero_add]
  exact ⟨(hcell (i * 2) (by omega)).trans h1, (hcell (i * 2 + 1) (by omega)).trans h2⟩

end Go.Proofs.YtpnbkecchfhimaaGreatDoor

/- out of TagRT0 -/
namespace Go.Proofs.YtpnbkecchfhimaaGreatDoor
set_option maxRecDepth 100000
open Go.RowKit
open Go.Lib (hid)
set_option linter.unusedVariables false

theorem info_rattr : (Tryz.prog.info? 162).map (fun i => (i.zero, i.size, i.bytes)) = some (some (.agg #[.string ⟨#[]⟩, .string ⟨#[]⟩]), 2, 32) := by kernel_rfl

/-- The document's mark under way. -/
def rfC (kd : Int) (tn : ByteArray) (v : Value) : Array Value := #[.int .i64 kd, .int .i64 0, .string tn, v, .bool false, .bool false]
structure RT (s : ByteArray) (w wr : World) (kd : Int) (i : Nat) (st : St) (v : Value) (M : Mk) : Prop where
  sz : st.tname.size ≤ i ∧ st.name.size ≤ i ∧ st.value.size ≤ i ∧ st.attrs.length ≤ i
  go : fromT s kd i st = M
  bel : Below w.heap.size w wr
  blk : Blk wr (w.heap.size + 1) 80 (rfC kd st.tname v)
  res : Blk wr w.heap.size 80 tag0
  own : wr.ownsRow (w.heap.size + 2) 162 2 v st.attrs.length (atCells st.attrs)

theorem RT.same {s : ByteArray} {w wr : World} {kd : Int} {i k k' : Nat} {sl sl' : Bool} {nm nm' vl vl' tn : ByteArray} {q q' : Int} {at_ : List (ByteArray × ByteArray)} {v : Value} {M : Mk}
    (h : RT s w wr kd i ⟨k, sl, nm, vl, q, tn, at_⟩ v M) (he : M = fromT s kd (i + 1) ⟨k', sl', nm', vl', q', tn, at_⟩) (h1 : nm'.size ≤ i + 1) (h2 : vl'.size ≤ i + 1) : RT s w wr kd (i + 1) ⟨k', sl', nm', vl', q', tn, at_⟩ v M := by
  have hs := h.sz
  simp only at hs
  exact ⟨⟨by simp only; omega, h1, h2, by simp only; omega⟩, he.symm, h.bel, h.blk, h.res, h.own⟩
theorem RT.grow {s : ByteArray} {w wr w' : World} {kd : Int} {i : Nat} {st : St} {v : Value} {M : Mk} (h : RT s w wr kd i st v M) (hb : Below wr.heap.size wr w') : RT s w w' kd i st v M :=
  ⟨h.sz, h.go, h.bel.trans (hb.mono h.bel.size), h.blk.below hb h.blk.lt, h.res.below hb h.res.lt, own_kept h.own (grown_of_below hb none) fun _ _ e => by cases e⟩

theorem RT.tname {s : ByteArray} {w wr : World} {kd : Int} {i : Nat} {sl : Bool} {nm vl tn : ByteArray} {q : Int} {at_ : List (ByteArray × ByteArray)} {v : Value} {M : Mk}
    (h : RT s w wr kd i ⟨0, sl, nm, vl, q, tn, at_⟩ v M) (x : ByteArray) (hx : x.size = 1) (he : M = fromT s kd (i + 1) ⟨0, sl, nm, vl, q, tn ++ x, at_⟩) : RT s w (wr.setCell ⟨w.heap.size + 1, 2, none⟩ (.string (tn ++ x))) kd (i + 1) ⟨0, sl, nm, vl, q, tn ++ x, at_⟩ v M := by
  have hs := h.sz
  simp only at hs
  refine ⟨⟨by simp only [ByteArray.size_append]; omega, by simp only; omega, by simp only; omega, by simp only; omega⟩, he.symm, h.bel.setCell (p := ⟨w.heap.size + 1, 2, none⟩) (by show _ ≤ _; simp) _, ?_, h.res.far (by simp) _, ?_⟩
  · have := h.blk.set_ 2 (.string (tn ++ x))
    simpa [rfC] using this
  · exact own_kept h.own (grown_set _ _ _ _) fun k hk e => own_blk_ne h.own h.blk (by decide) (hk.trans e.symm)
theorem RT.app {s : ByteArray} {w wr w2 : World} {kd : Int} {i k k' : Nat} {sl sl' : Bool} {nm nm' vl vl' tn : ByteArray} {q : Int} {at_ : List (ByteArray × ByteArray)} {v v' : Value} {M M' : Mk} {o : Obj} {val : ByteArray}
    (h : RT s w wr kd i ⟨k, sl, nm, vl, q, tn, at_⟩ v M) (ho : w2.ownsRow (w.heap.size + 2) 162 2 v' (at_.length + 1) (atCells at_ ++ [.string nm, .string val])) (hg : (wr.alloc o).grownBy w2 v.ownBlock)
    (he : M' = fromT s kd (i + 1) ⟨k', sl', nm', vl', q, tn, at_ ++ [(nm, val)]⟩) (h1 : nm'.size ≤ i + 1) (h2 : vl'.size ≤ i + 1) :
    RT s w (w2.setCell ⟨w.heap.size + 1, 3, none⟩ v') kd (i + 1) ⟨k', sl', nm', vl', q, tn, at_ ++ [(nm, val)]⟩ v' M' := by
  have hs := h.sz
  simp only at hs
  have hv : ∀ g, v.ownBlock = some g → w.heap.size + 2 ≤ g := own_ge h.own
  have hblk := (h.blk.alloc o).grown hg (fun e => by have := hv _ e.symm; omega)
  have hres := (h.res.alloc o).grown hg (fun e => by have := hv _ e.symm; omega)
  have hbel := (h.bel.alloc h.bel.size o).grown hg (by have := h.bel.size; simp; omega) (fun g e => by have := hv g e; omega)
  refine ⟨⟨by simp only; omega, h1, h2, by simp; omega⟩, he.symm, hbel.setCell (p := ⟨w.heap.size + 1, 3, none⟩) (by show _ ≤ _; simp) _, ?_, hres.far (by simp) _, ?_⟩
  · have := hblk.set_ 3 v'
    simpa [rfC] using this
  · show World.ownsRow _ _ _ _ _ _ _
    rw [atCells_snoc, List.length_append]
    exact own_kept ho (grown_set _ _ _ _) fun k hk e => own_blk_ne ho hblk (by decide) (hk.trans e.symm)

theorem set6_blkR {w : World} {r : Nat} {M : Mk} {v : Value} (h : Blk w r 80 tag0) : Blk (set6 w r M v) r 80 #[.int .i64 M.kind, .int .i64 M.size, .string M.name, v, .bool M.single, .bool M.closed] := by
  have := (((((h.set_ 0 (.int .i64 M.kind)).set_ 1 (.int .i64 M.size)).set_ 2 (.string M.name)).set_ 3 v).set_ 4 (.bool M.single)).set_ 5 (.bool M.closed)
  show Blk _ _ _ _
  unfold set6
  simpa [tag0] using this
theorem set6_ownR {w : World} {B r n : Nat} {M : Mk} {v : Value} {xs : List Value} (hb : Blk w r 80 tag0) (h : w.ownsRow B 162 2 v n xs) : (set6 w r M v).ownsRow B 162 2 v n xs := by
  have hr : ∀ k, v.ownBlock = some k → some r ≠ some k := fun k hk e => own_blk_ne h hb (by decide) (hk.trans e.symm)
  exact own_kept (own_kept (own_kept (own_kept (own_kept (own_kept h (grown_set _ r 0 _) hr) (grown_set _ r 1 _) hr) (grown_set _ r 2 _) hr) (grown_set _ r 3 _) hr) (grown_set _ r 4 _) hr) (grown_set _ r 5 _) hr
/-- Where a mark is handed back: the world, its result's block, and its attributes. -/
def retW (W : World) (T : Nat) (sz : Nat) (sl : Bool) : World := ((W.setCell ⟨T, 1, none⟩ (.int .i64 (sz : Int))).setCell ⟨T, 5, none⟩ (.bool true)).setCell ⟨T, 4, none⟩ (.bool sl)
theorem RT.ret {s : ByteArray} {w W : World} {kd : Int} {i : Nat} {st : St} {v : Value} {M0 : Mk} (h : RT s w W kd i st v M0) (sz : Nat) (sl : Bool) (M : Mk) (hk : M.attrs = st.attrs) :
    Blk (set6 (retW W (w.heap.size + 1) sz sl) w.heap.size M v) w.heap.size 80 #[.int .i64 M.kind, .int .i64 M.size, .string M.name, v, .bool M.single, .bool M.closed] ∧ Below w.heap.size w (set6 (retW W (w.heap.size + 1) sz sl) w.heap.size M v) ∧ (set6 (retW W (w.heap.size + 1) sz sl) w.heap.size M v).ownsRow w.heap.size 162 2 v M.attrs.length (atCells M.attrs) := by
  have hne : w.heap.size ≠ w.heap.size + 1 := by omega
  have hr := ((h.res.far (p := ⟨w.heap.size + 1, 1, none⟩) hne (.int .i64 (sz : Int))).far (p := ⟨w.heap.size + 1, 5, none⟩) hne (.bool true)).far (p := ⟨w.heap.size + 1, 4, none⟩) hne (.bool sl)
  have hB : w.heap.size ≤ w.heap.size + 1 := Nat.le_succ _
  have hb := ((h.bel.setCell (p := ⟨w.heap.size + 1, 1, none⟩) hB (.int .i64 (sz : Int))).setCell (p := ⟨w.heap.size + 1, 5, none⟩) hB (.bool true)).setCell (p := ⟨w.heap.size + 1, 4, none⟩) hB (.bool sl)
  have ht : ∀ k, v.ownBlock = some k → some (w.heap.size + 1) ≠ some k := fun k hk e => own_blk_ne h.own h.blk (by decide) (hk.trans e.symm)
  have ho := own_kept (own_kept (own_kept h.own (grown_set _ (w.heap.size + 1) 1 (.int .i64 (sz : Int))) ht) (grown_set _ (w.heap.size + 1) 5 (.bool true)) ht) (grown_set _ (w.heap.size + 1) 4 (.bool sl)) ht
  rw [hk]
  exact ⟨set6_blkR hr, set6_below (Nat.le_refl _) hb, set6_ownR hr (owns_base ho (by omega))⟩

theorem RT.ret1 {s : ByteArray} {w W : World} {kd : Int} {i : Nat} {st : St} {v : Value} {M0 : Mk} (h : RT s w W kd i st v M0) (sz : Nat) (M : Mk) (hk : M.attrs = st.attrs) :
    Blk (set6 (W.setCell ⟨w.heap.size + 1, 1, none⟩ (.int .i64 (sz : Int))) w.heap.size M v) w.heap.size 80 #[.int .i64 M.kind, .int .i64 M.size, .string M.name, v, .bool M.single, .bool M.closed] ∧ Below w.heap.size w (set6 (W.setCell ⟨w.heap.size + 1, 1, none⟩ (.int .i64 (sz : Int))) w.heap.size M v) ∧ (set6 (W.setCell ⟨w.heap.size + 1, 1, none⟩ (.int .i64 (sz : Int))) w.heap.size M v).ownsRow w.heap.size 162 2 v M.attrs.length (atCells M.attrs) := by
  have hne : w.heap.size ≠ w.heap.size + 1 := by omega
  have hr := h.res.far (p := ⟨w.heap.size + 1, 1, none⟩) hne (.int .i64 (sz : Int))
  have hB : w.heap.size ≤ w.heap.size + 1 := Nat.le_succ _
  have hb := h.bel.setCell (p := ⟨w.heap.size + 1, 1, none⟩) hB (.int .i64 (sz : Int))
  have ht : ∀ k, v.ownBlock = some k → some (w.heap.size + 1) ≠ some k := fun k hk e => own_blk_ne h.own h.blk (by decide) (hk.trans e.symm)
  have ho := own_kept h.own (grown_set _ (w.heap.size + 1) 1 (.int .i64 (sz : Int))) ht
  rw [hk]
  exact ⟨set6_blkR hr, set6_below (Nat.le_refl _) hb, set6_ownR hr (owns_base ho (by omega))⟩


/-- The code of the first loop. -/
def firstLoop : Code → Option Code
  | .loop c => some c
  | .seq a b => match firstLoop a with
    | some c => some c
    | none => firstLoop b
  | .block _ c => firstLoop c
  | .scope c => firstLoop c
  | .cond _ a b => match firstLoop a with
    | some c => some c
    | none => firstLoop b
  | _ => none
noncomputable def rtBody : Code := (Tryz.f73.body.bind firstLoop).getD .skip
def rtR (s : ByteArray) (fr : Nat) (kd : Int) (w : World) : Ending → World → Prop := fun e w' =>
  ∃ v, e = .returned ((refNamed s fr kd).val v) ∧ Below w.heap.size w w' ∧ w'.ownsRow w.heap.size 162 2 v (refNamed s fr kd).attrs.length (atCells (refNamed s fr kd).attrs)
set_option maxRecDepth 1000000 in
def rtI (b off n cap fr : Nat) (kd : Int) (s : ByteArray) (w : World) (M : Mk) (kx : Nat) (a : Act) (wr : World) : Prop :=
  ∃ u8 u9 u10 u11 u12 u13 u14 u15 u16 u20 u21 u22 u23 u24 u25 u26 u27 u28 u29 u30 u31 u32 u33 u34 u35 u36 u37 u38 u39 u40 u41 u42 u43 u44 u45 u46 u47 u48 u49 u50 u51 u52 u53 u54 u55 u56 u57 u58 u59 u60 u61 u62 u63 u64 u65 u66 u67 u68 u69 u70 u71 u72 u73 u74 u75 u76 u77 u78 u79 u80 u81 u82 u83 u84 u85 u86 u87 u88 u89 u90 u91 u92 u93 u94 u95 u96 u97 u98 u99 u100 u101 u102 u103 u104 u105 u106 u107 u108 u109 u110 u111 u112 u113 u114 u115 u116 u117 u118 u119 u120 u121 u122 u123 u124 u125 u126 u127 u128 u129 u130 u131 u132 u133 u134 u135 u136 u137 u138 u139 u140 u141 u142 u143 u144 u145 u146 u147 u148 u149 u150 u151 u152 u153 u154 u155 u156 u157 u158 u159 u160 u161 u162 u163 u164 u165 u166 u167 u168 u169 u170 u171 u172 u173 u174 u175 u176 u177 u178 u179 u180 u181 u182 u183 u184 u185 u186 u187 u188 u189 : Value, (∃ (i k : Nat) (z : Int) (sl : Bool) (nm vl : ByteArray) (q : Int) (tn : ByteArray) (at_ : List (ByteArray × ByteArray)) (v : Value), u8 = .int .i64 z ∧ z = (k : Int) ∧ u9 = .bool sl ∧ u10 = .string nm ∧ u11 = .string vl ∧ u12 = .int .u8 q ∧ u13 = .int .i64 i ∧ i ≤ n ∧ n - i ≤ kx ∧ k ≤ 6 ∧ Hid (RT s w wr kd i ⟨k, sl, nm, vl, q, tn, at_⟩ v M)) ∧ a = ⟨#[.slice (some ⟨b, off, none⟩) n cap, .int .i64 (fr : Nat), .int .i64 kd, undef, undef, undef, .pointer (some ⟨w.heap.size, 0, none⟩), .pointer (some ⟨w.heap.size + 1, 0, none⟩), u8, u9, u10, u11, u12, u13, u14, u15, u16, .int .i64 kd, .agg #[.int .i64 kd, .int .i64 0, .string ⟨#[]⟩, .slice none 0 0, .bool false, .bool false], .int .i64 (fr : Nat), u20, u21, u22, u23, u24, u25, u26, u27, u28, u29, u30, u31, u32, u33, u34, u35, u36, u37, u38, u39, u40, u41, u42, u43, u44, u45, u46, u47, u48, u49, u50, u51, u52, u53, u54, u55, u56, u57, u58, u59, u60, u61, u62, u63, u64, u65, u66, u67, u68, u69, u70, u71, u72, u73, u74, u75, u76, u77, u78, u79, u80, u81, u82, u83, u84, u85, u86, u87, u88, u89, u90, u91, u92, u93, u94, u95, u96, u97, u98, u99, u100, u101, u102, u103, u104, u105, u106, u107, u108, u109, u110, u111, u112, u113, u114, u115, u116, u117, u118, u119, u120, u121, u122, u123, u124, u125, u126, u127, u128, u129, u130, u131, u132, u133, u134, u135, u136, u137, u138, u139, u140, u141, u142, u143, u144, u145, u146, u147, u148, u149, u150, u151, u152, u153, u154, u155, u156, u157, u158, u159, u160, u161, u162, u163, u164, u165, u166, u167, u168, u169, u170, u171, u172, u173, u174, u175, u176, u177, u178, u179, u180, u181, u182, u183, u184, u185, u186, u187, u188, u189, undef, undef, undef, undef, undef, undef, undef, undef, undef, undef, undef, undef, undef, undef], []⟩

end Go.Proofs.YtpnbkecchfhimaaGreatDoor

/- out of TagRT1 -/
namespace Go.Proofs.YtpnbkecchfhimaaGreatDoor
set_option maxRecDepth 100000
open Go.RowKit
open Go.Lib (hid)
set_option linter.unusedVariables false
set_option maxRecDepth 1000000 in
set_option maxHeartbeats 40000000 in
theorem rt_case0 (b off n cap fr : Nat) (kd : Int) (s : ByteArray) (hi : fr ≤ n) (hcap : n ≤ cap) (hc63 : cap ≤ 9223372036854775807)
    (hm : n ≤ 1048576) (w : World) (hbB : b < w.heap.size) (HZ : Hid (Lib.Bytes w b off s)) (HN : Hid (n = s.size)) (M : Mk) (HM : Hid (refNamed s fr kd = M))
    (gk : Nat) (wr : World) (J : Nat → Act → World → Prop) (K : Act → World → Prop) (K2 : Act → World → Prop)
    (hJ : ∀ k' a' w', rtI b off n cap fr kd s w M k' a' w' → J k' a' w') (hK : ∀ a' w', Handed J gk a' w' → K a' w')
    (HQR : Hid (∀ a' w', bodyPost Tryz.prog Tryz.f73 (rtR s fr kd w) .ret a' w' → (bodyPost Tryz.prog Tryz.f73 (rtR s fr kd w)) .ret a' w'))
    (i : Nat) (sl : Bool) (nm vl : ByteArray) (q : Int) (tn : ByteArray) (at_ : List (ByteArray × ByteArray)) (v : Value)
    (hin : i ≤ n) (hg : n - i ≤ gk) (hlt : i < n) (HRT : Hid (RT s w wr kd i ⟨0, sl, nm, vl, q, tn, at_⟩ v M))
    (u14 u15 u16 u20 u21 u22 u23 u24 u25 u26 u27 u28 u29 u30 u31 u32 u33 u34 u35 u36 u37 u38 u39 u40 u41 u42 u43 u44 u45 u46 u47 u48 u49 u50 u51 u52 u53 u54 u55 u56 u57 u58 u59 u60 u61 u62 u63 u64 u65 u66 u67 u68 u69 u70 u71 u72 u73 u74 u75 u76 u77 u78 u79 u80 u81 u82 u83 u84 u85 u86 u87 u88 u89 u90 u91 u92 u93 u94 u95 u96 u97 u98 u99 u100 u101 u102 u103 u104 u105 u106 u107 u108 u109 u110 u111 u112 u113 u114 u115 u116 u117 u118 u119 u120 u121 u122 u123 u124 u125 u126 u127 u128 u129 u130 u131 u132 u133 u134 u135 u136 u137 u138 u139 u140 u141 u142 u143 u144 u145 u146 u147 u148 u149 u150 u151 u152 u153 u154 u155 u156 u157 u158 u159 u160 u161 u162 u163 u164 u165 u166 u167 u168 u169 u170 u171 u172 u173 u174 u175 u176 u177 u178 u179 u180 u181 u182 u183 u184 u185 u186 u187 u188 u189 : Value) :
    Code.wp Tryz.prog rtBody (Exit.then K (Exit.inBlock 0 (Exit.then K2 (bodyPost Tryz.prog Tryz.f73 (rtR s fr kd w))))) ⟨#[.slice (some ⟨b, off, none⟩) n cap, .int .i64 (fr : Nat), .int .i64 kd, undef, undef, undef, .pointer (some ⟨w.heap.size, 0, none⟩), .pointer (some ⟨w.heap.size + 1, 0, none⟩), .int .i64 0, .bool sl, .string nm, .string vl, .int .u8 q, .int .i64 i, u14, u15, u16, .int .i64 kd, .agg #[.int .i64 kd, .int .i64 0, .string ⟨#[]⟩, .slice none 0 0, .bool false, .bool false], .int .i64 (fr : Nat), u20, u21, u22, u23, u24, u25, u26, u27, u28, u29, u30, u31, u32, u33, u34, u35, u36, u37, u38, u39, u40, u41, u42, u43, u44, u45, u46, u47, u48, u49, u50, u51, u52, u53, u54, u55, u56, u57, u58, u59, u60, u61, u62, u63, u64, u65, u66, u67, u68, u69, u70, u71, u72, u73, u74, u75, u76, u77, u78, u79, u80, u81, u82, u83, u84, u85, u86, u87, u88, u89, u90, u91, u92, u93, u94, u95, u96, u97, u98, u99, u100, u101, u102, u103, u104, u105, u106, u107, u108, u109, u110, u111, u112, u113, u114, u115, u116, u117, u118, u119, u120, u121, u122, u123, u124, u125, u126, u127, u128, u129, u130, u131, u132, u133, u134, u135, u136, u137, u138, u139, u140, u141, u142, u143, u144, u145, u146, u147, u148, u149, u150, u151, u152, u153, u154, u155, u156, u157, u158, u159, u160, u161, u162, u163, u164, u165, u166, u167, u168, u169, u170, u171, u172, u173, u174, u175, u176, u177, u178, u179, u180, u181, u182, u183, u184, u185, u186, u187, u188, u189, undef, undef, undef, undef, undef, undef, undef, undef, undef, undef, undef, undef, undef, undef], []⟩ wr := by
  conv => arg 2; whnf
  unfold rtI at hJ
  obtain ⟨i0, hi0, hz0, hz1, hz2⟩ := info_parts info_rattr
  have hlt' : (i : Int) < (n : Int) := by omega
  have his : i < s.size := by have := HN.out; omega
  have hbr := HRT.out.bel
  have hzr : Lib.Bytes wr b off s := Bytes.keepAt HZ.out fun j => World.cell?_of_block (hbr.block b hbB)
  have hcell := bytes_cell hzr his
  have hi1 : (i : Int) + 1 ≤ 9223372036854775807 := by omega
  have hsl : ∀ W, (Instr.slice 22 (.slice (some ⟨b, off, none⟩) n cap) (some (.int .i64 i)) (some (.int .i64 ((i : Int) + 1))) none).run Tryz.prog W = .ok (.slice (some ⟨b, off + i, none⟩) 1 (cap - i)) W := fun W => by
    have := slice_row b off n cap i (i + 1) (by omega) (by omega) (by omega) W
    rw [show i + 1 - i = 1 by omega] at this
    simpa using this
  have hcv : (convert 22 9 (.slice (some ⟨b, off + i, none⟩) 1 (cap - i))).run Tryz.prog wr = .ok (.string (at1 s i)) wr :=
    Lib.run_convert_window (P := Tryz.prog) wr 22 5 9 Tryz.underlying22 Tryz.underlying5 Tryz.underlying9 b off s hzr i 1 (cap - i) (by omega)
  have hch : (at1 s i).size = 1 := by unfold at1; rw [ByteArray.size_extract]; omega
  have hcr := byt_nonneg s i
  have hgo := fun st' => fromT_go s kd i ⟨0, sl, nm, vl, q, tn, at_⟩ st' his
  have hstop := fun st' => fromT_stop s kd i ⟨0, sl, nm, vl, q, tn, at_⟩ st' his
  rw [HRT.out.go] at hgo hstop
  generalize at1 s i = ch at *
  generalize byt s i = c at *
  have HGO := hid hgo
  have HSTOP := hid hstop
  have hlow := fun W => rlower_any ch (by omega) W
  have HLOW := hid hlow
  have HCH := hid hch
  have g2 := HRT.out.blk.cell 2
  have g3 := HRT.out.blk.cell 3
  have frg := HRT.out.blk.frozen
  simp only [rfC, List.getElem?_toArray, List.getElem?_cons_zero, List.getElem?_cons_succ] at g2 g3
  have hbl : ∀ W, Calls Tryz.prog 69 #[.int .u8 c] W fun e w' => e = .returned (.bool (blankB c)) ∧ w' = W := fun W => refblank_any c W
  have HBL := hid hbl
  clear hbr hzr hgo hstop hlow hch hbl hcr
  have tsz := HRT.out.sz
  simp only at tsz
  have TSZ := hid tsz
  clear tsz
  by_cases h62 : c = 62
  · subst h62
    rw [show blankB 62 = false from rfl] at HBL
    have HE := hid (HSTOP.out ⟨1, false, nm, vl, q, tn, at_⟩ (by unfold stepT; first | (simp; done) | simp [show blankB 62 = false from rfl]))
    have c0 := HRT.out.blk.cell 0
    have r0 := HRT.out.res.cell 0
    have c1 := HRT.out.blk.cell 1
    have r1 := HRT.out.res.cell 1
    have c2 := HRT.out.blk.cell 2
    have r2 := HRT.out.res.cell 2
    have c3 := HRT.out.blk.cell 3
    have r3 := HRT.out.res.cell 3
    have c4 := HRT.out.blk.cell 4
    have r4 := HRT.out.res.cell 4
    have c5 := HRT.out.blk.cell 5
    have r5 := HRT.out.res.cell 5
    have frr := HRT.out.res.frozen
    simp only [rfC, tag0, List.getElem?_toArray, List.getElem?_cons_zero, List.getElem?_cons_succ] at c0 c1 c2 c3 c4 c5 r0 r1 r2 r3 r4 r5
    have hvs := owns_slice HRT.out.own
    obtain ⟨A0, cp0, rfl⟩ := hvs
    have HFIN := hid (HRT.out.ret (i + 1) false ⟨kd, i + 1, tn, at_, false, true⟩ rfl)
    clear g2 g3
    go_wp2_with (first | (go_at_call 69; refine (HBL.out _).mono ?_; rintro e w' ⟨rfl, hw'⟩; obtain rfl : wr = w' := hw'.symm))
    (try simp only [Exit.inBlock, Exit.then])
    refine HQR.out _ _ (bodyPost_ret (results_cell_row rfl _ _ w.heap.size _ _ _ _ rfl HFIN.out.1 Tryz.underlying80 rfl (by kernel_rfl)) rfl ?_)
    unfold rtR
    rw [HM.out, HE.out]
    exact ⟨_, rfl, HFIN.out.2.1, HFIN.out.2.2⟩
  by_cases h47 : c = 47
  · subst h47
    rw [show blankB 47 = false from rfl] at HBL
    have HE := hid (HGO.out ⟨1, true, nm, vl, q, tn, at_⟩ (by unfold stepT; first | (simp; done) | simp [show blankB 47 = false from rfl]))
    go_wp2_with (first | (go_at_call 69; refine (HBL.out _).mono ?_; rintro e w' ⟨rfl, hw'⟩; obtain rfl : wr = w' := hw'.symm))
    go_roundg (n - (i + 1))
    case measure => omega
    case rel => exact ⟨i + 1, 1, 1, true, nm, vl, q, tn, at_, v, rfl, rfl, rfl, rfl, rfl, rfl, rfl, by omega, Nat.le_refl _, by decide, HRT.out.same HE.out (by have := TSZ.out; have := HCH.out; first | exact Nat.zero_le _ | omega | (rw [ByteArray.size_append]; omega) | (rw [lowerB_size]; omega) | (rw [ByteArray.size_append, lowerB_size]; omega)) (by have := TSZ.out; have := HCH.out; first | exact Nat.zero_le _ | omega | (rw [ByteArray.size_append]; omega) | (rw [lowerB_size]; omega) | (rw [ByteArray.size_append, lowerB_size]; omega))⟩
  cases hblc : blankB c
  case true =>
    rw [hblc] at HBL
    have nE : c ≠ 62 := h62
    have bE : (c == 62) = false := by simpa using nE
    have iE : (c != 62) = true := by simpa using nE
    have nS : c ≠ 47 := h47
    have bS : (c == 47) = false := by simpa using nS
    have iS : (c != 47) = true := by simpa using nS
    have HE := hid (HGO.out ⟨1, false, nm, vl, q, tn, at_⟩ (by unfold stepT; first | (simp; done) | (simp [hblc]; done) | (simp [hblc, nE]; done) | simp [hblc, nE, nS]))
    clear nE nS hblc h62 h47
    go_wp2_with (first | (go_at_call 69; refine (HBL.out _).mono ?_; rintro e w' ⟨rfl, hw'⟩; obtain rfl : wr = w' := hw'.symm))
    go_roundg (n - (i + 1))
    case measure => omega
    case rel => exact ⟨i + 1, 1, 1, false, nm, vl, q, tn, at_, v, rfl, rfl, rfl, rfl, rfl, rfl, rfl, by omega, Nat.le_refl _, by decide, HRT.out.same HE.out (by have := TSZ.out; have := HCH.out; first | exact Nat.zero_le _ | omega | (rw [ByteArray.size_append]; omega) | (rw [lowerB_size]; omega) | (rw [ByteArray.size_append, lowerB_size]; omega)) (by have := TSZ.out; have := HCH.out; first | exact Nat.zero_le _ | omega | (rw [ByteArray.size_append]; omega) | (rw [lowerB_size]; omega) | (rw [ByteArray.size_append, lowerB_size]; omega))⟩
  case false =>
    rw [hblc] at HBL
    have nE : c ≠ 62 := h62
    have bE : (c == 62) = false := by simpa using nE
    have iE : (c != 62) = true := by simpa using nE
    have nS : c ≠ 47 := h47
    have bS : (c == 47) = false := by simpa using nS
    have iS : (c != 47) = true := by simpa using nS
    have HE := hid (HGO.out ⟨0, sl, nm, vl, q, (tn ++ lowerB ch), at_⟩ (by unfold stepT; first | (simp; done) | (simp [hblc]; done) | (simp [hblc, nE]; done) | simp [hblc, nE, nS]))
    have hlen : ¬ (tn.size + (lowerB ch).size > 9223372036854775807) := by rw [lowerB_size, HCH.out]; have := TSZ.out.1; omega
    clear nE nS hblc h62 h47
    have tlt := HRT.out.blk.lt
    have TLT := hid tlt
    clear tlt
    go_wp2_with (first | (go_at_call 69; refine (HBL.out _).mono ?_; rintro e w' ⟨rfl, hw'⟩; obtain rfl : wr = w' := hw'.symm))
    go_region_with (go_at_call 68; refine (HLOW.out _).mono ?_; rintro e w' ⟨rfl, hb'⟩; have g2' := (hb'.cell (p := ⟨w.heap.size + 1, 2, none⟩) TLT.out).trans g2; have fr' := fun i => (hb'.frozen (p := ⟨w.heap.size + 1, i, none⟩) TLT.out).trans (frg i); have hb2 : Below wr.heap.size wr w' := ⟨hb'.1, hb'.2, hb'.3, hb'.4, hb'.5⟩; have HB' := hid hb2; clear hb' hb2)
    all_goals
      go_wp2_with fail
      go_roundg (n - (i + 1))
      case measure => omega
      case rel => exact ⟨i + 1, 0, 0, sl, nm, vl, q, (tn ++ lowerB ch), at_, v, rfl, rfl, rfl, rfl, rfl, rfl, rfl, by omega, Nat.le_refl _, by decide, (HRT.out.grow HB'.out).tname _ (by rw [lowerB_size]; exact HCH.out) HE.out⟩

end Go.Proofs.YtpnbkecchfhimaaGreatDoor

/- out of TagRT2 -/
namespace Go.Proofs.YtpnbkecchfhimaaGreatDoor
set_option maxRecDepth 100000
open Go.RowKit
open Go.Lib (hid)
set_option linter.unusedVariables false
set_option maxRecDepth 1000000 in
set_option maxHeartbeats 40000000 in
theorem rt_case1 (b off n cap fr : Nat) (kd : Int) (s : ByteArray) (hi : fr ≤ n) (hcap : n ≤ cap) (hc63 : cap ≤ 9223372036854775807)
    (hm : n ≤ 1048576) (w : World) (hbB : b < w.heap.size) (HZ : Hid (Lib.Bytes w b off s)) (HN : Hid (n = s.size)) (M : Mk) (HM : Hid (refNamed s fr kd = M))
    (gk : Nat) (wr : World) (J : Nat → Act → World → Prop) (K : Act → World → Prop) (K2 : Act → World → Prop) (Q : Exit → Act → World → Prop)
    (hJ : ∀ k' a' w', rtI b off n cap fr kd s w M k' a' w' → J k' a' w') (hK : ∀ a' w', Handed J gk a' w' → K a' w')
    (HQR : Hid (∀ a' w', bodyPost Tryz.prog Tryz.f73 (rtR s fr kd w) .ret a' w' → Q .ret a' w'))
    (i : Nat) (sl : Bool) (nm vl : ByteArray) (q : Int) (tn : ByteArray) (at_ : List (ByteArray × ByteArray)) (v : Value)
    (hin : i ≤ n) (hg : n - i ≤ gk) (hlt : i < n) (HRT : Hid (RT s w wr kd i ⟨1, sl, nm, vl, q, tn, at_⟩ v M))
    (u14 u15 u16 u20 u21 u22 u23 u24 u25 u26 u27 u28 u29 u30 u31 u32 u33 u34 u35 u36 u37 u38 u39 u40 u41 u42 u43 u44 u45 u46 u47 u48 u49 u50 u51 u52 u53 u54 u55 u56 u57 u58 u59 u60 u61 u62 u63 u64 u65 u66 u67 u68 u69 u70 u71 u72 u73 u74 u75 u76 u77 u78 u79 u80 u81 u82 u83 u84 u85 u86 u87 u88 u89 u90 u91 u92 u93 u94 u95 u96 u97 u98 u99 u100 u101 u102 u103 u104 u105 u106 u107 u108 u109 u110 u111 u112 u113 u114 u115 u116 u117 u118 u119 u120 u121 u122 u123 u124 u125 u126 u127 u128 u129 u130 u131 u132 u133 u134 u135 u136 u137 u138 u139 u140 u141 u142 u143 u144 u145 u146 u147 u148 u149 u150 u151 u152 u153 u154 u155 u156 u157 u158 u159 u160 u161 u162 u163 u164 u165 u166 u167 u168 u169 u170 u171 u172 u173 u174 u175 u176 u177 u178 u179 u180 u181 u182 u183 u184 u185 u186 u187 u188 u189 : Value) :
    Code.wp Tryz.prog rtBody (Exit.then K (Exit.inBlock 0 (Exit.then K2 Q))) ⟨#[.slice (some ⟨b, off, none⟩) n cap, .int .i64 (fr : Nat), .int .i64 kd, undef, undef, undef, .pointer (some ⟨w.heap.size, 0, none⟩), .pointer (some ⟨w.heap.size + 1, 0, none⟩), .int .i64 1, .bool sl, .string nm, .string vl, .int .u8 q, .int .i64 i, u14, u15, u16, .int .i64 kd, .agg #[.int .i64 kd, .int .i64 0, .string ⟨#[]⟩, .slice none 0 0, .bool false, .bool false], .int .i64 (fr : Nat), u20, u21, u22, u23, u24, u25, u26, u27, u28, u29, u30, u31, u32, u33, u34, u35, u36, u37, u38, u39, u40, u41, u42, u43, u44, u45, u46, u47, u48, u49, u50, u51, u52, u53, u54, u55, u56, u57, u58, u59, u60, u61, u62, u63, u64, u65, u66, u67, u68, u69, u70, u71, u72, u73, u74, u75, u76, u77, u78, u79, u80, u81, u82, u83, u84, u85, u86, u87, u88, u89, u90, u91, u92, u93, u94, u95, u96, u97, u98, u99, u100, u101, u102, u103, u104, u105, u106, u107, u108, u109, u110, u111, u112, u113, u114, u115, u116, u117, u118, u119, u120, u121, u122, u123, u124, u125, u126, u127, u128, u129, u130, u131, u132, u133, u134, u135, u136, u137, u138, u139, u140, u141, u142, u143, u144, u145, u146, u147, u148, u149, u150, u151, u152, u153, u154, u155, u156, u157, u158, u159, u160, u161, u162, u163, u164, u165, u166, u167, u168, u169, u170, u171, u172, u173, u174, u175, u176, u177, u178, u179, u180, u181, u182, u183, u184, u185, u186, u187, u188, u189, undef, undef, undef, undef, undef, undef, undef, undef, undef, undef, undef, undef, undef, undef], []⟩ wr := by
  conv => arg 2; whnf
  unfold rtI at hJ
  obtain ⟨i0, hi0, hz0, hz1, hz2⟩ := info_parts info_rattr
  have hlt' : (i : Int) < (n : Int) := by omega
  have his : i < s.size := by have := HN.out; omega
  have hbr := HRT.out.bel
  have hzr : Lib.Bytes wr b off s := Bytes.keepAt HZ.out fun j => World.cell?_of_block (hbr.block b hbB)
  have hcell := bytes_cell hzr his
  have hi1 : (i : Int) + 1 ≤ 9223372036854775807 := by omega
  have hsl : ∀ W, (Instr.slice 22 (.slice (some ⟨b, off, none⟩) n cap) (some (.int .i64 i)) (some (.int .i64 ((i : Int) + 1))) none).run Tryz.prog W = .ok (.slice (some ⟨b, off + i, none⟩) 1 (cap - i)) W := fun W => by
    have := slice_row b off n cap i (i + 1) (by omega) (by omega) (by omega) W
    rw [show i + 1 - i = 1 by omega] at this
    simpa using this
  have hcv : (convert 22 9 (.slice (some ⟨b, off + i, none⟩) 1 (cap - i))).run Tryz.prog wr = .ok (.string (at1 s i)) wr :=
    Lib.run_convert_window (P := Tryz.prog) wr 22 5 9 Tryz.underlying22 Tryz.underlying5 Tryz.underlying9 b off s hzr i 1 (cap - i) (by omega)
  have hch : (at1 s i).size = 1 := by unfold at1; rw [ByteArray.size_extract]; omega
  have hcr := byt_nonneg s i
  have hgo := fun st' => fromT_go s kd i ⟨1, sl, nm, vl, q, tn, at_⟩ st' his
  have hstop := fun st' => fromT_stop s kd i ⟨1, sl, nm, vl, q, tn, at_⟩ st' his
  rw [HRT.out.go] at hgo hstop
  generalize at1 s i = ch at *
  generalize byt s i = c at *
  have HGO := hid hgo
  have HSTOP := hid hstop
  have hlow := fun W => rlower_any ch (by omega) W
  have HLOW := hid hlow
  have HCH := hid hch
  have g2 := HRT.out.blk.cell 2
  have g3 := HRT.out.blk.cell 3
  have frg := HRT.out.blk.frozen
  simp only [rfC, List.getElem?_toArray, List.getElem?_cons_zero, List.getElem?_cons_succ] at g2 g3
  have hbl : ∀ W, Calls Tryz.prog 69 #[.int .u8 c] W fun e w' => e = .returned (.bool (blankB c)) ∧ w' = W := fun W => refblank_any c W
  have HBL := hid hbl
  clear hbr hzr hgo hstop hlow hch hbl hcr
  have tsz := HRT.out.sz
  simp only at tsz
  have TSZ := hid tsz
  clear tsz
  by_cases h62 : c = 62
  · subst h62
    rw [show blankB 62 = false from rfl] at HBL
    have HE := hid (HSTOP.out ⟨1, sl, nm, vl, q, tn, at_⟩ (by unfold stepT; first | (simp; done) | simp [show blankB 62 = false from rfl]))
    have c0 := HRT.out.blk.cell 0
    have r0 := HRT.out.res.cell 0
    have c1 := HRT.out.blk.cell 1
    have r1 := HRT.out.res.cell 1
    have c2 := HRT.out.blk.cell 2
    have r2 := HRT.out.res.cell 2
    have c3 := HRT.out.blk.cell 3
    have r3 := HRT.out.res.cell 3
    have c4 := HRT.out.blk.cell 4
    have r4 := HRT.out.res.cell 4
    have c5 := HRT.out.blk.cell 5
    have r5 := HRT.out.res.cell 5
    have frr := HRT.out.res.frozen
    simp only [rfC, tag0, List.getElem?_toArray, List.getElem?_cons_zero, List.getElem?_cons_succ] at c0 c1 c2 c3 c4 c5 r0 r1 r2 r3 r4 r5
    have hvs := owns_slice HRT.out.own
    obtain ⟨A0, cp0, rfl⟩ := hvs
    have HFIN := hid (HRT.out.ret (i + 1) sl ⟨kd, i + 1, tn, at_, sl, true⟩ rfl)
    clear g2 g3
    go_wp2_with (first | (go_at_call 69; refine (HBL.out _).mono ?_; rintro e w' ⟨rfl, hw'⟩; obtain rfl : wr = w' := hw'.symm))
    (try simp only [Exit.inBlock, Exit.then])
    refine HQR.out _ _ (bodyPost_ret (results_cell_row rfl _ _ w.heap.size _ _ _ _ rfl HFIN.out.1 Tryz.underlying80 rfl (by kernel_rfl)) rfl ?_)
    unfold rtR
    rw [HM.out, HE.out]
    exact ⟨_, rfl, HFIN.out.2.1, HFIN.out.2.2⟩
  by_cases h47 : c = 47
  · subst h47
    rw [show blankB 47 = false from rfl] at HBL
    have HE := hid (HGO.out ⟨1, true, nm, vl, q, tn, at_⟩ (by unfold stepT; first | (simp; done) | simp [show blankB 47 = false from rfl]))
    go_wp2_with (first | (go_at_call 69; refine (HBL.out _).mono ?_; rintro e w' ⟨rfl, hw'⟩; obtain rfl : wr = w' := hw'.symm))
    go_roundg (n - (i + 1))
    case measure => omega
    case rel => exact ⟨i + 1, 1, 1, true, nm, vl, q, tn, at_, v, rfl, rfl, rfl, rfl, rfl, rfl, rfl, by omega, Nat.le_refl _, by decide, HRT.out.same HE.out (by have := TSZ.out; have := HCH.out; first | exact Nat.zero_le _ | omega | (rw [ByteArray.size_append]; omega) | (rw [lowerB_size]; omega) | (rw [ByteArray.size_append, lowerB_size]; omega)) (by have := TSZ.out; have := HCH.out; first | exact Nat.zero_le _ | omega | (rw [ByteArray.size_append]; omega) | (rw [lowerB_size]; omega) | (rw [ByteArray.size_append, lowerB_size]; omega))⟩
  cases hblc : blankB c
  case true =>
    rw [hblc] at HBL
    have nE : c ≠ 62 := h62
    have bE : (c == 62) = false := by simpa using nE
    have iE : (c != 62) = true := by simpa using nE
    have nS : c ≠ 47 := h47
    have bS : (c == 47) = false := by simpa using nS
    have iS : (c != 47) = true := by simpa using nS
    have HE := hid (HGO.out ⟨1, false, nm, vl, q, tn, at_⟩ (by unfold stepT; first | (simp; done) | (simp [hblc]; done) | (simp [hblc, nE]; done) | simp [hblc, nE, nS]))
    clear nE nS hblc h62 h47
    go_wp2_with (first | (go_at_call 69; refine (HBL.out _).mono ?_; rintro e w' ⟨rfl, hw'⟩; obtain rfl : wr = w' := hw'.symm))
    go_roundg (n - (i + 1))
    case measure => omega
    case rel => exact ⟨i + 1, 1, 1, false, nm, vl, q, tn, at_, v, rfl, rfl, rfl, rfl, rfl, rfl, rfl, by omega, Nat.le_refl _, by decide, HRT.out.same HE.out (by have := TSZ.out; have := HCH.out; first | exact Nat.zero_le _ | omega | (rw [ByteArray.size_append]; omega) | (rw [lowerB_size]; omega) | (rw [ByteArray.size_append, lowerB_size]; omega)) (by have := TSZ.out; have := HCH.out; first | exact Nat.zero_le _ | omega | (rw [ByteArray.size_append]; omega) | (rw [lowerB_size]; omega) | (rw [ByteArray.size_append, lowerB_size]; omega))⟩
  case false =>
    rw [hblc] at HBL
    have nE : c ≠ 62 := h62
    have bE : (c == 62) = false := by simpa using nE
    have iE : (c != 62) = true := by simpa using nE
    have nS : c ≠ 47 := h47
    have bS : (c == 47) = false := by simpa using nS
    have iS : (c != 47) = true := by simpa using nS
    have HE := hid (HGO.out ⟨2, sl, (lowerB ch), ⟨#[]⟩, q, tn, at_⟩ (by unfold stepT; first | (simp; done) | (simp [hblc]; done) | (simp [hblc, nE]; done) | simp [hblc, nE, nS]))
    clear nE nS hblc h62 h47
    skip
    go_wp2_with (first | (go_at_call 69; refine (HBL.out _).mono ?_; rintro e w' ⟨rfl, hw'⟩; obtain rfl : wr = w' := hw'.symm) | (go_at_call 68; refine (HLOW.out _).mono ?_; rintro e w' ⟨rfl, hb'⟩))
    go_roundg (n - (i + 1))
    case measure => omega
    case rel => exact ⟨i + 1, 2, 2, sl, (lowerB ch), ⟨#[]⟩, q, tn, at_, v, rfl, rfl, rfl, rfl, rfl, rfl, rfl, by omega, Nat.le_refl _, by decide, (HRT.out.grow hb').same HE.out (by have := TSZ.out; have := HCH.out; first | exact Nat.zero_le _ | omega | (rw [ByteArray.size_append]; omega) | (rw [lowerB_size]; omega) | (rw [ByteArray.size_append, lowerB_size]; omega)) (by have := TSZ.out; have := HCH.out; first | exact Nat.zero_le _ | omega | (rw [ByteArray.size_append]; omega) | (rw [lowerB_size]; omega) | (rw [ByteArray.size_append, lowerB_size]; omega))⟩

end Go.Proofs.YtpnbkecchfhimaaGreatDoor

/- out of TagRT3 -/
namespace Go.Proofs.YtpnbkecchfhimaaGreatDoor
set_option maxRecDepth 100000
open Go.RowKit
open Go.Lib (hid)
set_option linter.unusedVariables false
set_option maxRecDepth 1000000 in
set_option maxHeartbeats 40000000 in
theorem rt_case2 (b off n cap fr : Nat) (kd : Int) (s : ByteArray) (hi : fr ≤ n) (hcap : n ≤ cap) (hc63 : cap ≤ 9223372036854775807)
    (hm : n ≤ 1048576) (w : World) (hbB : b < w.heap.size) (HZ : Hid (Lib.Bytes w b off s)) (HN : Hid (n = s.size)) (M : Mk) (HM : Hid (refNamed s fr kd = M))
    (gk : Nat) (wr : World) (J : Nat → Act → World → Prop) (K : Act → World → Prop) (K2 : Act → World → Prop) (Q : Exit → Act → World → Prop)
    (hJ : ∀ k' a' w', rtI b off n cap fr kd s w M k' a' w' → J k' a' w') (hK : ∀ a' w', Handed J gk a' w' → K a' w')
    (HQR : Hid (∀ a' w', bodyPost Tryz.prog Tryz.f73 (rtR s fr kd w) .ret a' w' → Q .ret a' w'))
    (i : Nat) (sl : Bool) (nm vl : ByteArray) (q : Int) (tn : ByteArray) (at_ : List (ByteArray × ByteArray)) (v : Value)
    (hin : i ≤ n) (hg : n - i ≤ gk) (hlt : i < n) (HRT : Hid (RT s w wr kd i ⟨2, sl, nm, vl, q, tn, at_⟩ v M))
    (u14 u15 u16 u20 u21 u22 u23 u24 u25 u26 u27 u28 u29 u30 u31 u32 u33 u34 u35 u36 u37 u38 u39 u40 u41 u42 u43 u44 u45 u46 u47 u48 u49 u50 u51 u52 u53 u54 u55 u56 u57 u58 u59 u60 u61 u62 u63 u64 u65 u66 u67 u68 u69 u70 u71 u72 u73 u74 u75 u76 u77 u78 u79 u80 u81 u82 u83 u84 u85 u86 u87 u88 u89 u90 u91 u92 u93 u94 u95 u96 u97 u98 u99 u100 u101 u102 u103 u104 u105 u106 u107 u108 u109 u110 u111 u112 u113 u114 u115 u116 u117 u118 u119 u120 u121 u122 u123 u124 u125 u126 u127 u128 u129 u130 u131 u132 u133 u134 u135 u136 u137 u138 u139 u140 u141 u142 u143 u144 u145 u146 u147 u148 u149 u150 u151 u152 u153 u154 u155 u156 u157 u158 u159 u160 u161 u162 u163 u164 u165 u166 u167 u168 u169 u170 u171 u172 u173 u174 u175 u176 u177 u178 u179 u180 u181 u182 u183 u184 u185 u186 u187 u188 u189 : Value) :
    Code.wp Tryz.prog rtBody (Exit.then K (Exit.inBlock 0 (Exit.then K2 Q))) ⟨#[.slice (some ⟨b, off, none⟩) n cap, .int .i64 (fr : Nat), .int .i64 kd, undef, undef, undef, .pointer (some ⟨w.heap.size, 0, none⟩), .pointer (some ⟨w.heap.size + 1, 0, none⟩), .int .i64 2, .bool sl, .string nm, .string vl, .int .u8 q, .int .i64 i, u14, u15, u16, .int .i64 kd, .agg #[.int .i64 kd, .int .i64 0, .string ⟨#[]⟩, .slice none 0 0, .bool false, .bool false], .int .i64 (fr : Nat), u20, u21, u22, u23, u24, u25, u26, u27, u28, u29, u30, u31, u32, u33, u34, u35, u36, u37, u38, u39, u40, u41, u42, u43, u44, u45, u46, u47, u48, u49, u50, u51, u52, u53, u54, u55, u56, u57, u58, u59, u60, u61, u62, u63, u64, u65, u66, u67, u68, u69, u70, u71, u72, u73, u74, u75, u76, u77, u78, u79, u80, u81, u82, u83, u84, u85, u86, u87, u88, u89, u90, u91, u92, u93, u94, u95, u96, u97, u98, u99, u100, u101, u102, u103, u104, u105, u106, u107, u108, u109, u110, u111, u112, u113, u114, u115, u116, u117, u118, u119, u120, u121, u122, u123, u124, u125, u126, u127, u128, u129, u130, u131, u132, u133, u134, u135, u136, u137, u138, u139, u140, u141, u142, u143, u144, u145, u146, u147, u148, u149, u150, u151, u152, u153, u154, u155, u156, u157, u158, u159, u160, u161, u162, u163, u164, u165, u166, u167, u168, u169, u170, u171, u172, u173, u174, u175, u176, u177, u178, u179, u180, u181, u182, u183, u184, u185, u186, u187, u188, u189, undef, undef, undef, undef, undef, undef, undef, undef, undef, undef, undef, undef, undef, undef], []⟩ wr := by
  conv => arg 2; whnf
  unfold rtI at hJ
  obtain ⟨i0, hi0, hz0, hz1, hz2⟩ := info_parts info_rattr
  have hlt' : (i : Int) < (n : Int) := by omega
  have his : i < s.size := by have := HN.out; omega
  have hbr := HRT.out.bel
  have hzr : Lib.Bytes wr b off s := Bytes.keepAt HZ.out fun j => World.cell?_of_block (hbr.block b hbB)
  have hcell := bytes_cell hzr his
  have hi1 : (i : Int) + 1 ≤ 9223372036854775807 := by omega
  have hsl : ∀ W, (Instr.slice 22 (.slice (some ⟨b, off, none⟩) n cap) (some (.int .i64 i)) (some (.int .i64 ((i : Int) + 1))) none).run Tryz.prog W = .ok (.slice (some ⟨b, off + i, none⟩) 1 (cap - i)) W := fun W => by
    have := slice_row b off n cap i (i + 1) (by omega) (by omega) (by omega) W
    rw [show i + 1 - i = 1 by omega] at this
    simpa using this
  have hcv : (convert 22 9 (.slice (some ⟨b, off + i, none⟩) 1 (cap - i))).run Tryz.prog wr = .ok (.string (at1 s i)) wr :=
    Lib.run_convert_window (P := Tryz.prog) wr 22 5 9 Tryz.underlying22 Tryz.underlying5 Tryz.underlying9 b off s hzr i 1 (cap - i) (by omega)
  have hch : (at1 s i).size = 1 := by unfold at1; rw [ByteArray.size_extract]; omega
  have hcr := byt_nonneg s i
  have hgo := fun st' => fromT_go s kd i ⟨2, sl, nm, vl, q, tn, at_⟩ st' his
  have hstop := fun st' => fromT_stop s kd i ⟨2, sl, nm, vl, q, tn, at_⟩ st' his
  rw [HRT.out.go] at hgo hstop
  generalize at1 s i = ch at *
  generalize byt s i = c at *
  have HGO := hid hgo
  have HSTOP := hid hstop
  have hlow := fun W => rlower_any ch (by omega) W
  have HLOW := hid hlow
  have HCH := hid hch
  have g2 := HRT.out.blk.cell 2
  have g3 := HRT.out.blk.cell 3
  have frg := HRT.out.blk.frozen
  simp only [rfC, List.getElem?_toArray, List.getElem?_cons_zero, List.getElem?_cons_succ] at g2 g3
  have hbl : ∀ W, Calls Tryz.prog 69 #[.int .u8 c] W fun e w' => e = .returned (.bool (blankB c)) ∧ w' = W := fun W => refblank_any c W
  have HBL := hid hbl
  clear hbr hzr hgo hstop hlow hch hbl hcr
  have tsz := HRT.out.sz
  simp only at tsz
  have TSZ := hid tsz
  clear tsz
  by_cases h62 : c = 62
  · subst h62
    rw [show blankB 62 = false from rfl] at HBL
    have HE := hid (HSTOP.out ⟨1, false, nm, vl, q, tn, (at_ ++ [(nm, ⟨#[]⟩)])⟩ (by unfold stepT; first | (simp; done) | simp [show blankB 62 = false from rfl]))
    have c0 := HRT.out.blk.cell 0
    have r0 := HRT.out.res.cell 0
    have c1 := HRT.out.blk.cell 1
    have r1 := HRT.out.res.cell 1
    have c2 := HRT.out.blk.cell 2
    have r2 := HRT.out.res.cell 2
    have c3 := HRT.out.blk.cell 3
    have r3 := HRT.out.res.cell 3
    have c4 := HRT.out.blk.cell 4
    have r4 := HRT.out.res.cell 4
    have c5 := HRT.out.blk.cell 5
    have r5 := HRT.out.res.cell 5
    have frr := HRT.out.res.frozen
    simp only [rfC, tag0, List.getElem?_toArray, List.getElem?_cons_zero, List.getElem?_cons_succ] at c0 c1 c2 c3 c4 c5 r0 r1 r2 r3 r4 r5
    have hvs := owns_slice HRT.out.own
    obtain ⟨A0, cp0, rfl⟩ := hvs
    clear c0 c1 c2 c3 c4 c5 r0 r1 r2 r3 r4 r5 frr
    go_wp2_with (first | (go_at_call 69; refine (HBL.out _).mono ?_; rintro e w' ⟨rfl, hw'⟩; obtain rfl : wr = w' := hw'.symm) | (at_builtin; go_must (refine wpList_append_any _ rfl (.tmp 92) (.tmp 95) 78 rfl (w.heap.size + 2) 162 i0 (.agg #[.string ⟨#[]⟩, .string ⟨#[]⟩]) 2 32 Tryz.underlying78 hi0 hz0 hz1 hz2 rfl (by decide) _ at_.length (atCells at_) rfl (HRT.out.own.alloc _) _ (some ⟨wr.heap.size, 0, none⟩) 1 1 [.string nm, .string ⟨#[]⟩] rfl (reads_blk2 (Blk.new wr _ _)) (by simp [Value.oneCell']) (by have := TSZ.out; unfold maxLen; omega) (by have := TSZ.out; omega) (by have := HRT.out.blk.lt; simp; omega) ?_); intro v' w2 ho2 hg2 hl2; obtain ⟨A2, c2, rfl⟩ := owns_slice ho2; have hv2 := own_ge HRT.out.own; have hblk2 := (HRT.out.blk.alloc _).grown hg2 (fun e => by have := hv2 _ e.symm; omega); have hres2 := (HRT.out.res.alloc _).grown hg2 (fun e => by have := hv2 _ e.symm; omega); have k0 := hblk2.cell 0; have j0 := hres2.cell 0; have k1 := hblk2.cell 1; have j1 := hres2.cell 1; have k2 := hblk2.cell 2; have j2 := hres2.cell 2; have k3 := hblk2.cell 3; have j3 := hres2.cell 3; have k4 := hblk2.cell 4; have j4 := hres2.cell 4; have k5 := hblk2.cell 5; have j5 := hres2.cell 5; have frk := hblk2.frozen; have frj := hres2.frozen; simp only [rfC, tag0, List.getElem?_toArray, List.getElem?_cons_zero, List.getElem?_cons_succ] at k0 k1 k2 k3 k4 k5 j0 j1 j2 j3 j4 j5; have HO2 := hid ho2; have HG2 := hid hg2; clear ho2 hg2 hl2 hv2 hblk2 hres2))
    have HFIN := hid ((HRT.out.app (k' := 1) (sl' := false) (nm' := nm) (vl' := vl) HO2.out HG2.out rfl (by have := TSZ.out; have := HCH.out; first | exact Nat.zero_le _ | omega | (rw [ByteArray.size_append]; omega) | (rw [lowerB_size]; omega) | (rw [ByteArray.size_append, lowerB_size]; omega)) (by have := TSZ.out; have := HCH.out; first | exact Nat.zero_le _ | omega | (rw [ByteArray.size_append]; omega) | (rw [lowerB_size]; omega) | (rw [ByteArray.size_append, lowerB_size]; omega))).ret (i + 1) false ⟨kd, i + 1, tn, (at_ ++ [(nm, ⟨#[]⟩)]), false, true⟩ rfl)
    (try simp only [Exit.inBlock, Exit.then])
    refine HQR.out _ _ (bodyPost_ret (results_cell_row rfl _ _ w.heap.size _ _ _ _ rfl HFIN.out.1 Tryz.underlying80 rfl (by kernel_rfl)) rfl ?_)
    unfold rtR
    rw [HM.out, HE.out]
    exact ⟨_, rfl, HFIN.out.2.1, HFIN.out.2.2⟩
  by_cases h61 : c = 61
  · subst h61
    rw [show blankB 61 = false from rfl] at HBL
    have HE := hid (HGO.out ⟨4, sl, nm, vl, q, tn, at_⟩ (by unfold stepT; first | (simp; done) | simp [show blankB 61 = false from rfl]))
    go_wp2_with (first | (go_at_call 69; refine (HBL.out _).mono ?_; rintro e w' ⟨rfl, hw'⟩; obtain rfl : wr = w' := hw'.symm))
    go_roundg (n - (i + 1))
    case measure => omega
    case rel => exact ⟨i + 1, 4, 4, sl, nm, vl, q, tn, at_, v, rfl, rfl, rfl, rfl, rfl, rfl, rfl, by omega, Nat.le_refl _, by decide, HRT.out.same HE.out (by have := TSZ.out; have := HCH.out; first | exact Nat.zero_le _ | omega | (rw [ByteArray.size_append]; omega) | (rw [lowerB_size]; omega) | (rw [ByteArray.size_append, lowerB_size]; omega)) (by have := TSZ.out; have := HCH.out; first | exact Nat.zero_le _ | omega | (rw [ByteArray.size_append]; omega) | (rw [lowerB_size]; omega) | (rw [ByteArray.size_append, lowerB_size]; omega))⟩
  by_cases h47 : c = 47
  · subst h47
    rw [show blankB 47 = false from rfl] at HBL
    have HE := hid (HGO.out ⟨1, true, nm, vl, q, tn, (at_ ++ [(nm, ⟨#[]⟩)])⟩ (by unfold stepT; first | (simp; done) | simp [show blankB 47 = false from rfl]))
    go_wp2_with (first | (go_at_call 69; refine (HBL.out _).mono ?_; rintro e w' ⟨rfl, hw'⟩; obtain rfl : wr = w' := hw'.symm) | (go_at_call 68; refine (HLOW.out _).mono ?_; rintro e w' ⟨rfl, hb'⟩) | (at_builtin; go_must (refine wpList_append_any _ rfl (.tmp 92) (.tmp 95) 78 rfl (w.heap.size + 2) 162 i0 (.agg #[.string ⟨#[]⟩, .string ⟨#[]⟩]) 2 32 Tryz.underlying78 hi0 hz0 hz1 hz2 rfl (by decide) v at_.length (atCells at_) rfl (HRT.out.own.alloc _) _ (some ⟨wr.heap.size, 0, none⟩) 1 1 [.string nm, .string ⟨#[]⟩] rfl (reads_blk2 (Blk.new wr _ _)) (by simp [Value.oneCell']) (by have := TSZ.out; unfold maxLen; omega) (by have := TSZ.out; omega) (by have := HRT.out.blk.lt; simp; omega) ?_); intro v' w2 ho2 hg2 hl2; obtain ⟨A2, c2, rfl⟩ := owns_slice ho2; have hv2 := own_ge HRT.out.own; have hblk2 := (HRT.out.blk.alloc _).grown hg2 (fun e => by have := hv2 _ e.symm; omega); have k3 := hblk2.cell 3; have frk := hblk2.frozen; simp only [rfC, List.getElem?_toArray, List.getElem?_cons_zero, List.getElem?_cons_succ] at k3; have HO2 := hid ho2; have HG2 := hid hg2; clear ho2 hg2 hl2 hv2 hblk2))
    go_roundg (n - (i + 1))
    case measure => omega
    case rel => exact ⟨i + 1, 1, 1, true, nm, vl, q, tn, (at_ ++ [(nm, ⟨#[]⟩)]), _, rfl, rfl, rfl, rfl, rfl, rfl, rfl, by omega, Nat.le_refl _, by decide, HRT.out.app HO2.out HG2.out HE.out (by have := TSZ.out; have := HCH.out; first | exact Nat.zero_le _ | omega | (rw [ByteArray.size_append]; omega) | (rw [lowerB_size]; omega) | (rw [ByteArray.size_append, lowerB_size]; omega)) (by have := TSZ.out; have := HCH.out; first | exact Nat.zero_le _ | omega | (rw [ByteArray.size_append]; omega) | (rw [lowerB_size]; omega) | (rw [ByteArray.size_append, lowerB_size]; omega))⟩
  cases hblc : blankB c
  case true =>
    rw [hblc] at HBL
    have nQ : c ≠ 61 := h61
    have bQ : (c == 61) = false := by simpa using nQ
    have iQ : (c != 61) = true := by simpa using nQ
    have nS : c ≠ 47 := h47
    have bS : (c == 47) = false := by simpa using nS
    have iS : (c != 47) = true := by simpa using nS
    have nE : c ≠ 62 := h62
    have bE : (c == 62) = false := by simpa using nE
    have iE : (c != 62) = true := by simpa using nE
    have HE := hid (HGO.out ⟨3, sl, nm, vl, q, tn, at_⟩ (by unfold stepT; first | (simp; done) | (simp [hblc]; done) | (simp [hblc, nQ]; done) | (simp [hblc, nQ, nS]; done) | simp [hblc, nQ, nS, nE]))
    clear nQ nS nE hblc h62 h61 h47
    go_wp2_with (first | (go_at_call 69; refine (HBL.out _).mono ?_; rintro e w' ⟨rfl, hw'⟩; obtain rfl : wr = w' := hw'.symm))
    go_roundg (n - (i + 1))
    case measure => omega
    case rel => exact ⟨i + 1, 3, 3, sl, nm, vl, q, tn, at_, v, rfl, rfl, rfl, rfl, rfl, rfl, rfl, by omega, Nat.le_refl _, by decide, HRT.out.same HE.out (by have := TSZ.out; have := HCH.out; first | exact Nat.zero_le _ | omega | (rw [ByteArray.size_append]; omega) | (rw [lowerB_size]; omega) | (rw [ByteArray.size_append, lowerB_size]; omega)) (by have := TSZ.out; have := HCH.out; first | exact Nat.zero_le _ | omega | (rw [ByteArray.size_append]; omega) | (rw [lowerB_size]; omega) | (rw [ByteArray.size_append, lowerB_size]; omega))⟩
  case false =>
    rw [hblc] at HBL
    have nQ : c ≠ 61 := h61
    have bQ : (c == 61) = false := by simpa using nQ
    have iQ : (c != 61) = true := by simpa using nQ
    have nS : c ≠ 47 := h47
    have bS : (c == 47) = false := by simpa using nS
    have iS : (c != 47) = true := by simpa using nS
    have nE : c ≠ 62 := h62
    have bE : (c == 62) = false := by simpa using nE
    have iE : (c != 62) = true := by simpa using nE
    have HE := hid (HGO.out ⟨2, sl, (nm ++ lowerB ch), vl, q, tn, at_⟩ (by unfold stepT; first | (simp; done) | (simp [hblc]; done) | (simp [hblc, nQ]; done) | (simp [hblc, nQ, nS]; done) | simp [hblc, nQ, nS, nE]))
    have hlen : ¬ (nm.size + (lowerB ch).size > 9223372036854775807) := by rw [lowerB_size, HCH.out]; have := TSZ.out.2.1; omega
    clear nQ nS nE hblc h62 h61 h47
    skip
    go_wp2_with (first | (go_at_call 69; refine (HBL.out _).mono ?_; rintro e w' ⟨rfl, hw'⟩; obtain rfl : wr = w' := hw'.symm) | (go_at_call 68; refine (HLOW.out _).mono ?_; rintro e w' ⟨rfl, hb'⟩))
    go_roundg (n - (i + 1))
    case measure => omega
    case rel => exact ⟨i + 1, 2, 2, sl, (nm ++ lowerB ch), vl, q, tn, at_, v, rfl, rfl, rfl, rfl, rfl, rfl, rfl, by omega, Nat.le_refl _, by decide, (HRT.out.grow hb').same HE.out (by have := TSZ.out; have := HCH.out; first | exact Nat.zero_le _ | omega | (rw [ByteArray.size_append]; omega) | (rw [lowerB_size]; omega) | (rw [ByteArray.size_append, lowerB_size]; omega)) (by have := TSZ.out; have := HCH.out; first | exact Nat.zero_le _ | omega | (rw [ByteArray.size_append]; omega) | (rw [lowerB_size]; omega) | (rw [ByteArray.size_append, lowerB_size]; omega))⟩

end Go.Proofs.YtpnbkecchfhimaaGreatDoor

/- out of TagRT4 -/
namespace Go.Proofs.YtpnbkecchfhimaaGreatDoor
set_option maxRecDepth 100000
open Go.RowKit
open Go.Lib (hid)
set_option linter.unusedVariables false
set_option maxRecDepth 1000000 in
set_option maxHeartbeats 40000000 in
theorem rt_case3 (b off n cap fr : Nat) (kd : Int) (s : ByteArray) (hi : fr ≤ n) (hcap : n ≤ cap) (hc63 : cap ≤ 9223372036854775807)
    (hm : n ≤ 1048576) (w : World) (hbB : b < w.heap.size) (HZ : Hid (Lib.Bytes w b off s)) (HN : Hid (n = s.size)) (M : Mk) (HM : Hid (refNamed s fr kd = M))
    (gk : Nat) (wr : World) (J : Nat → Act → World → Prop) (K : Act → World → Prop) (K2 : Act → World → Prop) (Q : Exit → Act → World → Prop)
    (hJ : ∀ k' a' w', rtI b off n cap fr kd s w M k' a' w' → J k' a' w') (hK : ∀ a' w', Handed J gk a' w' → K a' w')
    (HQR : Hid (∀ a' w', bodyPost Tryz.prog Tryz.f73 (rtR s fr kd w) .ret a' w' → Q .ret a' w'))
    (i : Nat) (sl : Bool) (nm vl : ByteArray) (q : Int) (tn : ByteArray) (at_ : List (ByteArray × ByteArray)) (v : Value)
    (hin : i ≤ n) (hg : n - i ≤ gk) (hlt : i < n) (HRT : Hid (RT s w wr kd i ⟨3, sl, nm, vl, q, tn, at_⟩ v M))
    (u14 u15 u16 u20 u21 u22 u23 u24 u25 u26 u27 u28 u29 u30 u31 u32 u33 u34 u35 u36 u37 u38 u39 u40 u41 u42 u43 u44 u45 u46 u47 u48 u49 u50 u51 u52 u53 u54 u55 u56 u57 u58 u59 u60 u61 u62 u63 u64 u65 u66 u67 u68 u69 u70 u71 u72 u73 u74 u75 u76 u77 u78 u79 u80 u81 u82 u83 u84 u85 u86 u87 u88 u89 u90 u91 u92 u93 u94 u95 u96 u97 u98 u99 u100 u101 u102 u103 u104 u105 u106 u107 u108 u109 u110 u111 u112 u113 u114 u115 u116 u117 u118 u119 u120 u121 u122 u123 u124 u125 u126 u127 u128 u129 u130 u131 u132 u133 u134 u135 u136 u137 u138 u139 u140 u141 u142 u143 u144 u145 u146 u147 u148 u149 u150 u151 u152 u153 u154 u155 u156 u157 u158 u159 u160 u161 u162 u163 u164 u165 u166 u167 u168 u169 u170 u171 u172 u173 u174 u175 u176 u177 u178 u179 u180 u181 u182 u183 u184 u185 u186 u187 u188 u189 : Value) :
    Code.wp Tryz.prog rtBody (Exit.then K (Exit.inBlock 0 (Exit.then K2 Q))) ⟨#[.slice (some ⟨b, off, none⟩) n cap, .int .i64 (fr : Nat), .int .i64 kd, undef, undef, undef, .pointer (some ⟨w.heap.size, 0, none⟩), .pointer (some ⟨w.heap.size + 1, 0, none⟩), .int .i64 3, .bool sl, .string nm, .string vl, .int .u8 q, .int .i64 i, u14, u15, u16, .int .i64 kd, .agg #[.int .i64 kd, .int .i64 0, .string ⟨#[]⟩, .slice none 0 0, .bool false, .bool false], .int .i64 (fr : Nat), u20, u21, u22, u23, u24, u25, u26, u27, u28, u29, u30, u31, u32, u33, u34, u35, u36, u37, u38, u39, u40, u41, u42, u43, u44, u45, u46, u47, u48, u49, u50, u51, u52, u53, u54, u55, u56, u57, u58, u59, u60, u61, u62, u63, u64, u65, u66, u67, u68, u69, u70, u71, u72, u73, u74, u75, u76, u77, u78, u79, u80, u81, u82, u83, u84, u85, u86, u87, u88, u89, u90, u91, u92, u93, u94, u95, u96, u97, u98, u99, u100, u101, u102, u103, u104, u105, u106, u107, u108, u109, u110, u111, u112, u113, u114, u115, u116, u117, u118, u119, u120, u121, u122, u123, u124, u125, u126, u127, u128, u129, u130, u131, u132, u133, u134, u135, u136, u137, u138, u139, u140, u141, u142, u143, u144, u145, u146, u147, u148, u149, u150, u151, u152, u153, u154, u155, u156, u157, u158, u159, u160, u161, u162, u163, u164, u165, u166, u167, u168, u169, u170, u171, u172, u173, u174, u175, u176, u177, u178, u179, u180, u181, u182, u183, u184, u185, u186, u187, u188, u189, undef, undef, undef, undef, undef, undef, undef, undef, undef, undef, undef, undef, undef, undef], []⟩ wr := by
  conv => arg 2; whnf
  unfold rtI at hJ
  obtain ⟨i0, hi0, hz0, hz1, hz2⟩ := info_parts info_rattr
  have hlt' : (i : Int) < (n : Int) := by omega
  have his : i < s.size := by have := HN.out; omega
  have hbr := HRT.out.bel
  have hzr : Lib.Bytes wr b off s := Bytes.keepAt HZ.out fun j => World.cell?_of_block (hbr.block b hbB)
  have hcell := bytes_cell hzr his
  have hi1 : (i : Int) + 1 ≤ 9223372036854775807 := by omega
  have hsl : ∀ W, (Instr.slice 22 (.slice (some ⟨b, off, none⟩) n cap) (some (.int .i64 i)) (some (.int .i64 ((i : Int) + 1))) none).run Tryz.prog W = .ok (.slice (some ⟨b, off + i, none⟩) 1 (cap - i)) W := fun W => by
    have := slice_row b off n cap i (i + 1) (by omega) (by omega) (by omega) W
    rw [show i + 1 - i = 1 by omega] at this
    simpa using this
  have hcv : (convert 22 9 (.slice (some ⟨b, off + i, none⟩) 1 (cap - i))).run Tryz.prog wr = .ok (.string (at1 s i)) wr :=
    Lib.run_convert_window (P := Tryz.prog) wr 22 5 9 Tryz.underlying22 Tryz.underlying5 Tryz.underlying9 b off s hzr i 1 (cap - i) (by omega)
  have hch : (at1 s i).size = 1 := by unfold at1; rw [ByteArray.size_extract]; omega
  have hcr := byt_nonneg s i
  have hgo := fun st' => fromT_go s kd i ⟨3, sl, nm, vl, q, tn, at_⟩ st' his
  have hstop := fun st' => fromT_stop s kd i ⟨3, sl, nm, vl, q, tn, at_⟩ st' his
  rw [HRT.out.go] at hgo hstop
  generalize at1 s i = ch at *
  generalize byt s i = c at *
  have HGO := hid hgo
  have HSTOP := hid hstop
  have hlow := fun W => rlower_any ch (by omega) W
  have HLOW := hid hlow
  have HCH := hid hch
  have g2 := HRT.out.blk.cell 2
  have g3 := HRT.out.blk.cell 3
  have frg := HRT.out.blk.frozen
  simp only [rfC, List.getElem?_toArray, List.getElem?_cons_zero, List.getElem?_cons_succ] at g2 g3
  have hbl : ∀ W, Calls Tryz.prog 69 #[.int .u8 c] W fun e w' => e = .returned (.bool (blankB c)) ∧ w' = W := fun W => refblank_any c W
  have HBL := hid hbl
  clear hbr hzr hgo hstop hlow hch hbl hcr
  have tsz := HRT.out.sz
  simp only at tsz
  have TSZ := hid tsz
  clear tsz
  by_cases h62 : c = 62
  · subst h62
    rw [show blankB 62 = false from rfl] at HBL
    have HE := hid (HSTOP.out ⟨1, false, nm, vl, q, tn, (at_ ++ [(nm, ⟨#[]⟩)])⟩ (by unfold stepT; first | (simp; done) | simp [show blankB 62 = false from rfl]))
    have c0 := HRT.out.blk.cell 0
    have r0 := HRT.out.res.cell 0
    have c1 := HRT.out.blk.cell 1
    have r1 := HRT.out.res.cell 1
    have c2 := HRT.out.blk.cell 2
    have r2 := HRT.out.res.cell 2
    have c3 := HRT.out.blk.cell 3
    have r3 := HRT.out.res.cell 3
    have c4 := HRT.out.blk.cell 4
    have r4 := HRT.out.res.cell 4
    have c5 := HRT.out.blk.cell 5
    have r5 := HRT.out.res.cell 5
    have frr := HRT.out.res.frozen
    simp only [rfC, tag0, List.getElem?_toArray, List.getElem?_cons_zero, List.getElem?_cons_succ] at c0 c1 c2 c3 c4 c5 r0 r1 r2 r3 r4 r5
    have hvs := owns_slice HRT.out.own
    obtain ⟨A0, cp0, rfl⟩ := hvs
    clear c0 c1 c2 c3 c4 c5 r0 r1 r2 r3 r4 r5 frr
    go_wp2_with (first | (go_at_call 69; refine (HBL.out _).mono ?_; rintro e w' ⟨rfl, hw'⟩; obtain rfl : wr = w' := hw'.symm) | (at_builtin; go_must (refine wpList_append_any _ rfl (.tmp 103) (.tmp 106) 78 rfl (w.heap.size + 2) 162 i0 (.agg #[.string ⟨#[]⟩, .string ⟨#[]⟩]) 2 32 Tryz.underlying78 hi0 hz0 hz1 hz2 rfl (by decide) _ at_.length (atCells at_) rfl (HRT.out.own.alloc _) _ (some ⟨wr.heap.size, 0, none⟩) 1 1 [.string nm, .string ⟨#[]⟩] rfl (reads_blk2 (Blk.new wr _ _)) (by simp [Value.oneCell']) (by have := TSZ.out; unfold maxLen; omega) (by have := TSZ.out; omega) (by have := HRT.out.blk.lt; simp; omega) ?_); intro v' w2 ho2 hg2 hl2; obtain ⟨A2, c2, rfl⟩ := owns_slice ho2; have hv2 := own_ge HRT.out.own; have hblk2 := (HRT.out.blk.alloc _).grown hg2 (fun e => by have := hv2 _ e.symm; omega); have hres2 := (HRT.out.res.alloc _).grown hg2 (fun e => by have := hv2 _ e.symm; omega); have k0 := hblk2.cell 0; have j0 := hres2.cell 0; have k1 := hblk2.cell 1; have j1 := hres2.cell 1; have k2 := hblk2.cell 2; have j2 := hres2.cell 2; have k3 := hblk2.cell 3; have j3 := hres2.cell 3; have k4 := hblk2.cell 4; have j4 := hres2.cell 4; have k5 := hblk2.cell 5; have j5 := hres2.cell 5; have frk := hblk2.frozen; have frj := hres2.frozen; simp only [rfC, tag0, List.getElem?_toArray, List.getElem?_cons_zero, List.getElem?_cons_succ] at k0 k1 k2 k3 k4 k5 j0 j1 j2 j3 j4 j5; have HO2 := hid ho2; have HG2 := hid hg2; clear ho2 hg2 hl2 hv2 hblk2 hres2))
    have HFIN := hid ((HRT.out.app (k' := 1) (sl' := false) (nm' := nm) (vl' := vl) HO2.out HG2.out rfl (by have := TSZ.out; have := HCH.out; first | exact Nat.zero_le _ | omega | (rw [ByteArray.size_append]; omega) | (rw [lowerB_size]; omega) | (rw [ByteArray.size_append, lowerB_size]; omega)) (by have := TSZ.out; have := HCH.out; first | exact Nat.zero_le _ | omega | (rw [ByteArray.size_append]; omega) | (rw [lowerB_size]; omega) | (rw [ByteArray.size_append, lowerB_size]; omega))).ret (i + 1) false ⟨kd, i + 1, tn, (at_ ++ [(nm, ⟨#[]⟩)]), false, true⟩ rfl)
    (try simp only [Exit.inBlock, Exit.then])
    refine HQR.out _ _ (bodyPost_ret (results_cell_row rfl _ _ w.heap.size _ _ _ _ rfl HFIN.out.1 Tryz.underlying80 rfl (by kernel_rfl)) rfl ?_)
    unfold rtR
    rw [HM.out, HE.out]
    exact ⟨_, rfl, HFIN.out.2.1, HFIN.out.2.2⟩
  by_cases h61 : c = 61
  · subst h61
    rw [show blankB 61 = false from rfl] at HBL
    have HE := hid (HGO.out ⟨4, sl, nm, vl, q, tn, at_⟩ (by unfold stepT; first | (simp; done) | simp [show blankB 61 = false from rfl]))
    go_wp2_with (first | (go_at_call 69; refine (HBL.out _).mono ?_; rintro e w' ⟨rfl, hw'⟩; obtain rfl : wr = w' := hw'.symm))
    go_roundg (n - (i + 1))
    case measure => omega
    case rel => exact ⟨i + 1, 4, 4, sl, nm, vl, q, tn, at_, v, rfl, rfl, rfl, rfl, rfl, rfl, rfl, by omega, Nat.le_refl _, by decide, HRT.out.same HE.out (by have := TSZ.out; have := HCH.out; first | exact Nat.zero_le _ | omega | (rw [ByteArray.size_append]; omega) | (rw [lowerB_size]; omega) | (rw [ByteArray.size_append, lowerB_size]; omega)) (by have := TSZ.out; have := HCH.out; first | exact Nat.zero_le _ | omega | (rw [ByteArray.size_append]; omega) | (rw [lowerB_size]; omega) | (rw [ByteArray.size_append, lowerB_size]; omega))⟩
  by_cases h47 : c = 47
  · subst h47
    rw [show blankB 47 = false from rfl] at HBL
    have HE := hid (HGO.out ⟨1, true, nm, vl, q, tn, (at_ ++ [(nm, ⟨#[]⟩)])⟩ (by unfold stepT; first | (simp; done) | simp [show blankB 47 = false from rfl]))
    go_wp2_with (first | (go_at_call 69; refine (HBL.out _).mono ?_; rintro e w' ⟨rfl, hw'⟩; obtain rfl : wr = w' := hw'.symm) | (go_at_call 68; refine (HLOW.out _).mono ?_; rintro e w' ⟨rfl, hb'⟩) | (at_builtin; go_must (refine wpList_append_any _ rfl (.tmp 103) (.tmp 106) 78 rfl (w.heap.size + 2) 162 i0 (.agg #[.string ⟨#[]⟩, .string ⟨#[]⟩]) 2 32 Tryz.underlying78 hi0 hz0 hz1 hz2 rfl (by decide) v at_.length (atCells at_) rfl (HRT.out.own.alloc _) _ (some ⟨wr.heap.size, 0, none⟩) 1 1 [.string nm, .string ⟨#[]⟩] rfl (reads_blk2 (Blk.new wr _ _)) (by simp [Value.oneCell']) (by have := TSZ.out; unfold maxLen; omega) (by have := TSZ.out; omega) (by have := HRT.out.blk.lt; simp; omega) ?_); intro v' w2 ho2 hg2 hl2; obtain ⟨A2, c2, rfl⟩ := owns_slice ho2; have hv2 := own_ge HRT.out.own; have hblk2 := (HRT.out.blk.alloc _).grown hg2 (fun e => by have := hv2 _ e.symm; omega); have k3 := hblk2.cell 3; have frk := hblk2.frozen; simp only [rfC, List.getElem?_toArray, List.getElem?_cons_zero, List.getElem?_cons_succ] at k3; have HO2 := hid ho2; have HG2 := hid hg2; clear ho2 hg2 hl2 hv2 hblk2))
    go_roundg (n - (i + 1))
    case measure => omega
    case rel => exact ⟨i + 1, 1, 1, true, nm, vl, q, tn, (at_ ++ [(nm, ⟨#[]⟩)]), _, rfl, rfl, rfl, rfl, rfl, rfl, rfl, by omega, Nat.le_refl _, by decide, HRT.out.app HO2.out HG2.out HE.out (by have := TSZ.out; have := HCH.out; first | exact Nat.zero_le _ | omega | (rw [ByteArray.size_append]; omega) | (rw [lowerB_size]; omega) | (rw [ByteArray.size_append, lowerB_size]; omega)) (by have := TSZ.out; have := HCH.out; first | exact Nat.zero_le _ | omega | (rw [ByteArray.size_append]; omega) | (rw [lowerB_size]; omega) | (rw [ByteArray.size_append, lowerB_size]; omega))⟩
  cases hblc : blankB c
  case true =>
    rw [hblc] at HBL
    have nQ : c ≠ 61 := h61
    have bQ : (c == 61) = false := by simpa using nQ
    have iQ : (c != 61) = true := by simpa using nQ
    have nS : c ≠ 47 := h47
    have bS : (c == 47) = false := by simpa using nS
    have iS : (c != 47) = true := by simpa using nS
    have nE : c ≠ 62 := h62
    have bE : (c == 62) = false := by simpa using nE
    have iE : (c != 62) = true := by simpa using nE
    have HE := hid (HGO.out ⟨3, sl, nm, vl, q, tn, at_⟩ (by unfold stepT; first | (simp; done) | (simp [hblc]; done) | (simp [hblc, nQ]; done) | (simp [hblc, nQ, nS]; done) | simp [hblc, nQ, nS, nE]))
    clear nQ nS nE hblc h62 h61 h47
    go_wp2_with (first | (go_at_call 69; refine (HBL.out _).mono ?_; rintro e w' ⟨rfl, hw'⟩; obtain rfl : wr = w' := hw'.symm))
    go_roundg (n - (i + 1))
    case measure => omega
    case rel => exact ⟨i + 1, 3, 3, sl, nm, vl, q, tn, at_, v, rfl, rfl, rfl, rfl, rfl, rfl, rfl, by omega, Nat.le_refl _, by decide, HRT.out.same HE.out (by have := TSZ.out; have := HCH.out; first | exact Nat.zero_le _ | omega | (rw [ByteArray.size_append]; omega) | (rw [lowerB_size]; omega) | (rw [ByteArray.size_append, lowerB_size]; omega)) (by have := TSZ.out; have := HCH.out; first | exact Nat.zero_le _ | omega | (rw [ByteArray.size_append]; omega) | (rw [lowerB_size]; omega) | (rw [ByteArray.size_append, lowerB_size]; omega))⟩
  case false =>
    rw [hblc] at HBL
    have nQ : c ≠ 61 := h61
    have bQ : (c == 61) = false := by simpa using nQ
    have iQ : (c != 61) = true := by simpa using nQ
    have nS : c ≠ 47 := h47
    have bS : (c == 47) = false := by simpa using nS
    have iS : (c != 47) = true := by simpa using nS
    have nE : c ≠ 62 := h62
    have bE : (c == 62) = false := by simpa using nE
    have iE : (c != 62) = true := by simpa using nE
    have HE := hid (HGO.out ⟨2, false, (lowerB ch), ⟨#[]⟩, q, tn, (at_ ++ [(nm, ⟨#[]⟩)])⟩ (by unfold stepT; first | (simp; done) | (simp [hblc]; done) | (simp [hblc, nQ]; done) | (simp [hblc, nQ, nS]; done) | simp [hblc, nQ, nS, nE]))
    clear nQ nS nE hblc h62 h61 h47
    skip
    go_wp2_with (first | (go_at_call 69; refine (HBL.out _).mono ?_; rintro e w' ⟨rfl, hw'⟩; obtain rfl : wr = w' := hw'.symm) | (go_at_call 68; refine (HLOW.out _).mono ?_; rintro e w' ⟨rfl, hb'⟩) | (at_builtin; go_must (refine wpList_append_any _ rfl (.tmp 103) (.tmp 106) 78 rfl (w.heap.size + 2) 162 i0 (.agg #[.string ⟨#[]⟩, .string ⟨#[]⟩]) 2 32 Tryz.underlying78 hi0 hz0 hz1 hz2 rfl (by decide) v at_.length (atCells at_) rfl (HRT.out.own.alloc _) _ (some ⟨wr.heap.size, 0, none⟩) 1 1 [.string nm, .string ⟨#[]⟩] rfl (reads_blk2 (Blk.new wr _ _)) (by simp [Value.oneCell']) (by have := TSZ.out; unfold maxLen; omega) (by have := TSZ.out; omega) (by have := HRT.out.blk.lt; simp; omega) ?_); intro v' w2 ho2 hg2 hl2; obtain ⟨A2, c2, rfl⟩ := owns_slice ho2; have hv2 := own_ge HRT.out.own; have hblk2 := (HRT.out.blk.alloc _).grown hg2 (fun e => by have := hv2 _ e.symm; omega); have k3 := hblk2.cell 3; have frk := hblk2.frozen; simp only [rfC, List.getElem?_toArray, List.getElem?_cons_zero, List.getElem?_cons_succ] at k3; have HO2 := hid ho2; have HG2 := hid hg2; clear ho2 hg2 hl2 hv2 hblk2))
    go_roundg (n - (i + 1))
    case measure => omega
    case rel => exact ⟨i + 1, 2, 2, false, (lowerB ch), ⟨#[]⟩, q, tn, (at_ ++ [(nm, ⟨#[]⟩)]), _, rfl, rfl, rfl, rfl, rfl, rfl, rfl, by omega, Nat.le_refl _, by decide, hid ((HRT.out.app HO2.out HG2.out HE.out (by have := TSZ.out; have := HCH.out; first | exact Nat.zero_le _ | omega | (rw [ByteArray.size_append]; omega) | (rw [lowerB_size]; omega) | (rw [ByteArray.size_append, lowerB_size]; omega)) (by have := TSZ.out; have := HCH.out; first | exact Nat.zero_le _ | omega | (rw [ByteArray.size_append]; omega) | (rw [lowerB_size]; omega) | (rw [ByteArray.size_append, lowerB_size]; omega))).grow hb')⟩

end Go.Proofs.YtpnbkecchfhimaaGreatDoor
