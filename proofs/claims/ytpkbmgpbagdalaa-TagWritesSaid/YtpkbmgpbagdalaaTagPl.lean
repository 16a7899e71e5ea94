/- Chapter 18: a mark and what stands behind it: plain. -/
import Derived.Test.YtpkbmgpbagdalaaTagRead
namespace Go.Proofs.Ytpkbmgpbagdalaa
set_option linter.unusedVariables false

/-- s begins s'. -/
def Pre (s s' : ByteArray) : Prop := s.size ≤ s'.size ∧ ∀ i, i < s.size → byt s' i = byt s i

theorem ext_byt {x y : ByteArray} (hs : x.size = y.size) (h : ∀ i, i < x.size → byt x i = byt y i) : x = y := by
  apply ByteArray.ext
  apply Array.ext
  · exact hs
  · intro i h1 h2
    have := h i h1
    unfold byt at this
    simp only [Array.getD_eq_getD_getElem?, Array.getElem?_eq_getElem h1, Array.getElem?_eq_getElem h2, Option.getD_some] at this
    exact UInt8.toNat_inj.1 (by omega)
theorem byt_extract (s : ByteArray) (i j k : Nat) (h : k < j - i) (hj : j ≤ s.size) : byt (s.extract i j) k = byt s (i + k) := by
  have hd : s.data.size = s.size := rfl
  unfold byt
  simp only [ByteArray.data_extract, Array.getD_eq_getD_getElem?, Array.getElem?_extract]
  rw [if_pos (by omega)]
theorem Pre.extract {s s' : ByteArray} (h : Pre s s') {i j : Nat} (hj : j ≤ s.size) : s'.extract i j = s.extract i j := by
  have := h.1
  apply ext_byt
  · rw [ByteArray.size_extract, ByteArray.size_extract]; omega
  · intro k hk
    rw [ByteArray.size_extract] at hk
    rw [byt_extract s' i j k (by omega) (by omega), byt_extract s i j k (by omega) hj]
    exact h.2 _ (by omega)

theorem Pre.pass {s s' : ByteArray} (h : Pre s s') (p : Int → Bool) : ∀ (f i : Nat), s.size - i = f → i ≤ s.size → (passTo p s i < s.size → passTo p s' i = passTo p s i) ∧ (passTo p s i = s.size → s.size ≤ passTo p s' i)
  | 0, i, hf, hi => by
    have : passTo p s i = i := passTo_end (by omega)
    have := passTo_ge p s' i
    exact ⟨fun h => by omega, fun _ => by omega⟩
  | f + 1, i, hf, hi => by
    have hlt : i < s.size := by omega
    have := h.1
    cases hp : p (byt s i)
    · rw [passTo_stop hlt hp, passTo_stop (by omega) (by rw [h.2 i hlt]; exact hp)]
      exact ⟨fun _ => rfl, fun h => by omega⟩
    · rw [passTo_step hlt hp, passTo_step (s := s') (by omega) (by rw [h.2 i hlt]; exact hp)]
      exact Pre.pass h p f (i + 1) (by omega) (by omega)
theorem Pre.pass_lt {s s' : ByteArray} (h : Pre s s') {p : Int → Bool} {i : Nat} (hi : i ≤ s.size) (hl : passTo p s i < s.size) : passTo p s' i = passTo p s i := (h.pass p _ i rfl hi).1 hl
theorem Pre.pass_end {s s' : ByteArray} (h : Pre s s') {p : Int → Bool} {i : Nat} (hi : i ≤ s.size) (hl : ¬ passTo p s i < s.size) : s.size ≤ passTo p s' i := (h.pass p _ i rfl hi).2 (by have := passTo_le p s hi; omega)

theorem Pre.quoted {s s' : ByteArray} (h : Pre s s') (q : Int) (i : Nat) (hi : i < s.size) :
    (quotedV q s i).2 < s.size → quotedV q s' i = quotedV q s i := by
  have h1 := passTo_le (fun c => c != q) s (i := i + 1) (by omega)
  unfold quotedV
  simp only
  intro hl
  by_cases hj : passTo (fun c => c != q) s (i + 1) < s.size
  · have := h.1
    rw [h.pass_lt (by omega) hj, if_pos hj, if_pos (by omega), h.extract h1]
  · rw [if_neg hj] at hl
    omega
theorem Pre.quoted_end {s s' : ByteArray} (h : Pre s s') (q : Int) (i : Nat) (hi : i < s.size) : s.size ≤ (quotedV q s i).2 → s.size ≤ (quotedV q s' i).2 := by
  have h1 := passTo_le (fun c => c != q) s (i := i + 1) (by omega)
  have h0 := h.1
  unfold quotedV
  simp only
  intro hl
  by_cases hj : passTo (fun c => c != q) s (i + 1) < s.size
  · rw [if_pos hj] at hl
    rw [h.pass_lt (by omega) hj, if_pos (by omega)]
    exact hl
  · have := h.pass_end (p := fun c => c != q) (i := i + 1) (by omega) hj
    split <;> omega

theorem Pre.value {s s' : ByteArray} (h : Pre s s') (i : Nat) (hi : i < s.size) : (valueV s i).2 < s.size → valueV s' i = valueV s i := by
  have h1 := passTo_le blankB s (i := i + 1) (by omega)
  have h0 := h.1
  intro hl
  by_cases hk : passTo blankB s (i + 1) < s.size
  · have e1 := h.pass_lt (by omega) hk
    unfold valueV at hl ⊢
    simp only at hl ⊢
    rw [e1, h.2 _ hk]
    by_cases hq : byt s (passTo blankB s (i + 1)) = 34 ∨ byt s (passTo blankB s (i + 1)) = 39
    · rw [if_pos ⟨hk, hq⟩] at hl
      rw [if_pos ⟨by omega, hq⟩, if_pos ⟨hk, hq⟩]
      exact h.quoted _ _ hk hl
    · rw [if_neg (fun hh => hq hh.2)] at hl
      rw [if_neg (fun hh => hq hh.2), if_neg (fun hh => hq hh.2), h.pass_lt h1 hl, h.extract (passTo_le valC s h1)]
  · unfold valueV at hl
    simp only at hl
    rw [if_neg (fun hh => hk hh.1)] at hl
    have := passTo_ge valC s (passTo blankB s (i + 1))
    simp only at hl
    omega
theorem Pre.value_end {s s' : ByteArray} (h : Pre s s') (i : Nat) (hi : i < s.size) : s.size ≤ (valueV s i).2 → s.size ≤ (valueV s' i).2 := by
  have h1 := passTo_le blankB s (i := i + 1) (by omega)
  have h0 := h.1
  intro hl
  by_cases hk : passTo blankB s (i + 1) < s.size
  · have e1 := h.pass_lt (by omega) hk
    unfold valueV at hl ⊢
    simp only at hl ⊢
    rw [e1, h.2 _ hk]
    by_cases hq : byt s (passTo blankB s (i + 1)) = 34 ∨ byt s (passTo blankB s (i + 1)) = 39
    · rw [if_pos ⟨hk, hq⟩] at hl
      rw [if_pos ⟨by omega, hq⟩]
      exact h.quoted_end _ _ hk hl
    · rw [if_neg (fun hh => hq hh.2)] at hl
      rw [if_neg (fun hh => hq hh.2)]
      exact h.pass_end h1 (by simp only at hl; omega)
  · have e1 := h.pass_end (p := blankB) (i := i + 1) (by omega) hk
    have hle : passTo blankB s' (i + 1) ≤ (valueV s' i).2 := by
      unfold valueV
      simp only
      split
      · rename_i hh
        have := quotedV_bd (byt s' (passTo blankB s' (i + 1))) s' _ hh.1
        omega
      · exact passTo_ge valC s' _
    omega

theorem Pre.attr {s s' : ByteArray} (h : Pre s s') (i : Nat) (hi : i < s.size) (hl : (attrV s i).2 < s.size) : attrV s' i = attrV s i := by
  have h1 := passTo_le attrC s (i := i + 1) (by omega)
  have h0 := h.1
  have h2 := passTo_le blankB s (i := passTo attrC s (i + 1)) h1
  unfold attrV valueAt nameEnd at hl ⊢
  simp only at hl ⊢
  by_cases hj : passTo attrC s (i + 1) < s.size
  · by_cases hk : passTo blankB s (passTo attrC s (i + 1)) < s.size
    · have e1 := h.pass_lt (by omega) hj
      have e2 := h.pass_lt h1 hk
      rw [e1, e2, h.extract h1, h.2 _ hk]
      by_cases hq : byt s (passTo blankB s (passTo attrC s (i + 1))) = 61
      · rw [if_pos ⟨hk, hq⟩] at hl
        rw [if_pos ⟨by omega, hq⟩, if_pos ⟨hk, hq⟩, h.value _ hk hl]
      · rw [if_neg (fun hh => hq hh.2), if_neg (fun hh => hq hh.2)]
    · rw [if_neg (fun hh => hk hh.1)] at hl
      simp only at hl
      omega
  · have := passTo_ge blankB s (passTo attrC s (i + 1))
    rw [if_neg (fun hh => by omega)] at hl
    simp only at hl
    omega
theorem Pre.attr_end {s s' : ByteArray} (h : Pre s s') (i : Nat) (hi : i < s.size) (hl : s.size ≤ (attrV s i).2) : s.size ≤ (attrV s' i).2 := by
  have h1 := passTo_le attrC s (i := i + 1) (by omega)
  have h0 := h.1
  have h2 := passTo_le blankB s (i := passTo attrC s (i + 1)) h1
  have hle : passTo blankB s' (passTo attrC s' (i + 1)) ≤ (attrV s' i).2 := by
    unfold attrV valueAt nameEnd
    simp only
    split
    · rename_i hh
      have := valueV_bd s' _ hh.1
      omega
    · simp
  by_cases hj : passTo attrC s (i + 1) < s.size
  · have e1 := h.pass_lt (by omega) hj
    by_cases hk : passTo blankB s (passTo attrC s (i + 1)) < s.size
    · have e2 := h.pass_lt h1 hk
      unfold attrV valueAt nameEnd at hl ⊢
      simp only at hl ⊢
      rw [e1, e2, h.2 _ hk]
      by_cases hq : byt s (passTo blankB s (passTo attrC s (i + 1))) = 61
      · rw [if_pos ⟨hk, hq⟩] at hl
        rw [if_pos ⟨by omega, hq⟩]
        exact h.value_end _ hk hl
      · rw [if_neg (fun hh => hq hh.2)] at hl
        simp only at hl
        omega
    · have e2 := h.pass_end (p := blankB) h1 hk
      rw [e1] at hle
      omega
  · have e1 := h.pass_end (p := attrC) (i := i + 1) (by omega) hj
    have := passTo_ge blankB s' (passTo attrC s' (i + 1))
    omega

theorem restGo_ge (s : ByteArray) : ∀ (f i : Nat) (acc), i ≤ s.size → i ≤ (restGo s f i acc).at_
  | 0, i, acc, hi => Nat.le_refl _
  | f + 1, i, acc, hi => by
    have h1 := passTo_ge skipC s i
    unfold restGo
    split
    · exact h1
    · split
      · simp only; omega
      · have := attrV_bd s (passTo skipC s i) (by omega)
        have := restGo_ge s f (attrV s (passTo skipC s i)).2 (acc ++ [(attrV s (passTo skipC s i)).1]) (by omega)
        omega
theorem restAt_ge (s : ByteArray) (i : Nat) (acc) (hi : i ≤ s.size) : i ≤ (restAt s i acc).at_ := restGo_ge s _ i acc hi

/-- One that is closed is the same; one that isn't is all that there is, and is no shorter with more behind. -/
theorem Pre.rest {s s' : ByteArray} (h : Pre s s') : ∀ (f i : Nat) (acc), s.size - i = f → i ≤ s.size →
    ((restAt s i acc).closed = true → restAt s' i acc = restAt s i acc ∧ (restAt s i acc).at_ ≤ s.size ∧ i < (restAt s i acc).at_) ∧
    ((restAt s i acc).closed = false → (restAt s i acc).at_ = s.size ∧ (restAt s i acc).single = false ∧ s.size ≤ (restAt s' i acc).at_) := by
  intro f
  induction f using Nat.strongRecOn with
  | ind f ih =>
    intro i acc hf hi
    have h0 := h.1
    have h1 := passTo_ge skipC s i
    have h2 := passTo_le skipC s hi
    by_cases hk : passTo skipC s i < s.size
    · have e1 := h.pass_lt hi hk
      by_cases hc : byt s (passTo skipC s i) = 62
      · have hc' : byt s' (passTo skipC s' i) = 62 := by rw [e1, h.2 _ hk]; exact hc
        rw [restAt_close s i acc hi hk hc, restAt_close s' i acc (by omega) (by omega) hc', e1, h.extract h2]
        exact ⟨fun _ => ⟨rfl, by simp only; omega, by simp only; omega⟩, fun h => by cases h⟩
      · have hc' : ¬ byt s' (passTo skipC s' i) = 62 := by rw [e1, h.2 _ hk]; exact hc
        have hbd := attrV_bd s (passTo skipC s i) hk
        rw [restAt_more s i acc hi hk hc, restAt_more s' i acc (by omega) (by omega) hc', e1]
        by_cases ha : (attrV s (passTo skipC s i)).2 < s.size
        · rw [h.attr _ hk ha]
          have := ih (s.size - (attrV s (passTo skipC s i)).2) (by omega) (attrV s (passTo skipC s i)).2 (acc ++ [(attrV s (passTo skipC s i)).1]) rfl hbd.2
          exact ⟨fun hcl => ⟨(this.1 hcl).1, (this.1 hcl).2.1, by have := (this.1 hcl).2.2; omega⟩, this.2⟩
        · have he : (attrV s (passTo skipC s i)).2 = s.size := by omega
          have hend := passTo_end (p := skipC) (s := s) (i := s.size) (Nat.le_refl _)
          rw [he, restAt_end s s.size _ (Nat.le_refl _) (by rw [hend]; exact Nat.le_refl _), hend]
          refine ⟨(fun h => by cases h), fun _ => ⟨rfl, rfl, ?_⟩⟩
          have h3 := h.attr_end _ hk (by omega)
          have h4 := attrV_bd s' (passTo skipC s i) (by omega)
          have := restAt_ge s' (attrV s' (passTo skipC s i)).2 (acc ++ [(attrV s' (passTo skipC s i)).1]) h4.2
          omega
    · rw [restAt_end s i acc hi (by omega)]
      refine ⟨(fun h => by cases h), fun _ => ⟨by simp only; omega, rfl, ?_⟩⟩
      have e1 := h.pass_end hi hk
      have hi' : i ≤ s'.size := by omega
      by_cases hk' : passTo skipC s' i < s'.size
      · by_cases hc : byt s' (passTo skipC s' i) = 62
        · rw [restAt_close s' i acc hi' hk' hc]; simp only; omega
        · rw [restAt_more s' i acc hi' hk' hc]
          have h4 := attrV_bd s' (passTo skipC s' i) hk'
          have := restAt_ge s' (attrV s' (passTo skipC s' i)).2 (acc ++ [(attrV s' (passTo skipC s' i)).1]) h4.2
          omega
      · rw [restAt_end s' i acc hi' (by omega)]; simp only; omega

/-- What TagGrows says of two marks. -/
structure Grows (s s' : ByteArray) (M M' : Mk) : Prop where
  le : M.size ≤ s.size
  same : M.closed = true → M' = M
  more : M.closed = false → M.size = s.size ∧ s.size ≤ M'.size ∧ M.single = false

theorem Pre.named {s s' : ByteArray} (h : Pre s s') (i : Nat) (kd : Int) (hi : i ≤ s.size) : Grows s s' (namedV s i kd) (namedV s' i kd) ∧ i ≤ (namedV s i kd).size := by
  have h1 := passTo_le nameC s hi
  have h0 := h.1
  have h4 := passTo_ge nameC s i
  have hr := restAt_ge s (passTo nameC s i) [] h1
  have hrest := h.rest _ (passTo nameC s i) [] rfl h1
  refine ⟨?_, by unfold namedV; simp only; omega⟩
  by_cases hj : passTo nameC s i < s.size
  · have e1 := h.pass_lt hi hj
    refine ⟨?_, ?_, ?_⟩
    · show (restAt s (passTo nameC s i) []).at_ ≤ s.size
      cases hc : (restAt s (passTo nameC s i) []).closed
      · have := (hrest.2 hc).1; omega
      · exact (hrest.1 hc).2.1
    · intro hc
      have := (hrest.1 hc).1
      unfold namedV
      simp only
      rw [e1, this, h.extract h1]
    · intro hc
      have := hrest.2 hc
      refine ⟨this.1, ?_, this.2.1⟩
      show s.size ≤ (restAt s' (passTo nameC s' i) []).at_
      rw [e1]
      exact this.2.2
  · have he : passTo nameC s i = s.size := by omega
    have hend := passTo_end (p := skipC) (s := s) (i := s.size) (Nat.le_refl _)
    have hR : restAt s (passTo nameC s i) [] = ⟨[], s.size, false, false⟩ := by
      rw [he, restAt_end s s.size _ (Nat.le_refl _) (by rw [hend]; exact Nat.le_refl _), hend]
    refine ⟨?_, ?_, ?_⟩
    · show (restAt s (passTo nameC s i) []).at_ ≤ s.size
      rw [hR]; exact Nat.le_refl _
    · intro hc
      have : (restAt s (passTo nameC s i) []).closed = true := hc
      rw [hR] at this
      cases this
    · intro _
      refine ⟨by show (restAt s (passTo nameC s i) []).at_ = _; rw [hR], ?_, by show (restAt s (passTo nameC s i) []).single = _; rw [hR]⟩
      have e1 := h.pass_end hi hj
      have e2 := passTo_le nameC s' (i := i) (by omega)
      have := restAt_ge s' (passTo nameC s' i) [] e2
      show s.size ≤ (restAt s' (passTo nameC s' i) []).at_
      omega

theorem Pre.occ {s s' : ByteArray} (h : Pre s s') (e : ByteArray) (i : Nat) (hi : i + e.size ≤ s.size) : occ s' e i = occ s e i := by
  unfold Go.Proofs.Ytpkbmgpbagdalaa.occ
  rw [h.extract hi]
theorem Pre.up {s s' : ByteArray} (h : Pre s s') (e : ByteArray) : ∀ (f f' i : Nat), s.size + 1 - i ≤ f → s'.size + 1 - i ≤ f' →
    (∀ z, upGo s e f i = some z → upGo s' e f' i = some z ∧ z ≤ s.size ∧ i ≤ z) ∧ (upGo s e f i = none → ∀ z, upGo s' e f' i = some z → s.size < z)
  | 0, f', i, hf, hf' => by
    refine ⟨(fun z hz => by cases hz), fun _ z hz => ?_⟩
    have : ∀ f' i z, upGo s' e f' i = some z → i ≤ z := by
      intro f'
      induction f' with
      | zero => intro i z h; cases h
      | succ f' ih =>
        intro i z h
        unfold upGo at h
        split at h
        · split at h
          · cases h; omega
          · have := ih _ _ h; omega
        · cases h
    have := this f' i z hz
    omega
  | f + 1, 0, i, hf, hf' => by
    have := h.1
    refine ⟨fun z hz => ?_, fun _ z hz => by cases hz⟩
    unfold upGo at hz
    rw [if_neg (by omega)] at hz
    cases hz
  | f + 1, f' + 1, i, hf, hf' => by
    have h0 := h.1
    unfold upGo
    by_cases hi : i + e.size ≤ s.size
    · rw [if_pos hi, if_pos (show i + e.size ≤ s'.size by omega), h.occ e i hi]
      by_cases ho : Go.Proofs.Ytpkbmgpbagdalaa.occ s e i = true
      · rw [if_pos ho, if_pos ho]
        exact ⟨fun z hz => ⟨hz, by cases hz; omega, by cases hz; omega⟩, fun hz => by cases hz⟩
      · rw [if_neg ho, if_neg ho]
        have := Pre.up h e f f' (i + 1) (by omega) (by omega)
        exact ⟨fun z hz => ⟨(this.1 z hz).1, (this.1 z hz).2.1, by have := (this.1 z hz).2.2; omega⟩, this.2⟩
    · rw [if_neg hi]
      refine ⟨(fun z hz => by cases hz), fun _ z hz => ?_⟩
      split at hz
      · split at hz
        · cases hz; omega
        · have : ∀ f' i z, upGo s' e f' i = some z → i + e.size ≤ z := by
            intro f'
            induction f' with
            | zero => intro i z h; cases h
            | succ f' ih =>
              intro i z h
              unfold upGo at h
              split at h
              · split at h
                · cases h; omega
                · have := ih _ _ h; omega
              · cases h
          have := this f' (i + 1) z hz
          omega
      · cases hz
theorem Pre.upTo {s s' : ByteArray} (h : Pre s s') (i : Nat) (kd : Int) (e : ByteArray) (hi : i ≤ s.size) : Grows s s' (upToV s i kd e) (upToV s' i kd e) ∧ i ≤ (upToV s i kd e).size := by
  have h0 := h.1
  have hu := h.up e (s.size + 1 - i) (s'.size + 1 - i) i (Nat.le_refl _) (Nat.le_refl _)
  unfold upToV upAt
  cases hs : upGo s e (s.size + 1 - i) i with
  | some z =>
    obtain ⟨h1, h2, h3⟩ := hu.1 z hs
    rw [h1]
    exact ⟨⟨h2, fun _ => rfl, fun h => by cases h⟩, h3⟩
  | none =>
    refine ⟨⟨Nat.le_refl _, (fun h => by cases h), fun _ => ⟨rfl, ?_, rfl⟩⟩, hi⟩
    cases hs' : upGo s' e (s'.size + 1 - i) i with
    | some z => exact Nat.le_of_lt (hu.2 hs z hs')
    | none => exact h0

theorem isCom_iff (t : ByteArray) : isCom t = true ↔ 4 ≤ t.size ∧ byt t 0 = 60 ∧ byt t 1 = 33 ∧ byt t 2 = 45 ∧ byt t 3 = 45 := by
  have hb : ∀ i, byt t i = ((t.data.toList.getD i 0).toNat : Int) := by
    intro i
    unfold byt
    rw [List.getD_eq_getElem?_getD, Array.getElem?_toList, Array.getD_eq_getD_getElem?]
  have hs : t.size = t.data.toList.length := by simp
  simp only [hb, hs]
  unfold isCom Lib.hasPrefix comB
  generalize t.data.toList = l
  have hc : ∀ (a : UInt8) (n : Nat), n < 256 → (((a.toNat : Int) = (n : Int)) ↔ a = UInt8.ofNat n) := by
    intro a n hn
    constructor
    · intro h
      apply UInt8.toNat_inj.1
      rw [UInt8.toNat_ofNat']
      omega
    · rintro rfl
      rw [UInt8.toNat_ofNat']
      omega
  match l with
  | [] => simp
  | [_] => simp
  | [_, _] => simp
  | [_, _, _] => simp
  | a :: b :: c :: d :: l =>
    have h1 : ((a.toNat : Int) = 60) ↔ a = UInt8.ofNat 60 := hc a 60 (by decide)
    have h2 : ((b.toNat : Int) = 33) ↔ b = UInt8.ofNat 33 := hc b 33 (by decide)
    have h3 : ((c.toNat : Int) = 45) ↔ c = UInt8.ofNat 45 := hc c 45 (by decide)
    have h4 : ((d.toNat : Int) = 45) ↔ d = UInt8.ofNat 45 := hc d 45 (by decide)
    have e0 : (a :: b :: c :: d :: l).getD 0 0 = a := rfl
    have e1 : (a :: b :: c :: d :: l).getD 1 0 = b := rfl
    have e2 : (a :: b :: c :: d :: l).getD 2 0 = c := rfl
    have e3 : (a :: b :: c :: d :: l).getD 3 0 = d := rfl
    rw [e0, e1, e2, e3, h1, h2, h3, h4]
    simp only [List.isPrefixOf, Bool.and_eq_true, beq_iff_eq, List.length_cons, and_true]
    constructor
    · rintro ⟨r1, r2, r3, r4⟩
      exact ⟨by omega, r1.symm, r2.symm, r3.symm, r4.symm⟩
    · rintro ⟨_, r1, r2, r3, r4⟩
      exact ⟨r1.symm, r2.symm, r3.symm, r4.symm⟩

theorem Pre.head {s s' : ByteArray} (h : Pre s s') (h2 : 2 ≤ s.size) :
    ((headV s).2 = false → (headV s).1.size = 0 ∧ (headV s').2 = false) ∧
    ((headV s).2 = true → (headV s').2 = true ∧ 2 ≤ (headV s).1.size ∧ Grows s s' (headV s).1 (headV s').1) := by
  have h0 := h.1
  have b1 : byt s' 1 = byt s 1 := h.2 1 (by omega)
  by_cases hc : isCom s = true
  · have hi := (isCom_iff s).1 hc
    have hc' : isCom s' = true := (isCom_iff s').2 ⟨by omega, by rw [h.2 0 (by omega)]; exact hi.2.1, by rw [b1]; exact hi.2.2.1, by rw [h.2 2 (by omega)]; exact hi.2.2.2.1, by rw [h.2 3 (by omega)]; exact hi.2.2.2.2⟩
    unfold headV
    rw [if_pos hc, if_pos hc']
    have := h.upTo 4 2 comE (by omega)
    exact ⟨(fun h => by cases h), fun _ => ⟨rfl, by have := this.2; simp only; omega, this.1⟩⟩
  · by_cases hc' : isCom s' = true
    · -- only with more behind it is it a comment
      have hi := (isCom_iff s').1 hc'
      have h4 : s.size < 4 := by
        rcases Nat.lt_or_ge s.size 4 with h4 | h4
        · exact h4
        · exact absurd ((isCom_iff s).2 ⟨h4, by rw [← h.2 0 (by omega)]; exact hi.2.1, by rw [← b1]; exact hi.2.2.1, by rw [← h.2 2 (by omega)]; exact hi.2.2.2.1, by rw [← h.2 3 (by omega)]; exact hi.2.2.2.2⟩) hc
      have h33 : byt s 1 = 33 := by rw [← b1]; exact hi.2.2.1
      have hV : headV s = (upToV s 2 3 gtE, true) := by
        unfold headV
        rw [if_neg hc, if_neg (fun h => by rw [h33] at h; exact absurd h.1 (by decide)), if_pos (Or.inl h33)]
      have hV' : headV s' = (upToV s' 4 2 comE, true) := by
        unfold headV
        rw [if_pos hc']
      rw [hV, hV']
      have hno : upAt s gtE 2 = none := by
        apply upGo_none
        intro j hj hje
        have hj2 : j = 2 := by have : gtE.size = 1 := rfl; omega
        subst hj2
        have hb2 : byt s 2 = 45 := by rw [← h.2 2 (by have : gtE.size = 1 := rfl; omega)]; exact hi.2.2.2.1
        cases ho : Go.Proofs.Ytpkbmgpbagdalaa.occ s gtE 2
        · rfl
        · unfold Go.Proofs.Ytpkbmgpbagdalaa.occ at ho
          have he := eq_of_beq ho
          have he2 := str_toList_inj.1 he
          have := congrArg (fun x => byt x 0) he2
          change byt _ 0 = byt _ 0 at this
          rw [byt_extract s 2 (2 + gtE.size) 0 (by have : gtE.size = 1 := rfl; omega) hje, hb2] at this
          cases this
      have hm : upToV s 2 3 gtE = ⟨3, s.size, ⟨#[]⟩, [], false, false⟩ := by unfold upToV; rw [hno]
      rw [hm]
      refine ⟨(fun h => by cases h), fun _ => ⟨rfl, h2, Nat.le_refl _, (fun h => by cases h), fun _ => ⟨rfl, ?_, rfl⟩⟩⟩
      have := (Pre.upTo (s := s') (s' := s') ⟨Nat.le_refl _, fun _ _ => rfl⟩ 4 2 comE hi.1).2
      show s.size ≤ (upToV s' 4 2 comE).size
      omega
    · by_cases h47 : byt s 1 = 47
      · by_cases h3 : 2 < s.size
        · have b2 : byt s' 2 = byt s 2 := h.2 2 h3
          cases hl : letterB (byt s 2)
          · have hV : headV s = (upToV s 2 3 gtE, true) := by
              unfold headV
              rw [if_neg hc, if_neg (fun h => by rw [hl] at h; exact absurd h.2.2 (by decide)), if_pos (Or.inr (Or.inr h47))]
            have hV' : headV s' = (upToV s' 2 3 gtE, true) := by
              unfold headV
              rw [b1, b2, if_neg hc', if_neg (fun h => by rw [hl] at h; exact absurd h.2.2 (by decide)), if_pos (Or.inr (Or.inr h47))]
            rw [hV, hV']
            have := h.upTo 2 3 gtE (by omega)
            exact ⟨(fun h => by cases h), fun _ => ⟨rfl, this.2, this.1⟩⟩
          · have hV : headV s = (namedV s 2 1, true) := by
              unfold headV
              rw [if_neg hc, if_pos ⟨h47, h3, hl⟩]
            have hV' : headV s' = (namedV s' 2 1, true) := by
              unfold headV
              rw [b1, b2, if_neg hc', if_pos ⟨h47, by omega, hl⟩]
            rw [hV, hV']
            have := h.named 2 1 (by omega)
            exact ⟨(fun h => by cases h), fun _ => ⟨rfl, this.2, this.1⟩⟩
        · have hs2 : s.size = 2 := by omega
          have hV : headV s = (upToV s 2 3 gtE, true) := by
            unfold headV
            rw [if_neg hc, if_neg (fun h => h3 h.2.1), if_pos (Or.inr (Or.inr h47))]
          have hno : upAt s gtE 2 = none := upGo_none _ _ _ _ fun j hj hje => by have : gtE.size = 1 := rfl; omega
          have hm : upToV s 2 3 gtE = ⟨3, s.size, ⟨#[]⟩, [], false, false⟩ := by unfold upToV; rw [hno]
          rw [hV, hm]
          have hge : (headV s').2 = true ∧ 2 ≤ (headV s').1.size := by
            have hp : Pre s' s' := ⟨Nat.le_refl _, fun _ _ => rfl⟩
            unfold headV
            rw [if_neg hc', b1]
            split
            · exact ⟨rfl, (hp.named 2 1 (by omega)).2⟩
            · rw [if_pos (Or.inr (Or.inr h47))]
              exact ⟨rfl, (hp.upTo 2 3 gtE (by omega)).2⟩
          exact ⟨(fun h => by cases h), fun _ => ⟨hge.1, h2, Nat.le_refl _, (fun h => by cases h), fun _ => ⟨rfl, by rw [hs2]; exact hge.2, rfl⟩⟩⟩
      · have n47 : ∀ (t : ByteArray), byt t 1 = byt s 1 → ¬ (byt t 1 = 47 ∧ 2 < t.size ∧ letterB (byt t 2) = true) := fun t ht hh => h47 (by rw [← ht]; exact hh.1)
        by_cases h33 : byt s 1 = 33 ∨ byt s 1 = 63
        · have h33' : byt s 1 = 33 ∨ byt s 1 = 63 ∨ byt s 1 = 47 := h33.elim .inl (fun h => .inr (.inl h))
          have hV : headV s = (upToV s 2 3 gtE, true) := by
            unfold headV
            rw [if_neg hc, if_neg (n47 s rfl), if_pos h33']
          have hV' : headV s' = (upToV s' 2 3 gtE, true) := by
            unfold headV
            rw [if_neg hc', if_neg (n47 s' b1), b1, if_pos h33']
          rw [hV, hV']
          have := h.upTo 2 3 gtE (by omega)
          exact ⟨(fun h => by cases h), fun _ => ⟨rfl, this.2, this.1⟩⟩
        · have n33 : ¬ (byt s 1 = 33 ∨ byt s 1 = 63 ∨ byt s 1 = 47) := fun hh => hh.elim (fun a => h33 (.inl a)) (fun b => b.elim (fun a => h33 (.inr a)) h47)
          cases hl : letterB (byt s 1)
          · have hV : headV s = (mk0, false) := by
              unfold headV
              rw [if_neg hc, if_neg (n47 s rfl), if_neg n33, if_neg (by rw [hl]; decide)]
            have hV' : headV s' = (mk0, false) := by
              unfold headV
              rw [if_neg hc', if_neg (n47 s' b1), b1, if_neg n33, if_neg (by rw [hl]; decide)]
            rw [hV, hV']
            exact ⟨fun _ => ⟨rfl, rfl⟩, fun h => by cases h⟩
          · have hV : headV s = (namedV s 1 0, true) := by
              unfold headV
              rw [if_neg hc, if_neg (n47 s rfl), if_neg n33, if_pos hl]
            have hV' : headV s' = (namedV s' 1 0, true) := by
              unfold headV
              rw [if_neg hc', if_neg (n47 s' b1), b1, if_neg n33, if_pos hl]
            rw [hV, hV']
            have := h.named 1 0 (by omega)
            have hn1 : passTo nameC s 1 ≥ 2 := by
              have hp : nameC (byt s 1) = true := by
                unfold letterB at hl
                simp only [Bool.or_eq_true, decide_eq_true_eq] at hl
                unfold nameC blankB
                simp only [Bool.and_eq_true, Bool.not_eq_true', Bool.or_eq_false_iff, beq_eq_false_iff_ne, bne_iff_ne]
                omega
              rw [passTo_step (by omega) hp]
              exact passTo_ge _ _ _
            have hn2 := restAt_ge s (passTo nameC s 1) [] (passTo_le nameC s (by omega))
            exact ⟨(fun h => by cases h), fun _ => ⟨rfl, by show 2 ≤ (restAt s (passTo nameC s 1) []).at_; omega, this.1⟩⟩

/-- TagGrows, plain. -/
theorem grows_read {s s' : ByteArray} (h : Pre s s') :
    ((readV s 0).2 = false → (readV s 0).1.size = 0 ∧ (s.size < 2 ∨ (readV s' 0).2 = false)) ∧
    ((readV s 0).2 = true → (readV s' 0).2 = true ∧ 2 ≤ (readV s 0).1.size ∧ Grows s s' (readV s 0).1 (readV s' 0).1) := by
  have h0 := h.1
  have hex : ∀ t : ByteArray, t.extract (Int.toNat 0) t.size = t := fun t => ByteArray.extract_zero_size
  by_cases h2 : 2 ≤ s.size
  · have b0 : byt s' 0 = byt s 0 := h.2 0 (by omega)
    by_cases h60 : byt s 0 = 60
    · have hr : readV s 0 = headV s := by
        unfold readV
        rw [hex]
        exact if_neg (fun hh => hh.elim (fun a => by omega) (fun b => b.elim (fun a => by omega) (fun a => a h60)))
      have hr' : readV s' 0 = headV s' := by
        unfold readV
        rw [hex]
        exact if_neg (fun hh => hh.elim (fun a => by omega) (fun b => b.elim (fun a => by omega) (fun a => a (b0.trans h60))))
      rw [hr, hr']
      have := h.head h2
      exact ⟨fun hf => ⟨(this.1 hf).1, .inr (this.1 hf).2⟩, this.2⟩
    · have hr : readV s 0 = (mk0, false) := by unfold readV; exact if_pos (.inr (.inr h60))
      have hr' : readV s' 0 = (mk0, false) := by unfold readV; exact if_pos (.inr (.inr (fun hh => h60 (b0.symm.trans hh))))
      rw [hr, hr']
      exact ⟨fun _ => ⟨rfl, .inr rfl⟩, fun h => by cases h⟩
  · have hr : readV s 0 = (mk0, false) := by unfold readV; exact if_pos (.inr (.inl (by omega)))
    rw [hr]
    exact ⟨fun _ => ⟨rfl, .inl (by omega)⟩, fun h => by cases h⟩

/-- No text of a mark is longer than the bytes. -/
def Small (s : ByteArray) (l : List (ByteArray × ByteArray)) : Prop := ∀ a ∈ l, a.1.size ≤ s.size ∧ a.2.size ≤ s.size
theorem valueV_small (s : ByteArray) (i : Nat) : (valueV s i).1.size ≤ s.size := by
  unfold valueV quotedV
  simp only
  split <;> simp only [ByteArray.size_extract] <;> omega
theorem attrV_small (s : ByteArray) (i : Nat) : (attrV s i).1.1.size ≤ s.size ∧ (attrV s i).1.2.size ≤ s.size := by
  unfold attrV valueAt
  simp only [lowerB_size, ByteArray.size_extract]
  refine ⟨by omega, ?_⟩
  split
  · exact valueV_small s _
  · exact Nat.zero_le _
theorem restGo_small (s : ByteArray) : ∀ (f i : Nat) (acc), i ≤ s.size → acc.length ≤ i → Small s acc → Small s (restGo s f i acc).attrs ∧ (restGo s f i acc).attrs.length ≤ s.size
  | 0, i, acc, hi, hl, ha => ⟨ha, by unfold restGo; simp only; omega⟩
  | f + 1, i, acc, hi, hl, ha => by
    have h1 := passTo_ge skipC s i
    unfold restGo
    split
    · exact ⟨ha, by simp only; omega⟩
    · split
      · exact ⟨ha, by simp only; omega⟩
      · have hbd := attrV_bd s (passTo skipC s i) (by omega)
        refine restGo_small s f _ _ hbd.2 (by simp; omega) ?_
        intro a hm
        rcases List.mem_append.1 hm with h | h
        · exact ha a h
        · obtain rfl := List.mem_singleton.1 h
          exact attrV_small s _
theorem named_small (s : ByteArray) (i : Nat) (kd : Int) (hi : i ≤ s.size) : Small s (namedV s i kd).attrs ∧ (namedV s i kd).attrs.length ≤ s.size :=
  restGo_small s _ _ [] (passTo_le nameC s hi) (Nat.zero_le _) (fun a h => by cases h)
theorem head_small (t : ByteArray) (h2 : 2 ≤ t.size) : Small t (headV t).1.attrs ∧ (headV t).1.attrs.length ≤ t.size := by
  have he : ∀ M : Mk, M.attrs = [] → Small t M.attrs ∧ M.attrs.length ≤ t.size := fun M h => by rw [h]; exact ⟨(fun a h => by cases h), Nat.zero_le _⟩
  unfold headV
  split
  · exact he _ (upToV_attrs ..)
  · split
    · exact named_small t 2 1 h2
    · split
      · exact he _ (upToV_attrs ..)
      · split
        · exact named_small t 1 0 (by omega)
        · exact he _ rfl
theorem read_small (s : ByteArray) (i : Int) : Small s (readV s i).1.attrs ∧ (readV s i).1.attrs.length ≤ s.size := by
  unfold readV
  split
  · exact ⟨(fun a h => by cases h), Nat.zero_le _⟩
  · rename_i hc
    have h1 : ¬ i < 0 := fun h => hc (.inl h)
    have h2 : ¬ (s.size : Int) - 1 ≤ i := fun h => hc (.inr (.inl h))
    have hs : (s.extract i.toNat s.size).size = s.size - i.toNat := by rw [ByteArray.size_extract]; omega
    have h := head_small (s.extract i.toNat s.size) (by omega)
    refine ⟨fun a ha => ?_, by omega⟩
    have := h.1 a ha
    omega
end Go.Proofs.Ytpkbmgpbagdalaa
