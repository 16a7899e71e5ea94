/- Chapter 18: great letters for small ones: plain. -/
import Derived.Test.YtpkbmgpbagdalaaTagPl
namespace Go.Proofs.Ytpkbmgpbagdalaa
set_option linter.unusedVariables false

/-- A small letter's great one. -/
def upI (c : Int) : Int := if 97 ≤ c ∧ c ≤ 122 then c - 32 else c
/-- c has great letters where s has small ones. -/
def Cas (s c : ByteArray) : Prop := c.size = s.size ∧ ∀ i, i < s.size → byt c i = upI (byt s i)
def Blind (p : Int → Bool) : Prop := ∀ x, p (upI x) = p x
/-- No letter. -/
def NoL (v : Int) : Prop := ¬ (65 ≤ v ∧ v ≤ 90) ∧ ¬ (97 ≤ v ∧ v ≤ 122)

theorem upI_eq {v : Int} (h : NoL v) (x : Int) : upI x = v ↔ x = v := by
  obtain ⟨h1, h2⟩ := h
  unfold upI
  split <;> omega
theorem low_up (x : Int) : lowI (upI x) = lowI x := by
  unfold lowI upI
  by_cases h1 : 97 ≤ x ∧ x ≤ 122
  · rw [if_pos h1, if_pos (by omega), if_neg (by omega)]; omega
  · rw [if_neg h1]
theorem blind_ne {v : Int} (h : NoL v) : Blind (fun c => c != v) := by
  intro x
  have := upI_eq h x
  show (upI x != v) = (x != v)
  by_cases hx : x = v
  · rw [this.2 hx, hx]
  · have h2 : ¬ upI x = v := fun e => hx (this.1 e)
    rw [bne_iff_ne.2 h2, bne_iff_ne.2 hx]
theorem blind_beq {v : Int} (h : NoL v) : Blind (fun c => c == v) := by
  intro x
  have := upI_eq h x
  show (upI x == v) = (x == v)
  by_cases hx : x = v
  · rw [this.2 hx, hx]
  · have h2 : ¬ upI x = v := fun e => hx (this.1 e)
    rw [beq_eq_false_iff_ne.2 h2, beq_eq_false_iff_ne.2 hx]
theorem noL_of {v : Int} (h : decide (¬ (65 ≤ v ∧ v ≤ 90) ∧ ¬ (97 ≤ v ∧ v ≤ 122)) = true) : NoL v := by
  have h2 := of_decide_eq_true h
  exact h2
theorem blind_blank : Blind blankB := by
  intro x
  unfold blankB
  have e1 := blind_beq (v := 9) (noL_of (by decide)) x
  have e2 := blind_beq (v := 10) (noL_of (by decide)) x
  have e3 := blind_beq (v := 12) (noL_of (by decide)) x
  have e4 := blind_beq (v := 13) (noL_of (by decide)) x
  have e5 := blind_beq (v := 32) (noL_of (by decide)) x
  simp only at e1 e2 e3 e4 e5
  rw [e1, e2, e3, e4, e5]
theorem blind_name : Blind nameC := by
  intro x
  unfold nameC
  have e1 := blind_ne (v := 47) (noL_of (by decide)) x
  have e2 := blind_ne (v := 62) (noL_of (by decide)) x
  simp only at e1 e2
  rw [blind_blank, e1, e2]
theorem blind_skip : Blind skipC := by
  intro x
  unfold skipC
  have e1 := blind_beq (v := 47) (noL_of (by decide)) x
  simp only at e1
  rw [blind_blank, e1]
theorem blind_attr : Blind attrC := by
  intro x
  unfold attrC
  have e1 := blind_ne (v := 47) (noL_of (by decide)) x
  have e2 := blind_ne (v := 62) (noL_of (by decide)) x
  have e3 := blind_ne (v := 61) (noL_of (by decide)) x
  simp only at e1 e2 e3
  rw [blind_blank, e1, e2, e3]
theorem blind_val : Blind valC := by
  intro x
  unfold valC
  have e2 := blind_ne (v := 62) (noL_of (by decide)) x
  simp only at e2
  rw [blind_blank, e2]
theorem blind_letter : Blind letterB := by
  intro x
  unfold letterB upI
  split
  · rename_i h
    have h1 : 65 ≤ x - 32 ∧ x - 32 ≤ 90 := by omega
    rw [decide_eq_true h1, decide_eq_true h]
    simp
  · rfl

theorem byt_out (s : ByteArray) (i : Nat) (h : s.size ≤ i) : byt s i = 0 := by
  unfold byt
  have hd : s.data.size ≤ i := h
  rw [Array.getD_eq_getD_getElem?, Array.getElem?_eq_none hd]
  rfl
theorem Cas.all {s c : ByteArray} (h : Cas s c) (i : Nat) : byt c i = upI (byt s i) := by
  rcases Nat.lt_or_ge i s.size with hi | hi
  · exact h.2 i hi
  · rw [byt_out s i hi, byt_out c i (by rw [h.1]; exact hi)]
    rfl
theorem Cas.is {s c : ByteArray} (h : Cas s c) {v : Int} (hv : NoL v) (i : Nat) : byt c i = v ↔ byt s i = v := by
  rw [h.all i]
  exact upI_eq hv _
theorem Cas.pass {s c : ByteArray} (h : Cas s c) {p : Int → Bool} (hp : Blind p) (i : Nat) : passTo p c i = passTo p s i := by
  unfold passTo
  rw [h.1]
  generalize s.size - i = f
  induction f generalizing i with
  | zero => rfl
  | succ f ih =>
    unfold passGo
    rw [h.all i, hp, ih (i + 1)]
theorem Cas.extract {s c : ByteArray} (h : Cas s c) {i j : Nat} (hj : j ≤ s.size) : Cas (s.extract i j) (c.extract i j) := by
  refine ⟨by rw [ByteArray.size_extract, ByteArray.size_extract, h.1], fun k hk => ?_⟩
  rw [ByteArray.size_extract] at hk
  rw [byt_extract s i j k (by omega) hj, byt_extract c i j k (by omega) (by rw [h.1]; exact hj)]
  exact h.all _
theorem Cas.lower {s c : ByteArray} (h : Cas s c) : lowerB c = lowerB s := by
  apply ext_byt
  · rw [lowerB_size, lowerB_size, h.1]
  · intro i hi
    rw [lowerB_size] at hi
    rw [byt_lowerB c i hi, byt_lowerB s i (by rw [← h.1]; exact hi), h.all i, low_up]

theorem endSl_iff (x : ByteArray) : endSl x = true ↔ 1 ≤ x.size ∧ byt x (x.size - 1) = 47 := by
  unfold endSl
  rw [Bool.and_eq_true, decide_eq_true_eq]
  constructor
  · rintro ⟨h1, h2⟩
    refine ⟨h1, ?_⟩
    have he := str_toList_inj.1 (eq_of_beq h2)
    have h3 := congrArg (fun y => byt y 0) he
    change byt _ 0 = byt _ 0 at h3
    rw [byt_extract x (x.size - 1) x.size 0 (by omega) (Nat.le_refl _), Nat.add_zero] at h3
    rw [h3]
    rfl
  · rintro ⟨h1, h2⟩
    refine ⟨h1, ?_⟩
    have he : x.extract (x.size - 1) x.size = ⟨#[47]⟩ := by
      apply ext_byt
      · rw [ByteArray.size_extract]
        show min x.size x.size - (x.size - 1) = 1
        omega
      · intro k hk
        rw [ByteArray.size_extract] at hk
        obtain rfl : k = 0 := by omega
        rw [byt_extract x (x.size - 1) x.size 0 (by omega) (Nat.le_refl _), Nat.add_zero, h2]
        rfl
    rw [he]
    simp
theorem Cas.endSl {s c : ByteArray} (h : Cas s c) : endSl c = endSl s := by
  have h1 := endSl_iff c
  have h2 := endSl_iff s
  rw [h.1, h.is (v := 47) (noL_of (by decide))] at h1
  exact Bool.eq_iff_iff.2 (h1.trans h2.symm)

/-- What of an attribute is the same. -/
def key (a : ByteArray × ByteArray) : ByteArray × ByteArray := (a.1, lowerB a.2)

theorem Cas.quoted {s c : ByteArray} (h : Cas s c) {q : Int} (hq : NoL q) (i : Nat) (hi : i < s.size) : lowerB (quotedV q c i).1 = lowerB (quotedV q s i).1 ∧ (quotedV q c i).2 = (quotedV q s i).2 := by
  unfold quotedV
  simp only
  rw [h.pass (blind_ne hq), h.1]
  exact ⟨(h.extract (passTo_le _ s (by omega))).lower, rfl⟩
theorem Cas.value {s c : ByteArray} (h : Cas s c) (i : Nat) (hi : i < s.size) : lowerB (valueV c i).1 = lowerB (valueV s i).1 ∧ (valueV c i).2 = (valueV s i).2 := by
  have h34 := h.is (v := 34) (noL_of (by decide)) (passTo blankB s (i + 1))
  have h39 := h.is (v := 39) (noL_of (by decide)) (passTo blankB s (i + 1))
  have h1 := passTo_le blankB s (i := i + 1) (by omega)
  unfold valueV
  simp only
  simp only [h.pass blind_blank, h.1, h34, h39]
  by_cases hc : passTo blankB s (i + 1) < s.size ∧ (byt s (passTo blankB s (i + 1)) = 34 ∨ byt s (passTo blankB s (i + 1)) = 39)
  · rw [if_pos hc, if_pos hc]
    rcases hc.2 with e | e
    · rw [h34.2 e, e]
      exact h.quoted (noL_of (by decide)) _ hc.1
    · rw [h39.2 e, e]
      exact h.quoted (noL_of (by decide)) _ hc.1
  · rw [if_neg hc, if_neg hc, h.pass blind_val]
    exact ⟨(h.extract (passTo_le _ s h1)).lower, rfl⟩
theorem Cas.attr {s c : ByteArray} (h : Cas s c) (i : Nat) (hi : i < s.size) : key (attrV c i).1 = key (attrV s i).1 ∧ (attrV c i).2 = (attrV s i).2 := by
  have h1 := passTo_le attrC s (i := i + 1) (by omega)
  have h61 := h.is (v := 61) (noL_of (by decide)) (passTo blankB s (passTo attrC s (i + 1)))
  unfold attrV valueAt nameEnd key
  simp only
  simp only [h.pass blind_attr, h.pass blind_blank, h.1, h61, (h.extract h1).lower]
  by_cases hc : passTo blankB s (passTo attrC s (i + 1)) < s.size ∧ byt s (passTo blankB s (passTo attrC s (i + 1))) = 61
  · rw [if_pos hc, if_pos hc]
    have := h.value _ hc.1
    exact ⟨by rw [this.1], this.2⟩
  · rw [if_neg hc, if_neg hc]
    exact ⟨rfl, rfl⟩
theorem Cas.restGo {s c : ByteArray} (h : Cas s c) : ∀ (f i : Nat) (acc acc' : List (ByteArray × ByteArray)), i ≤ s.size → acc'.map key = acc.map key →
    (restGo c f i acc').attrs.map key = (restGo s f i acc).attrs.map key ∧ (restGo c f i acc').at_ = (restGo s f i acc).at_ ∧ (restGo c f i acc').single = (restGo s f i acc).single ∧ (restGo c f i acc').closed = (restGo s f i acc).closed
  | 0, i, acc, acc', hi, ha => ⟨ha, rfl, rfl, rfl⟩
  | f + 1, i, acc, acc', hi, ha => by
    have h1 := passTo_le skipC s hi
    have h62 := h.is (v := 62) (noL_of (by decide)) (passTo skipC s i)
    unfold Go.Proofs.Ytpkbmgpbagdalaa.restGo
    simp only [h.pass blind_skip, h.1, h62]
    by_cases hk : s.size ≤ passTo skipC s i
    · rw [if_pos hk, if_pos hk]
      exact ⟨ha, rfl, rfl, rfl⟩
    · rw [if_neg hk, if_neg hk]
      by_cases hc : byt s (passTo skipC s i) = 62
      · rw [if_pos hc, if_pos hc, (h.extract h1).endSl]
        exact ⟨ha, rfl, rfl, rfl⟩
      · rw [if_neg hc, if_neg hc]
        have hat := h.attr (passTo skipC s i) (by omega)
        have hbd := attrV_bd s (passTo skipC s i) (by omega)
        rw [hat.2]
        exact Cas.restGo h f _ _ _ hbd.2 (by rw [List.map_append, List.map_append, ha, List.map_cons, List.map_cons, hat.1])

/-- What TagCase says of two marks. -/
def SameM (M M' : Mk) : Prop := M'.kind = M.kind ∧ M'.size = M.size ∧ M'.name = M.name ∧ M'.attrs.map key = M.attrs.map key ∧ M'.single = M.single ∧ M'.closed = M.closed
theorem SameM.refl (M : Mk) : SameM M M := ⟨rfl, rfl, rfl, rfl, rfl, rfl⟩
theorem Cas.named {s c : ByteArray} (h : Cas s c) (i : Nat) (kd : Int) (hi : i ≤ s.size) : SameM (namedV s i kd) (namedV c i kd) := by
  have h1 := passTo_le nameC s hi
  have hr := h.restGo (s.size + 1 - passTo nameC s i) (passTo nameC s i) [] [] h1 rfl
  unfold namedV restAt
  simp only
  rw [h.pass blind_name, h.1, (h.extract h1).lower]
  exact ⟨rfl, hr.2.1, rfl, hr.1, hr.2.2.1, hr.2.2.2⟩

theorem occ_iff (s e : ByteArray) (i : Nat) (hi : i + e.size ≤ s.size) : occ s e i = true ↔ ∀ j, j < e.size → byt s (i + j) = byt e j := by
  unfold occ
  rw [beq_iff_eq, str_toList_inj]
  constructor
  · intro he j hj
    rw [← byt_extract s i (i + e.size) j (by omega) hi, he]
  · intro hj
    apply ext_byt
    · rw [ByteArray.size_extract]; omega
    · intro k hk
      rw [ByteArray.size_extract] at hk
      rw [byt_extract s i (i + e.size) k (by omega) hi]
      exact hj k (by omega)
theorem Cas.occ {s c : ByteArray} (h : Cas s c) (e : ByteArray) (he : ∀ j, j < e.size → NoL (byt e j)) (i : Nat) (hi : i + e.size ≤ s.size) : occ c e i = occ s e i := by
  have h1 := occ_iff c e i (by rw [h.1]; exact hi)
  have h2 := occ_iff s e i hi
  refine Bool.eq_iff_iff.2 (h1.trans (Iff.trans ?_ h2.symm))
  constructor
  · intro hh j hj; exact (h.is (he j hj) _).1 (hh j hj)
  · intro hh j hj; exact (h.is (he j hj) _).2 (hh j hj)
theorem Cas.upTo {s c : ByteArray} (h : Cas s c) (i : Nat) (kd : Int) (e : ByteArray) (he : ∀ j, j < e.size → NoL (byt e j)) : upToV c i kd e = upToV s i kd e := by
  have hu : ∀ f i, upGo c e f i = upGo s e f i := by
    intro f
    induction f with
    | zero => intro i; rfl
    | succ f ih =>
      intro i
      unfold upGo
      rw [h.1]
      split
      · rename_i hi
        rw [h.occ e he i hi, ih]
      · rfl
  unfold upToV upAt
  rw [hu, h.1]
theorem comE_noL : ∀ j, j < comE.size → NoL (byt comE j) := by
  intro j hj
  have : j = 0 ∨ j = 1 ∨ j = 2 := by have : comE.size = 3 := rfl; omega
  rcases this with rfl | rfl | rfl <;> exact noL_of (by decide)
theorem gtE_noL : ∀ j, j < gtE.size → NoL (byt gtE j) := by
  intro j hj
  obtain rfl : j = 0 := by have : gtE.size = 1 := rfl; omega
  exact noL_of (by decide)
theorem Cas.isCom {s c : ByteArray} (h : Cas s c) : isCom c = isCom s := by
  have h1 := isCom_iff c
  have h2 := isCom_iff s
  rw [h.1, h.is (v := 60) (noL_of (by decide)), h.is (v := 33) (noL_of (by decide)), h.is (v := 45) (noL_of (by decide)), h.is (v := 45) (noL_of (by decide))] at h1
  exact Bool.eq_iff_iff.2 (h1.trans h2.symm)
theorem Cas.head {s c : ByteArray} (h : Cas s c) (h2 : 2 ≤ s.size) : (headV c).2 = (headV s).2 ∧ SameM (headV s).1 (headV c).1 := by
  have e47 := h.is (v := 47) (noL_of (by decide)) 1
  have e33 := h.is (v := 33) (noL_of (by decide)) 1
  have e63 := h.is (v := 63) (noL_of (by decide)) 1
  have l1 : letterB (byt c 1) = letterB (byt s 1) := by rw [h.all 1, blind_letter]
  have l2 : letterB (byt c 2) = letterB (byt s 2) := by rw [h.all 2, blind_letter]
  unfold headV
  simp only [h.isCom, h.1, e47, e33, e63, l1, l2, h.upTo _ _ _ comE_noL, h.upTo _ _ _ gtE_noL]
  by_cases hc : Go.Proofs.Ytpkbmgpbagdalaa.isCom s = true
  · rw [if_pos hc, if_pos hc]; exact ⟨rfl, SameM.refl _⟩
  · rw [if_neg hc, if_neg hc]
    by_cases h3 : byt s 1 = 47 ∧ 2 < s.size ∧ letterB (byt s 2) = true
    · rw [if_pos h3, if_pos h3]; exact ⟨rfl, h.named 2 1 h2⟩
    · rw [if_neg h3, if_neg h3]
      by_cases h4 : byt s 1 = 33 ∨ byt s 1 = 63 ∨ byt s 1 = 47
      · rw [if_pos h4, if_pos h4]; exact ⟨rfl, SameM.refl _⟩
      · rw [if_neg h4, if_neg h4]
        by_cases h5 : letterB (byt s 1) = true
        · rw [if_pos h5, if_pos h5]; exact ⟨rfl, h.named 1 0 (by omega)⟩
        · rw [if_neg h5, if_neg h5]; exact ⟨rfl, SameM.refl _⟩
/-- TagCase, plain. -/
theorem case_read {s c : ByteArray} (h : Cas s c) : (readV c 0).2 = (readV s 0).2 ∧ SameM (readV s 0).1 (readV c 0).1 := by
  have hex : ∀ t : ByteArray, t.extract (Int.toNat 0) t.size = t := fun t => ByteArray.extract_zero_size
  have e60 := h.is (v := 60) (noL_of (by decide)) 0
  unfold readV
  rw [hex, hex, h.1]
  show (if (0 : Int) < 0 ∨ (s.size : Int) - 1 ≤ 0 ∨ byt c 0 ≠ 60 then (mk0, false) else headV c).2 = (if (0 : Int) < 0 ∨ (s.size : Int) - 1 ≤ 0 ∨ byt s 0 ≠ 60 then (mk0, false) else headV s).2 ∧ _
  by_cases hc : (0 : Int) < 0 ∨ (s.size : Int) - 1 ≤ 0 ∨ byt s 0 ≠ 60
  · have hc' : (0 : Int) < 0 ∨ (s.size : Int) - 1 ≤ 0 ∨ byt c 0 ≠ 60 := hc.imp id (fun h => h.imp id (fun h e => h (e60.1 e)))
    rw [if_pos hc, if_pos hc']
    refine ⟨rfl, ?_⟩
    show SameM (if (0 : Int) < 0 ∨ (s.size : Int) - 1 ≤ 0 ∨ byt s 0 ≠ 60 then (mk0, false) else headV s).1 (if (0 : Int) < 0 ∨ (s.size : Int) - 1 ≤ 0 ∨ byt c 0 ≠ 60 then (mk0, false) else headV c).1
    rw [if_pos hc, if_pos hc']
    exact SameM.refl _
  · have hc' : ¬ ((0 : Int) < 0 ∨ (s.size : Int) - 1 ≤ 0 ∨ byt c 0 ≠ 60) := fun hh => hc (hh.imp id (fun h => h.imp id (fun h e => h (e60.2 e))))
    have h2 : 2 ≤ s.size := by
      have : ¬ (s.size : Int) - 1 ≤ 0 := fun hh => hc (.inr (.inl hh))
      omega
    rw [if_neg hc, if_neg hc']
    refine ⟨(h.head h2).1, ?_⟩
    show SameM (if (0 : Int) < 0 ∨ (s.size : Int) - 1 ≤ 0 ∨ byt s 0 ≠ 60 then (mk0, false) else headV s).1 (if (0 : Int) < 0 ∨ (s.size : Int) - 1 ≤ 0 ∨ byt c 0 ≠ 60 then (mk0, false) else headV c).1
    rw [if_neg hc, if_neg hc']
    exact (h.head h2).2
end Go.Proofs.Ytpkbmgpbagdalaa
